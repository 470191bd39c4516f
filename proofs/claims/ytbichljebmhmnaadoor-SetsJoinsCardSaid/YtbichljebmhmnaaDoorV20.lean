/- The machine without fuel: the limit, and that it unfolds. -/
import Derived.Test.YtbichljebmhmnaaDoorV19
namespace Go.Vs
set_option linter.unusedSimpArgs false
set_option linter.unusedVariables false
open Go Go.RowKit

abbrev Ev := IC → St → Option (Out × St)

def LeE (a b : Ev) : Prop := ∀ c s r, a c s = some r → b c s = some r

theorem callS_mono {p : Prg} {a b : Ev} (h : LeE a b) {fn : Nat} {args : List AV} {hp : List AB} {r : AV × List AB} (hc : callS p a fn args hp = some r) : callS p b fn args hp = some r := by
  unfold callS at hc ⊢
  cases hF : p.fn fn with
  | none => simpa only [hF] using hc
  | some F =>
    simp only [hF] at hc ⊢
    split at hc
    · rename_i s he; simp only [h _ _ _ he]; exact hc
    · rename_i s he; simp only [h _ _ _ he]; exact hc
    · cases hc

theorem callP_mono {p : Prg} {a b : Ev} (h : LeE a b) {fn : Nat} {args : List AV} {hp : List AB} {r : AV} (hc : callP p a fn args hp = some r) : callP p b fn args hp = some r := by
  unfold callP at hc ⊢
  split at hc
  · rename_i hpu
    rw [if_pos hpu]
    split at hc
    · rename_i v h' he
      simp only [callS_mono h he]; exact hc
    · cases hc
  · rename_i hpu
    rw [if_neg hpu]
    split at hc
    · rename_i args' ha
      split at hc
      · rename_i v h' he
        simp only [callS_mono h he]; exact hc
      · cases hc
    · cases hc

theorem callY_mono {a b : Ev} (h : LeE a b) {k : Nat} {args : List AV} {hp : List AB} {r : AV × List AB} (hc : callY a k args hp = some r) : callY b k args hp = some r := by
  unfold callY at hc ⊢
  split at hc
  rotate_left
  · cases hc
  split at hc
  rotate_left
  · cases hc
  rename_i hl
  rw [if_pos hl]
  split at hc
  rotate_left
  · cases hc
  rename_i s1 h1
  simp only [h _ _ _ h1]
  split at hc
  rotate_left
  · cases hc
  split at hc
  rotate_left
  · cases hc
  rename_i h2
  simp only [h _ _ _ h2]
  exact hc

theorem stepI_mono {p : Prg} {a b : Ev} (h : LeE a b) {i : Ins} {s : St} {r : AV × List AB} (hc : stepI (envOf p a) i s = some r) : stepI (envOf p b) i s = some r := by
  unfold stepI at hc ⊢
  split at hc
  · simp only [envOf] at hc ⊢
    split at hc
    · rename_i g caps hf
      simp only [Option.map_eq_some_iff] at hc ⊢
      obtain ⟨v, h1, rfl⟩ := hc
      exact ⟨v, callP_mono h h1, rfl⟩
    · cases hc
  · simp only [envOf] at hc ⊢
    split at hc
    · rename_i g caps hf
      try simp only [hf]
      exact callS_mono h hc
    · exact callY_mono h hc
    · cases hc
  · exact hc

theorem stepO_mono {p : Prg} {a b : Ev} (h : LeE a b) {o : IOp} {s r : St} (hc : stepO (envOf p a) o s = some r) : stepO (envOf p b) o s = some r := by
  unfold stepO at hc ⊢
  split at hc
  · cases hc
  · rename_i hw; try simp only [hw]
    exact hc
  · rename_i hw
    try simp only [hw]
    simp only [Option.map_eq_some_iff] at hc ⊢
    obtain ⟨x, h1, rfl⟩ := hc
    exact ⟨x, stepI_mono h h1, rfl⟩

theorem runOps_mono {p : Prg} {a b : Ev} (h : LeE a b) : ∀ (l : List IOp) (s r : St), runOps (envOf p a) l s = some r → runOps (envOf p b) l s = some r
  | [], s, r, hc => hc
  | o :: os, s, r, hc => by
    simp only [runOps, Option.bind_eq_some_iff] at hc ⊢
    obtain ⟨s1, h1, h2⟩ := hc
    exact ⟨s1, stepO_mono h h1, runOps_mono h os s1 r h2⟩

theorem run_mono {p : Prg} {a b : Ev} (h : LeE a b) : ∀ (c : IC) (s : St) (r : Out × St), run (envOf p a) a c s = some r → run (envOf p b) b c s = some r
  | .skip, s, r, hc => hc
  | .ops l, s, r, hc => by
    simp only [run, Option.map_eq_some_iff] at hc ⊢
    obtain ⟨s1, h1, rfl⟩ := hc
    exact ⟨s1, runOps_mono h l s s1 h1, rfl⟩
  | .seq x y, s, r, hc => by
    simp only [run] at hc ⊢
    split at hc
    · rename_i s1 he
      simp only [run_mono h x s _ he]
      exact run_mono h y s1 r hc
    · rename_i hne
      rw [run_mono h x s r hc]
      obtain ⟨o, s1⟩ := r
      cases o with
      | norm => exact (hne s1 hc).elim
      | brk i => rfl
      | ret => rfl
  | .cond c x y, s, r, hc => by
    simp only [run] at hc ⊢
    have e : (envOf p b).gl = (envOf p a).gl := rfl
    rw [e]
    split at hc
    · rename_i t hb
      try simp only [hb]
      cases t with
      | true => exact run_mono h x s r (by simpa using hc)
      | false => exact run_mono h y s r (by simpa using hc)
    · cases hc
  | .block id x, s, r, hc => by
    simp only [run] at hc ⊢
    split at hc
    · rename_i i s1 he
      simp only [run_mono h x s _ he]
      exact hc
    · rename_i hne
      rw [run_mono h x s r hc]
      obtain ⟨o, s1⟩ := r
      cases o with
      | norm => rfl
      | brk i => exact (hne i s1 hc).elim
      | ret => rfl
  | .loop live x, s, r, hc => by
    simp only [run] at hc ⊢
    split at hc
    · rename_i s1 he
      simp only [run_mono h x _ _ he]
      exact h _ _ _ hc
    · rename_i hne
      rw [run_mono h x _ r hc]
      obtain ⟨o, s1⟩ := r
      cases o with
      | norm => exact (hne s1 hc).elim
      | brk i => rfl
      | ret => rfl
  | .loopAt n live x, s, r, hc => by
    simp only [run] at hc ⊢
    split at hc
    · rename_i s1 he
      simp only [run_mono h x _ _ he]
      exact h _ _ _ hc
    · rename_i hne
      rw [run_mono h x _ r hc]
      obtain ⟨o, s1⟩ := r
      cases o with
      | norm => exact (hne s1 hc).elim
      | brk i => rfl
      | ret => rfl
  | .rangeF fo ps ia ib, s, r, hc => by
    simp only [run] at hc ⊢
    have e : (envOf p b).gl = (envOf p a).gl := rfl
    rw [e]
    split at hc
    · rename_i g caps hf
      split at hc
      · rename_i q hq
        have : (envOf p b).callS g (.yl s.h.length :: caps) (s.h ++ [.loop 0 none ps s.f ia ib]) = some q := callS_mono h hq
        simp only [this]
        exact hc
      · cases hc
    · cases hc
  | .exit id, s, r, hc => hc
  | .ret, s, r, hc => hc
  | .bad, s, r, hc => hc

theorem evalN_succ (p : Prg) : ∀ n, LeE (evalN p n) (evalN p (n + 1))
  | 0 => fun c s r h => by simp [evalN] at h
  | n + 1 => fun c s r h => run_mono (evalN_succ p n) c s r h

theorem evalN_le (p : Prg) {n m : Nat} (h : n ≤ m) : LeE (evalN p n) (evalN p m) := by
  induction h with
  | refl => exact fun _ _ _ h => h
  | step _ ih => exact fun c s r h => evalN_succ p _ c s r (ih c s r h)

open Classical in
noncomputable def ev (p : Prg) : Ev := fun c s => if h : ∃ r, ∃ n, evalN p n c s = some r then some h.choose else none

theorem ev_iff {p : Prg} {c : IC} {s : St} {r : Out × St} : ev p c s = some r ↔ ∃ n, evalN p n c s = some r := by
  unfold ev
  constructor
  · intro h
    split at h
    · rename_i hx
      simp only [Option.some.injEq] at h
      rw [← h]
      exact hx.choose_spec
    · cases h
  · rintro ⟨n, h⟩
    have hx : ∃ r, ∃ n, evalN p n c s = some r := ⟨r, n, h⟩
    rw [dif_pos hx]
    obtain ⟨m, hm⟩ := hx.choose_spec
    have h1 := evalN_le p (Nat.le_max_left n m) _ _ _ h
    have h2 := evalN_le p (Nat.le_max_right n m) _ _ _ hm
    rw [h1] at h2
    exact h2.symm

theorem evalN_ev (p : Prg) (n : Nat) : LeE (evalN p n) (ev p) := fun _ _ _ h => ev_iff.2 ⟨n, h⟩

theorem callS_cont {p : Prg} {fn : Nat} {args : List AV} {hp : List AB} {r : AV × List AB} (hc : callS p (ev p) fn args hp = some r) : ∃ n, callS p (evalN p n) fn args hp = some r := by
  unfold callS at hc ⊢
  cases hF : p.fn fn with
  | none => exact ⟨0, by simpa only [hF] using hc⟩
  | some F =>
    simp only [hF] at hc ⊢
    split at hc
    · rename_i s he; obtain ⟨n, hn⟩ := ev_iff.1 he; exact ⟨n, by simp only [hn]; exact hc⟩
    · rename_i s he; obtain ⟨n, hn⟩ := ev_iff.1 he; exact ⟨n, by simp only [hn]; exact hc⟩
    · cases hc

theorem callP_cont {p : Prg} {fn : Nat} {args : List AV} {hp : List AB} {r : AV} (hc : callP p (ev p) fn args hp = some r) : ∃ n, callP p (evalN p n) fn args hp = some r := by
  unfold callP at hc ⊢
  split at hc
  · rename_i hpu
    split at hc
    · rename_i v h' he
      obtain ⟨n, hn⟩ := callS_cont he
      exact ⟨n, by rw [if_pos hpu]; simp only [hn]; exact hc⟩
    · cases hc
  · rename_i hpu
    split at hc
    · rename_i args' ha
      split at hc
      · rename_i v h' he
        obtain ⟨n, hn⟩ := callS_cont he
        exact ⟨n, by rw [if_neg hpu]; simp only [ha, hn]; exact hc⟩
      · cases hc
    · cases hc

theorem callY_cont {p : Prg} {k : Nat} {args : List AV} {hp : List AB} {r : AV × List AB} (hc : callY (ev p) k args hp = some r) : ∃ n, callY (evalN p n) k args hp = some r := by
  unfold callY at hc ⊢
  split at hc
  rotate_left
  · cases hc
  split at hc
  rotate_left
  · cases hc
  rename_i hl
  split at hc
  rotate_left
  · cases hc
  rename_i s1 h1
  split at hc
  rotate_left
  · cases hc
  rename_i hb1
  split at hc
  rotate_left
  · cases hc
  rename_i h2
  obtain ⟨n, hn⟩ := ev_iff.1 h1
  obtain ⟨m, hm⟩ := ev_iff.1 h2
  refine ⟨max n m, ?_⟩
  rw [if_pos hl]
  simp only [evalN_le p (Nat.le_max_left n m) _ _ _ hn, hb1, evalN_le p (Nat.le_max_right n m) _ _ _ hm]
  exact hc

theorem stepO_cont {p : Prg} {o : IOp} {s r : St} (hc : stepO (envOf p (ev p)) o s = some r) : ∃ n, stepO (envOf p (evalN p n)) o s = some r := by
  unfold stepO at hc ⊢
  split at hc
  · cases hc
  · rename_i hw; exact ⟨0, by (try simp only [hw]); exact hc⟩
  · rename_i hw
    simp only [Option.map_eq_some_iff] at hc
    obtain ⟨x, h1, rfl⟩ := hc
    have : ∃ n, stepI (envOf p (evalN p n)) o.ins s = some x := by
      unfold stepI at h1 ⊢
      split at h1
      · simp only [envOf] at h1 ⊢
        split at h1
        · rename_i g caps hf
          simp only [Option.map_eq_some_iff] at h1
          obtain ⟨v, h2, rfl⟩ := h1
          obtain ⟨n, hn⟩ := callP_cont h2
          exact ⟨n, by simp only [hf, hn]; rfl⟩
        · cases h1
      · simp only [envOf] at h1 ⊢
        split at h1
        · rename_i g caps hf
          obtain ⟨n, hn⟩ := callS_cont h1
          exact ⟨n, by simp only [hf, hn]⟩
        · rename_i b hf
          obtain ⟨n, hn⟩ := callY_cont h1
          exact ⟨n, by simp only [hf, hn]⟩
        · cases h1
      · exact ⟨0, h1⟩
    obtain ⟨n, hn⟩ := this
    exact ⟨n, by simp only [hw, hn]; rfl⟩

theorem runOps_cont {p : Prg} : ∀ (l : List IOp) (s r : St), runOps (envOf p (ev p)) l s = some r → ∃ n, runOps (envOf p (evalN p n)) l s = some r
  | [], s, r, hc => ⟨0, hc⟩
  | o :: os, s, r, hc => by
    simp only [runOps, Option.bind_eq_some_iff] at hc ⊢
    obtain ⟨s1, h1, h2⟩ := hc
    obtain ⟨n, hn⟩ := stepO_cont h1
    obtain ⟨m, hm⟩ := runOps_cont os s1 r h2
    exact ⟨max n m, s1, stepO_mono (evalN_le p (Nat.le_max_left n m)) hn, runOps_mono (evalN_le p (Nat.le_max_right n m)) os s1 r hm⟩

theorem run_cont {p : Prg} : ∀ (c : IC) (s : St) (r : Out × St), run (envOf p (ev p)) (ev p) c s = some r → ∃ n, run (envOf p (evalN p n)) (evalN p n) c s = some r
  | .skip, s, r, hc => ⟨0, hc⟩
  | .ops l, s, r, hc => by
    simp only [run, Option.map_eq_some_iff] at hc ⊢
    obtain ⟨s1, h1, rfl⟩ := hc
    obtain ⟨n, hn⟩ := runOps_cont l s s1 h1
    exact ⟨n, s1, hn, rfl⟩
  | .seq x y, s, r, hc => by
    simp only [run] at hc ⊢
    split at hc
    · rename_i s1 he
      obtain ⟨n, hn⟩ := run_cont x s _ he
      obtain ⟨m, hm⟩ := run_cont y s1 r hc
      refine ⟨max n m, ?_⟩
      simp only [run_mono (evalN_le p (Nat.le_max_left n m)) x s _ hn]
      exact run_mono (evalN_le p (Nat.le_max_right n m)) y s1 r hm
    · rename_i hne
      obtain ⟨n, hn⟩ := run_cont x s r hc
      refine ⟨n, ?_⟩
      rw [hn]
      obtain ⟨o, s1⟩ := r
      cases o with
      | norm => exact (hne s1 hc).elim
      | brk i => rfl
      | ret => rfl
  | .cond c x y, s, r, hc => by
    simp only [run] at hc ⊢
    split at hc
    · rename_i t hb
      have hb' : ∀ n, c.ev s.f (envOf p (evalN p n)).gl = .p (.val (.bool t)) := fun n => hb
      cases t with
      | true =>
        obtain ⟨n, hn⟩ := run_cont x s r (by simpa using hc)
        exact ⟨n, by rw [hb' n]; simpa using hn⟩
      | false =>
        obtain ⟨n, hn⟩ := run_cont y s r (by simpa using hc)
        exact ⟨n, by rw [hb' n]; simpa using hn⟩
    · cases hc
  | .block id x, s, r, hc => by
    simp only [run] at hc ⊢
    split at hc
    · rename_i i s1 he
      obtain ⟨n, hn⟩ := run_cont x s _ he
      exact ⟨n, by simp only [hn]; exact hc⟩
    · rename_i hne
      obtain ⟨n, hn⟩ := run_cont x s r hc
      refine ⟨n, ?_⟩
      rw [hn]
      obtain ⟨o, s1⟩ := r
      cases o with
      | norm => rfl
      | brk i => exact (hne i s1 hc).elim
      | ret => rfl
  | .loop live x, s, r, hc => by
    simp only [run] at hc ⊢
    split at hc
    · rename_i s1 he
      obtain ⟨n, hn⟩ := run_cont x _ _ he
      obtain ⟨m, hm⟩ := ev_iff.1 hc
      refine ⟨max n m, ?_⟩
      simp only [run_mono (evalN_le p (Nat.le_max_left n m)) x _ _ hn]
      exact evalN_le p (Nat.le_max_right n m) _ _ _ hm
    · rename_i hne
      obtain ⟨n, hn⟩ := run_cont x _ r hc
      refine ⟨n, ?_⟩
      rw [hn]
      obtain ⟨o, s1⟩ := r
      cases o with
      | norm => exact (hne s1 hc).elim
      | brk i => rfl
      | ret => rfl
  | .loopAt k live x, s, r, hc => by
    simp only [run] at hc ⊢
    split at hc
    · rename_i s1 he
      obtain ⟨n, hn⟩ := run_cont x _ _ he
      obtain ⟨m, hm⟩ := ev_iff.1 hc
      refine ⟨max n m, ?_⟩
      simp only [run_mono (evalN_le p (Nat.le_max_left n m)) x _ _ hn]
      exact evalN_le p (Nat.le_max_right n m) _ _ _ hm
    · rename_i hne
      obtain ⟨n, hn⟩ := run_cont x _ r hc
      refine ⟨n, ?_⟩
      rw [hn]
      obtain ⟨o, s1⟩ := r
      cases o with
      | norm => exact (hne s1 hc).elim
      | brk i => rfl
      | ret => rfl
  | .rangeF fo ps ia ib, s, r, hc => by
    simp only [run] at hc ⊢
    split at hc
    · rename_i g caps hf
      split at hc
      · rename_i q hq
        obtain ⟨n, hn⟩ := callS_cont hq
        refine ⟨n, ?_⟩
        have e : fo.ev s.f (envOf p (evalN p n)).gl = .fn g caps := hf
        have : (envOf p (evalN p n)).callS g (.yl s.h.length :: caps) (s.h ++ [.loop 0 none ps s.f ia ib]) = some q := hn
        simp only [e, this]
        exact hc
      · cases hc
    · cases hc
  | .exit id, s, r, hc => ⟨0, hc⟩
  | .ret, s, r, hc => ⟨0, hc⟩
  | .bad, s, r, hc => ⟨0, hc⟩

theorem ev_eq (p : Prg) (c : IC) (s : St) : ev p c s = run (envOf p (ev p)) (ev p) c s := by
  cases h : run (envOf p (ev p)) (ev p) c s with
  | some r =>
    obtain ⟨n, hn⟩ := run_cont c s r h
    exact ev_iff.2 ⟨n + 1, hn⟩
  | none =>
    cases h2 : ev p c s with
    | none => rfl
    | some r =>
      obtain ⟨n, hn⟩ := ev_iff.1 h2
      have := evalN_le p (Nat.le_succ n) _ _ _ hn
      rw [run_mono (evalN_ev p n) c s r this] at h
      cases h

/-- A call, without fuel. -/
noncomputable def CS (p : Prg) (fn : Nat) (args : List AV) (h : List AB) : Option (AV × List AB) := callS p (ev p) fn args h
noncomputable def CP (p : Prg) (fn : Nat) (args : List AV) (h : List AB) : Option AV := callP p (ev p) fn args h

variable {P : Program}

theorem CS_sound {p : Prg} (hp : PrgOk P p) {fn : Nat} {args : List AV} {h h' : List AB} {v : AV} (hc : CS p fn args h = some (v, h')) : CallR P (Good P) p.gl fn args h v h' := by
  obtain ⟨n, hn⟩ := callS_cont hc
  exact call_sound_all hp hn

theorem CP_sound {p : Prg} (hp : PrgOk P p) {fn : Nat} {args : List AV} {h : List AB} {v : AV} (hc : CP p fn args h = some v) : CallR P (Good P) p.gl fn args h v h := by
  obtain ⟨n, hn⟩ := callP_cont hc
  exact callP_sound_all hp hn

/-- Closed calls are found by running. -/
theorem CS_of {p : Prg} {fn : Nat} {args : List AV} {h : List AB} {r : AV × List AB} (n : Nat) (hc : callS p (evalN p n) fn args h = some r) : CS p fn args h = some r := callS_mono (evalN_ev p n) hc
theorem CP_of {p : Prg} {fn : Nat} {args : List AV} {h : List AB} {r : AV} (n : Nat) (hc : callP p (evalN p n) fn args h = some r) : CP p fn args h = some r := callP_mono (evalN_ev p n) hc

end Go.Vs
