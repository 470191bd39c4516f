/- What the arguments of this seat's rows are. -/
import Derived.Test.YtbichljebmhmnaaDoor02R
import Derived.Test.YtbichljebmhmnaaDoor02ZB
namespace Go.Proofs.Tryd
set_option linter.unusedSimpArgs false
set_option linter.unusedVariables false
open Go Go.Vs
theorem u8_nat {n : Int} (h : IntKind.u8.min ≤ n ∧ n ≤ IntKind.u8.max) : n.toNat < 256 ∧ ((n.toNat : Nat) : Int) = n := by
  have h1 : IntKind.u8.min = 0 := rfl
  have h2 : IntKind.u8.max = 255 := rfl
  rw [h1, h2] at h
  omega
theorem rgs_of : ∀ {rows : List (List PV)}, (∀ r ∈ rows, FitL [.int .u8, .int .u8] r) → ∃ l : List (Nat × Nat), rows = l.map rgRow ∧ ∀ x ∈ l, x.1 < 256 ∧ x.2 < 256
  | [], _ => ⟨[], rfl, by simp⟩
  | r :: rows, h => by
    obtain ⟨l, hl, hb⟩ := rgs_of (rows := rows) (fun q hq => h q (List.mem_cons_of_mem _ hq))
    have hr := h r (List.mem_cons_self ..)
    match r, hr with
    | [x, y], hr =>
      simp only [FitL, Fit] at hr
      obtain ⟨⟨a, rfl, ha⟩, ⟨b, rfl, hbb⟩, _⟩ := hr
      have ha' := u8_nat ha
      have hb' := u8_nat hbb
      refine ⟨(a.toNat, b.toNat) :: l, ?_, ?_⟩
      · simp only [List.map_cons, rgRow, ha'.2, hb'.2, hl]
      · intro z hz
        rcases List.mem_cons.1 hz with rfl | hz
        · exact ⟨ha'.1, hb'.1⟩
        · exact hb z hz
    | [], hr => simp [FitL] at hr
    | [_], hr => simp [FitL] at hr
    | _ :: _ :: _ :: _, hr => simp [FitL] at hr
theorem bytes_of : ∀ {rows : List (List PV)}, (∀ r ∈ rows, FitL [.int .u8] r) → ∃ l : List Nat, rows = l.map byteRow ∧ ∀ x ∈ l, x < 256
  | [], _ => ⟨[], rfl, by simp⟩
  | r :: rows, h => by
    obtain ⟨l, hl, hb⟩ := bytes_of (rows := rows) (fun q hq => h q (List.mem_cons_of_mem _ hq))
    have hr := h r (List.mem_cons_self ..)
    match r, hr with
    | [x], hr =>
      simp only [FitL, Fit] at hr
      obtain ⟨⟨a, rfl, ha⟩, _⟩ := hr
      have ha' := u8_nat ha
      refine ⟨a.toNat :: l, ?_, ?_⟩
      · simp only [List.map_cons, byteRow, ha'.2, hl]
      · intro z hz
        rcases List.mem_cons.1 hz with rfl | hz
        · exact ha'.1
        · exact hb z hz
    | [], hr => simp [FitL] at hr
    | _ :: _ :: _, hr => simp [FitL] at hr
set_option maxRecDepth 100000 in
/-- An argument that is one cell. -/
theorem arg1 {t : TypeId} {k : Sh} {a : AV} (hs : shOfT prog 40 t = some [k]) (ha : aggT prog t = some false) (h : ∃ ks xs, shOfT prog 40 t = some ks ∧ FitL ks xs ∧ a = argA prog t xs) : ∃ x, Fit k x ∧ a = .p x := by
  obtain ⟨ks, xs, hk, hf, e⟩ := h
  have h2 := Option.some.inj (hs.symm.trans hk)
  rw [← h2] at hf
  match xs, hf with
  | [x], hf =>
    simp only [FitL, and_true] at hf
    refine ⟨x, hf, ?_⟩
    rw [e]
    simp only [argA, ha]
  | [], hf => simp [FitL] at hf
  | _ :: _ :: _, hf => simp [FitL] at hf
theorem setOf {xs : List PV} (h : FitL [.int .u64, .int .u64, .int .u64, .int .u64] xs) : ∃ v : V4, xs = [.val (.int .u64 v.a.toNat), .val (.int .u64 v.b.toNat), .val (.int .u64 v.c.toNat), .val (.int .u64 v.d.toNat)] := by
  match xs, h with
  | [x, y, z, u], h =>
    simp only [FitL, Fit] at h
    obtain ⟨⟨a, rfl, ha⟩, ⟨b, rfl, hb⟩, ⟨c, rfl, hc⟩, ⟨d, rfl, hd⟩, _⟩ := h
    have key : ∀ n : Int, IntKind.u64.min ≤ n ∧ n ≤ IntKind.u64.max → ((BitVec.ofInt 64 n).toNat : Int) = n := by
      intro n hn
      have h1 : IntKind.u64.min = 0 := rfl
      have h2 : IntKind.u64.max = 18446744073709551615 := rfl
      rw [h1, h2] at hn
      rw [BitVec.toNat_ofInt]
      omega
    exact ⟨⟨.ofInt 64 a, .ofInt 64 b, .ofInt 64 c, .ofInt 64 d⟩, by simp only [key a ha, key b hb, key c hc, key d hd]⟩
  | [], h => simp [FitL] at h
  | [_], h => simp [FitL] at h
  | [_, _], h => simp [FitL] at h
  | [_, _, _], h => simp [FitL] at h
  | _ :: _ :: _ :: _ :: _ :: _, h => simp [FitL] at h
theorem sh29 : shOfT prog 40 29 = some [.int .u64, .int .u64, .int .u64, .int .u64] := by kernel_rfl
theorem arg29 {a : AV} (h : ∃ ks xs, shOfT prog 40 29 = some ks ∧ FitL ks xs ∧ a = argA prog 29 xs) : ∃ v : V4, a = setI (ofV v) := by
  obtain ⟨ks, xs, hk, hf, e⟩ := h
  have h2 := Option.some.inj (sh29.symm.trans hk)
  rw [← h2] at hf
  obtain ⟨v, e2⟩ := setOf hf
  refine ⟨v, ?_⟩
  rw [e, e2]
  have ag : aggT prog 29 = some true := by kernel_rfl
  simp only [argA, ag]
  rfl
theorem rg_of {x : PV} (h : Fit (.sl 2 [.int .u8, .int .u8]) x) : ∃ l : List (Nat × Nat), x = rgL l ∧ ∀ x ∈ l, x.1 < 256 ∧ x.2 < 256 := by
  simp only [Fit] at h
  obtain ⟨rows, rfl, _, h⟩ := h
  obtain ⟨l, rfl, hl⟩ := rgs_of h
  exact ⟨l, rfl, hl⟩
theorem by_of {x : PV} (h : Fit (.sl 1 [.int .u8]) x) : ∃ l : List Nat, x = bytesL l ∧ ∀ x ∈ l, x < 256 := by
  simp only [Fit] at h
  obtain ⟨rows, rfl, _, h⟩ := h
  obtain ⟨l, rfl, hl⟩ := bytes_of h
  exact ⟨l, rfl, hl⟩
theorem u8_of {x : PV} (h : Fit (.int .u8) x) : ∃ n : Nat, x = .val (.int .u8 n) ∧ n < 256 := by
  simp only [Fit] at h
  obtain ⟨n, rfl, h⟩ := h
  have := u8_nat h
  exact ⟨n.toNat, by rw [this.2], this.1⟩
end Go.Proofs.Tryd
