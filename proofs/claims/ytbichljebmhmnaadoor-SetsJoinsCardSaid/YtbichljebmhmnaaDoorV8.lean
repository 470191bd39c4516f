/- == of structs and arrays whose cells are bools, integers and strings. -/
import Derived.Test.YtbichljebmhmnaaDoorV7
namespace Go.Vs
set_option linter.unusedSimpArgs false
set_option linter.unusedVariables false
open Go Go.RowKit

def eqCV : List Nat → List Value → List Value → Option Bool
  | [], [], [] => some true
  | k :: ks, x :: xs, y :: ys =>
    match eqV k x y, eqCV ks xs ys with
    | some a, some b => some (a && b)
    | _, _ => none
  | _, _, _ => none

theorem eqCV_len : ∀ {ks : List Nat} {xs ys : List Value} {r : Bool}, eqCV ks xs ys = some r → xs.length = ks.length ∧ ys.length = ks.length
  | [], [], [], _, _ => ⟨rfl, rfl⟩
  | k :: ks, x :: xs, y :: ys, r, h => by
    simp only [eqCV] at h
    split at h
    · rename_i h2; have := eqCV_len h2; simp [this.1, this.2]
    · cases h
  | [], _ :: _, _, _, h => by simp [eqCV] at h
  | [], [], _ :: _, _, h => by simp [eqCV] at h
  | _ :: _, _ :: _, [], _, h => by simp [eqCV] at h
  | _ :: _, [], _, _, h => by simp [eqCV] at h

theorem eqCV_split : ∀ {ks ks' : List Nat} {xs ys : List Value} {r : Bool}, eqCV (ks ++ ks') xs ys = some r →
    ∃ p q, eqCV ks (xs.take ks.length) (ys.take ks.length) = some p ∧ eqCV ks' (xs.drop ks.length) (ys.drop ks.length) = some q ∧ r = (p && q)
  | [], ks', xs, ys, r, h => ⟨true, r, by simp [eqCV], by simpa using h, by simp⟩
  | k :: ks, ks', x :: xs, y :: ys, r, h => by
    simp only [List.cons_append, eqCV] at h
    split at h
    · rename_i a b h1 h2
      obtain ⟨p, q, k1, k2, rfl⟩ := eqCV_split h2
      simp only [Option.some.injEq] at h
      exact ⟨a && p, q, by simp [eqCV, h1, k1], by simpa using k2, by rw [← h, Bool.and_assoc]⟩
    · cases h
  | _ :: _, _, [], _, _, h => by simp [eqCV] at h
  | _ :: _, _, _ :: _, [], _, h => by simp [eqCV] at h

theorem eqC_vals {g : G} {w : World} : ∀ {ks : List Nat} {xs ys : List AV} {us vs : List Value} {r : Bool}, eqC ks xs ys = some r → VRs g w xs us → VRs g w ys vs → eqCV ks us vs = some r
  | [], xs, ys, us, vs, r, h, h1, h2 => by
    cases xs <;> cases ys <;> cases us <;> cases vs <;> simp_all [VRs, eqC, eqCV]
  | k :: ks, xs, ys, us, vs, r, h, h1, h2 => by
    unfold eqC at h
    split at h
    · rename_i e; cases e
    · rename_i k' ks' x xs' y ys' e
      injection e with e1 e2
      subst e1; subst e2
      cases us with
      | nil => simp [VRs] at h1
      | cons u us =>
        cases vs with
        | nil => simp [VRs] at h2
        | cons v vs =>
          simp only [VRs] at h1 h2
          have k1 := val_of h1.1 rfl
          have k2 := val_of h2.1 rfl
          subst k1; subst k2
          split at h
          · rename_i a b l1 l2
            simp only [eqCV, l1, eqC_vals l2 h1.2 h2.2]
            exact h
          · cases h
    · cases h

section
variable {P : Program}

theorem isAgg_of {t : TypeId} {d : TypeDesc} {w : World} (h : P.underlying t = some d) : (isAgg t).run P w = .ok (isAggD d) w := run_aggT (by simp [aggT, h])

/-- The part of a value, agg or one cell. -/
def PartOf (P : Program) (t : TypeId) (cs : List Value) : Value → Prop := fun v => ∃ b, aggT P t = some b ∧ ((b = true ∧ v = .agg cs.toArray) ∨ (b = false ∧ cs = [v]))

theorem run_part {w : World} {t : TypeId} {s off : Nat} {b : Bool} {xs : List Value} (hb : aggT P t = some b) (hs : szT P t = some s) (h1 : b = false → s = 1) (hl : off + s ≤ xs.length) :
    ∃ v, (part t xs.toArray off).run P w = .ok v w ∧ PartOf P t ((xs.drop off).take s) v := by
  cases b with
  | true =>
    refine ⟨.agg ((xs.drop off).take s).toArray, ?_, true, hb, .inl ⟨rfl, rfl⟩⟩
    simp only [part, Sem.run_bind, run_aggT hb, Result.andThen_ok, if_true, run_szT hs, Sem.run_pure]
    congr 2
    apply Array.ext'
    simp [List.extract_eq_take_drop]
  | false =>
    obtain rfl := h1 rfl
    have hlt : off < xs.length := by omega
    refine ⟨xs[off], ?_, false, hb, .inr ⟨rfl, ?_⟩⟩
    · simp [part, run_aggT hb, hlt]
    · rw [List.drop_eq_getElem_cons hlt, List.take_succ_cons, List.take_zero]

def eqElems (d : Nat) (e : TypeId) (n : Nat) (xs ys : Array Value) : List Nat → Sem Bool
  | [] => pure true
  | i :: is => do
    let a ← part e xs (i * n)
    let b ← part e ys (i * n)
    let r ← Op.equalIn d e a b
    if (!r) = true then pure false else eqElems d e n xs ys is

theorem run_equalIn_array (w : World) (d : Nat) (t e : TypeId) (len n : Nat) (xs ys : Array Value) (ht : P.underlying t = some (.array len e)) (hs : szT P e = some n) :
    (Op.equalIn (d + 1) t (.agg xs) (.agg ys)).run P w = (eqElems d e n xs ys (List.range len)).run P w := by
  simp only [Op.equalIn, Sem.run_bind, run_underlying ht, Result.andThen_ok, run_szT hs]
  simp only [Std.Legacy.Range.forIn_eq_forIn_range', Std.Legacy.Range.size, Nat.sub_zero, Nat.add_sub_cancel, Nat.div_one, List.range_eq_range']
  generalize List.range' 0 len = is
  clear ht
  induction is generalizing w with
  | nil => simp [eqElems]
  | cons i is ih =>
    simp only [List.forIn_cons, eqElems, Sem.run_bind]
    generalize (part e xs (i * n)).run P w = r1
    cases r1 with
    | halt x w1 => simp [Result.andThen]
    | ok a w1 =>
      simp only [Result.andThen_ok]
      generalize (part e ys (i * n)).run P w1 = r2
      cases r2 with
      | halt x w2 => simp [Result.andThen]
      | ok b w2 =>
        simp only [Result.andThen_ok]
        generalize (Op.equalIn d e a b).run P w2 = r3
        cases r3 with
        | halt x w3 => simp [Result.andThen]
        | ok r w3 =>
          cases r
          · simp only [Result.andThen_ok, Bool.not_false, if_true, Sem.run_pure]
          · simp only [Result.andThen_ok, Bool.not_true, Bool.false_eq_true, if_false, Sem.run_pure]
            exact ih w3

theorem partOf_take {t : TypeId} {ks : List Nat} {cs : List Value} {u : Value} (h : PartOf P t cs u) : PartOf P t cs u := h

theorem run_equalIn_plain : ∀ (n d : Nat) (t : TypeId) (ks : List Nat), n ≤ d → plainK P n t = some ks → szT P t = some ks.length ∧ (∃ b, aggT P t = some b ∧ (b = false → ks.length = 1)) ∧
    ∀ (cu cv : List Value) (r : Bool) (u v : Value) (w : World), eqCV ks cu cv = some r → PartOf P t cu u → PartOf P t cv v → (Op.equalIn d t u v).run P w = .ok r w
  | 0, _, _, _, _, h => by simp [plainK] at h
  | n + 1, 0, _, _, hd, _ => by omega
  | n + 1, d + 1, t, ks, hd, h => by
    have one : ∀ (k : Nat) (D : TypeDesc), P.underlying t = some D → isAggD D = false → ks = [k] → szT P t = some 1 →
        (∀ x y r w, eqV k x y = some r → (Op.equalIn (d + 1) t x y).run P w = .ok r w) →
        szT P t = some ks.length ∧ (∃ b, aggT P t = some b ∧ (b = false → ks.length = 1)) ∧
        ∀ (cu cv : List Value) (r : Bool) (u v : Value) (w : World), eqCV ks cu cv = some r → PartOf P t cu u → PartOf P t cv v → (Op.equalIn (d + 1) t u v).run P w = .ok r w := by
      intro k D hu hD hk hs hh
      subst hk
      have hb : aggT P t = some false := by simp [aggT, hu, hD]
      refine ⟨hs, ⟨false, hb, fun _ => rfl⟩, ?_⟩
      intro cu cv r u v w he hpu hpv
      obtain ⟨b1, hb1, hpu⟩ := hpu
      obtain ⟨b2, hb2, hpv⟩ := hpv
      rw [hb] at hb1 hb2
      simp only [Option.some.injEq] at hb1 hb2
      subst hb1; subst hb2
      simp only [Bool.false_eq_true, false_and, true_and, false_or] at hpu hpv
      subst hpu; subst hpv
      simp only [eqCV] at he
      split at he
      · rename_i a b l1 l2
        simp only [Option.some.injEq] at l2 he
        subst l2; subst he
        simpa using hh u v a w l1
      · cases he
    unfold plainK at h
    split at h
    · rename_i hu
      split at h
      · rename_i hs
        simp only [Option.some.injEq] at h
        refine one 0 _ hu rfl h.symm hs ?_
        intro x y r w he
        unfold eqV at he
        split at he <;> simp_all
        rw [← he]
        exact run_equalIn_bool' w d t _ _ hu
      · cases h
    · rename_i hu
      split at h
      · rename_i hs
        simp only [Option.some.injEq] at h
        refine one 1 _ hu rfl h.symm hs ?_
        intro x y r w he
        unfold eqV at he
        split at he <;> simp_all
        obtain ⟨rfl, he⟩ := he
        rw [← he]
        exact run_equalIn_int w d t _ _ _ _ hu
      · cases h
    · rename_i hu
      split at h
      · rename_i hs
        simp only [Option.some.injEq] at h
        refine one 2 _ hu rfl h.symm hs ?_
        intro x y r w he
        unfold eqV at he
        split at he <;> simp_all
        rw [run_equalIn_string w d t _ _ hu, ← beq_toListBytes, ← he]
      · cases h
    · rename_i fs hu
      split at h
      · rename_i ks' hks
        split at h
        · rename_i hc
          simp only [Option.some.injEq] at h
          subst h
          have hb : aggT P t = some true := by simp [aggT, hu, isAggD]
          refine ⟨hc.2, ⟨true, hb, by simp⟩, ?_⟩
          intro cu cv r u v w he hpu hpv
          obtain ⟨b1, hb1, hpu⟩ := hpu
          obtain ⟨b2, hb2, hpv⟩ := hpv
          rw [hb] at hb1 hb2
          simp only [Option.some.injEq] at hb1 hb2
          subst hb1; subst hb2
          simp only [true_and, Bool.true_eq_false, false_and, or_false] at hpu hpv
          subst hpu; subst hpv
          have hfo : P.fieldsOf t = fs := by simp [Program.fieldsOf, hu]
          rw [run_equalIn_struct w d t _ _ (by rw [hfo]; exact hu) hc.1, hfo]
          have key : ∀ (fl : List Field) (off : Nat) (ks : List Nat), plainKs P (plainK P n) fl off = some ks → off ≤ cu.length → off ≤ cv.length → ∀ r, eqCV ks (cu.drop off) (cv.drop off) = some r →
              (Op.eqFields d cu.toArray cv.toArray fl).run P w = .ok r w := by
            intro fl
            induction fl with
            | nil =>
              intro off ks hk hc1 hc2 r he
              simp only [plainKs, Option.some.injEq] at hk
              subst hk
              have := eqCV_len he
              have e1 : cu.drop off = [] := List.eq_nil_of_length_eq_zero this.1
              have e2 : cv.drop off = [] := List.eq_nil_of_length_eq_zero this.2
              rw [e1, e2] at he
              simp only [eqCV, Option.some.injEq] at he
              subst he
              simp [Op.eqFields]
            | cons f fl ih =>
              intro off ks hk hc1 hc2 r he
              simp only [plainKs] at hk
              split at hk
              · rename_i ks1 hk1
                split at hk
                · rename_i hc
                  obtain ⟨hn, ho, hsz⟩ := hc
                  cases hk2 : plainKs P (plainK P n) fl (off + ks1.length) with
                  | none => simp [hk2] at hk
                  | some ks2 =>
                    simp only [hk2, Option.map_some, Option.some.injEq] at hk
                    subst hk
                    obtain ⟨p, q, m1, m2, rfl⟩ := eqCV_split he
                    obtain ⟨_, ⟨b, hb, hb1⟩, hrec⟩ := run_equalIn_plain n d f.type ks1 (by omega) hk1
                    have hl := eqCV_len he
                    have l1 : off + ks1.length ≤ cu.length := by
                      have := hl.1; simp only [List.length_drop, List.length_append] at this; have := (eqCV_len m1).1; simp only [List.length_take, List.length_drop] at this; omega
                    have l2 : off + ks1.length ≤ cv.length := by
                      have := hl.2; simp only [List.length_drop, List.length_append] at this; have := (eqCV_len m1).2; simp only [List.length_take, List.length_drop] at this; omega
                    obtain ⟨x, hx, hpx⟩ := run_part (P := P) (w := w) (off := off) hb hsz hb1 l1
                    obtain ⟨y, hy, hpy⟩ := run_part (P := P) (w := w) (off := off) hb hsz hb1 l2
                    have hrun := hrec _ _ p x y w m1 hpx hpy
                    have hih := ih (off + ks1.length) ks2 hk2 l1 l2 q (by rw [List.drop_drop, List.drop_drop] at m2; exact m2)
                    simp only [Op.eqFields, if_pos hn, ho, Sem.run_bind, hx, hy, Result.andThen_ok, hrun]
                    cases p
                    · simp
                    · simpa using hih
                · cases hk
              · cases hk
          exact key fs.toList 0 ks' hks (Nat.zero_le _) (Nat.zero_le _) r (by simpa using he)
        · cases h
      · cases h
    · rename_i len e hu
      split at h
      · rename_i ks' hks
        split at h
        · rename_i hc
          simp only [Option.some.injEq] at h
          have hb : aggT P t = some true := by simp [aggT, hu, isAggD]
          have hlen : (List.replicate len ks').flatten.length = len * ks'.length := by simp
          subst h
          refine ⟨by rw [hlen]; exact hc.2, ⟨true, hb, by simp⟩, ?_⟩
          intro cu cv r u v w he hpu hpv
          obtain ⟨b1, hb1, hpu⟩ := hpu
          obtain ⟨b2, hb2, hpv⟩ := hpv
          rw [hb] at hb1 hb2
          simp only [Option.some.injEq] at hb1 hb2
          subst hb1; subst hb2
          simp only [true_and, Bool.true_eq_false, false_and, or_false] at hpu hpv
          subst hpu; subst hpv
          rw [run_equalIn_array w d t e len ks'.length _ _ hu hc.1]
          obtain ⟨_, ⟨b, hb, hb1⟩, hrec⟩ := run_equalIn_plain n d e ks' (by omega) hks
          have key : ∀ (m i : Nat) (r : Bool), i * ks'.length ≤ cu.length → i * ks'.length ≤ cv.length → eqCV (List.replicate m ks').flatten (cu.drop (i * ks'.length)) (cv.drop (i * ks'.length)) = some r →
              (eqElems d e ks'.length cu.toArray cv.toArray (List.range' i m)).run P w = .ok r w := by
            intro m
            induction m with
            | zero =>
              intro i r hc1 hc2 he
              simp only [List.replicate_zero, List.flatten_nil] at he
              have := eqCV_len he
              have e1 : cu.drop (i * ks'.length) = [] := List.eq_nil_of_length_eq_zero this.1
              have e2 : cv.drop (i * ks'.length) = [] := List.eq_nil_of_length_eq_zero this.2
              rw [e1, e2] at he
              simp only [eqCV, Option.some.injEq] at he
              subst he
              simp [eqElems]
            | succ m ih =>
              intro i r hc1 hc2 he
              rw [List.replicate_succ, List.flatten_cons] at he
              obtain ⟨p, q, m1, m2, rfl⟩ := eqCV_split he
              have l1 : i * ks'.length + ks'.length ≤ cu.length := by
                have h0 := (eqCV_len he).1
                simp only [List.length_drop, List.length_append] at h0; omega
              have l2 : i * ks'.length + ks'.length ≤ cv.length := by
                have h0 := (eqCV_len he).2
                simp only [List.length_drop, List.length_append] at h0; omega
              obtain ⟨x, hx, hpx⟩ := run_part (P := P) (w := w) (off := i * ks'.length) hb hc.1 hb1 l1
              obtain ⟨y, hy, hpy⟩ := run_part (P := P) (w := w) (off := i * ks'.length) hb hc.1 hb1 l2
              have hrun := hrec _ _ p x y w m1 hpx hpy
              have hih := ih (i + 1) q (by rw [Nat.add_mul, Nat.one_mul]; exact l1) (by rw [Nat.add_mul, Nat.one_mul]; exact l2) (by rw [List.drop_drop, List.drop_drop] at m2; rw [Nat.add_mul, Nat.one_mul]; exact m2)
              simp only [List.range'_succ, eqElems, Sem.run_bind, hx, hy, Result.andThen_ok, hrun]
              cases p
              · simp
              · simpa using hih
          rw [List.range_eq_range']
          exact key len 0 r (by simp) (by simp) (by simpa using he)
        · cases h
      · cases h
    · cases h

end
end Go.Vs
