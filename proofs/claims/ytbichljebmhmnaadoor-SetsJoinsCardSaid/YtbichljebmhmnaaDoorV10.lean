/- Each instruction does what its operation does: cuts, bytes and strings, make, append, literals. -/
import Derived.Test.YtbichljebmhmnaaDoorV9
namespace Go.Vs
set_option linter.unusedSimpArgs false
set_option linter.unusedVariables false
open Go Go.RowKit

section
variable {P : Program} {gl : Nat → Option (List PV)} {a : Act} {f : List AV} {g : G} {h : List AB} {w : World} {o : Oper}

theorem idxO_rel (c : Ctx P gl a f g h w) {lo : Option Operand} {d : Nat} {l : Int} (hl : idxO f gl d (lo.map opd) = some l) : (lo.map a.eval = none ∧ l = d) ∨ ∃ k, lo.map a.eval = some (.int k l) := by
  cases lo with
  | none => simp only [Option.map_none, idxO, Option.some.injEq] at hl; exact .inl ⟨rfl, hl.symm⟩
  | some x =>
    simp only [Option.map_some, idxO] at hl
    obtain ⟨k, hv⟩ := idx_of (c.opd x) hl
    exact .inr ⟨k, by simp [hv]⟩

theorem bounds_rel (c : Ctx P gl a f g h w) {lo hi : Option Operand} {len cap : Nat} {l r : Int} (isS : Bool) (hl : idxO f gl 0 (lo.map opd) = some l) (hr : idxO f gl len (hi.map opd) = some r)
    (h0 : 0 ≤ l) (h1 : l ≤ r) (h2 : r ≤ cap) : (Instr.sliceBounds isS len cap (lo.map a.eval) (hi.map a.eval) none).run P w = .ok (l.toNat, r.toNat, cap) w := by
  have e1 : ∀ code k, (Instr.sliceBound (.int k r) cap code).run P w = .ok r.toNat w := fun code k => run_sliceBound (P := P) w k r cap code (by omega) h2
  have e2 : ∀ code k, (Instr.sliceBound (.int k l) r.toNat code).run P w = .ok l.toNat w := fun code k => run_sliceBound (P := P) w k l r.toNat code h0 (by omega)
  have e3 : ∀ code k, r = len → (Instr.sliceBound (.int k l) len code).run P w = .ok l.toNat w := fun code k hr => run_sliceBound (P := P) w k l len code h0 (by omega)
  rcases idxO_rel c hl with ⟨hlo, rfl⟩ | ⟨k, hlo⟩ <;> rcases idxO_rel c hr with ⟨hhi, hr'⟩ | ⟨k', hhi⟩ <;> rw [hlo, hhi] <;> unfold Instr.sliceBounds
  · subst hr'
    simp
  · simp [e1]
  · simp [e3 _ _ hr', hr']
  · simp [e1, e2]

theorem s_sliceS (c : Ctx P gl a f g h w) {t : TypeId} {x : Operand} {lo hi : Option Operand} {s : ByteArray} {l r : Int} (ho : o.op = .slice t x lo hi none) (ht : P.underlying t = some .string) (hx : (opd x).ev f gl = vs s)
    (hl : idxO f gl 0 (lo.map opd) = some l) (hr : idxO f gl s.size (hi.map opd) = some r) (h0 : 0 ≤ l) (h1 : l ≤ r) (h2 : r ≤ s.size) : Fits P o a g w (vs (s.extract l.toNat r.toNat)) h := by
  have hv := val_of (c.opd x) hx
  refine fits_same c (x := .string (s.extract l.toNat r.toNat)) ?_ (by simp [VR, PR])
  have hb := bounds_rel (P := P) c false hl hr h0 h1 h2
  have hrun : (Instr.sliceAt t (a.eval x) (lo.map a.eval) (hi.map a.eval) none).run P w = .ok (.string (s.extract l.toNat r.toNat)) w := by
    rw [hv]
    unfold Instr.sliceAt
    simp only [Sem.run_bind, run_underlying ht, Result.andThen_ok]
    unfold Instr.slice
    simp only [Sem.run_bind, run_underlying ht, Result.andThen_ok, Option.isSome_none, Bool.false_eq_true, if_false, Sem.run_pure, hb]
  simp only [execOp, ho, Sem.run_bind, Option.map_none, hrun, Result.andThen_ok, Sem.run_pure]

theorem run_sliceSl {t e : TypeId} {x : Operand} {lo hi : Option Operand} {s len cap : Nat} {A : Option Addr} {l r : Int} (c : Ctx P gl a f g h w) (ho : o.op = .slice t x lo hi none) (ht : P.underlying t = some (.slice e)) (hs : szT P e = some s)
    (hv : a.eval x = .slice A len cap) (hl : idxO f gl 0 (lo.map opd) = some l) (hr : idxO f gl len (hi.map opd) = some r) (h0 : 0 ≤ l) (h1 : l ≤ r) (h2 : r ≤ cap) :
    (execOp a.eval o).run P w = .ok (.value (.slice (if cap = l.toNat then A else A.map (·.add (l.toNat * s))) (r.toNat - l.toNat) (cap - l.toNat))) w := by
  have hb := bounds_rel (P := P) c true hl hr h0 h1 h2
  have hrun : (Instr.sliceAt t (a.eval x) (lo.map a.eval) (hi.map a.eval) none).run P w = .ok (.slice (if cap = l.toNat then A else A.map (·.add (l.toNat * s))) (r.toNat - l.toNat) (cap - l.toNat)) w := by
    rw [hv]
    unfold Instr.sliceAt
    simp only [Sem.run_bind, run_underlying ht, Result.andThen_ok]
    unfold Instr.slice
    simp only [Sem.run_bind, run_underlying ht, Result.andThen_ok, Sem.run_pure, hb, run_szT hs]
  simp only [execOp, ho, Sem.run_bind, Option.map_none, hrun, Result.andThen_ok, Sem.run_pure]

theorem s_slice (c : Ctx P gl a f g h w) {t e : TypeId} {x : Operand} {lo hi : Option Operand} {s : Nat} {v : AV} {h' : List AB} (ho : o.op = .slice t x lo hi none) (ht : P.underlying t = some (.slice e)) (hs : szT P e = some s)
    (hx : evI gl f h (.slice s (opd x) (lo.map opd) (hi.map opd)) = some (v, h')) : Fits P o a g w v h' := by
  simp only [evI] at hx
  have hv := c.opd x
  split at hx
  · rename_i b gen size off len e0
    rw [e0] at hv
    simp only [VR] at hv
    obtain ⟨hb, hg, hsl⟩ := hv
    split at hx
    · rename_i hse
      subst hse
      cases hl : idxO f gl 0 (lo.map opd) with
      | none => simp [hl] at hx
      | some l =>
        cases hr : idxO f gl len (hi.map opd) with
        | none => simp [hl, hr] at hx
        | some r =>
          simp only [hl, hr, Option.bind_some] at hx
          split at hx
          · rename_i s1 g1 rows hbk
            split at hx
            · rename_i hc
              obtain ⟨rfl, h0, h1, h2, h3⟩ := hc
              simp only [Option.some.injEq, Prod.mk.injEq] at hx
              obtain ⟨rfl, rfl⟩ := hx
              have hbr := c.hr.br b _ hbk
              simp only [BR] at hbr
              obtain ⟨_, _, hrow⟩ := hbr
              cases hd : g.hd b g1 with
              | none =>
                rw [hd] at hsl hrow
                obtain ⟨hv, rfl, rfl⟩ := hsl
                simp only [RowR] at hrow
                subst hrow
                simp at h2
                have hr0 : r = 0 := by omega
                have hl0 : l = 0 := by omega
                subst hr0; subst hl0
                have hrun := run_sliceSl (P := P) c ho ht hs hv hl hr (by omega) (by omega) (by omega)
                refine fits_same c hrun ?_
                simp only [VR]
                refine ⟨hb, hg, ?_⟩
                rw [hd]
                exact ⟨rfl, rfl, rfl⟩
              | some p =>
                obtain ⟨cc, cap⟩ := p
                rw [hd] at hsl hrow
                obtain ⟨k1, k2, A, hv, hA⟩ := hsl
                simp only [RowR] at hrow
                obtain ⟨cs, t', fz, _, _, _, _, k5, _⟩ := hrow
                have hrun := run_sliceSl (P := P) c ho ht hs hv hl hr h0 h1 (by omega)
                refine fits_same c hrun ?_
                simp only [VR]
                refine ⟨hb, hg, ?_⟩
                rw [hd]
                refine ⟨by omega, k2, (if cap - off = l.toNat then A else A.map (·.add (l.toNat * size))), by rw [Nat.sub_sub], ?_⟩
                by_cases hcap : cap = off + l.toNat ∧ 0 < off + l.toNat
                · exact .inl hcap
                · right
                  have hA' := hA.resolve_left (by omega)
                  subst hA'
                  by_cases hz : cap - off = l.toNat
                  · rw [if_pos hz]
                    have h1 : off = 0 := by omega
                    have h2 : l.toNat = 0 := by omega
                    simp [h1, h2]
                  · rw [if_neg hz]
                    simp only [Option.map_some, add_addr, Nat.add_mul]
            · cases hx
          · cases hx
    · cases hx
  · rename_i size rows e0
    rw [e0] at hv
    simp only [VR, PR] at hv
    obtain ⟨A, cap, hv, k1, k2, hA⟩ := hv
    split at hx
    · rename_i hse
      subst hse
      cases hl : idxO f gl 0 (lo.map opd) with
      | none => simp [hl] at hx
      | some l =>
        cases hr : idxO f gl rows.length (hi.map opd) with
        | none => simp [hl, hr] at hx
        | some r =>
          simp only [hl, hr, Option.bind_some] at hx
          split at hx
          · rename_i hc
            obtain ⟨h0, h1, h2⟩ := hc
            simp only [Option.some.injEq, Prod.mk.injEq] at hx
            obtain ⟨rfl, rfl⟩ := hx
            have hrun := run_sliceSl (P := P) c ho ht hs hv hl hr h0 h1 (by omega)
            refine fits_same c hrun ?_
            simp only [VR, PR]
            have hlen : ((rows.take r.toNat).drop l.toNat).length = r.toNat - l.toNat := by simp; omega
            refine ⟨_, cap - l.toNat, by rw [hlen], by omega, by omega, ?_⟩
            rw [hlen]
            by_cases hz : r.toNat - l.toNat = 0
            · exact .inl hz
            · right
              obtain ⟨b, off, rfl, hS, hp⟩ := hA.resolve_left (by omega)
              rw [if_neg (by omega)]
              simp only [Option.map_some, add_addr]
              exact ⟨b, _, rfl, hS, PRr_drop (PRr_take hp)⟩
          · cases hx
    · cases hx
  · rename_i e0
    rw [e0] at hv
    simp only [VR, PR] at hv
    cases hl : idxO f gl 0 (lo.map opd) with
    | none => simp [hl] at hx
    | some l =>
      cases hr : idxO f gl 0 (hi.map opd) with
      | none => simp [hl, hr] at hx
      | some r =>
        simp only [hl, hr, Option.bind_some] at hx
        split at hx
        · rename_i hc
          obtain ⟨rfl, rfl⟩ := hc
          simp only [Option.some.injEq, Prod.mk.injEq] at hx
          obtain ⟨rfl, rfl⟩ := hx
          have hrun := run_sliceSl (P := P) c ho ht hs hv hl hr (by omega) (by omega) (by omega)
          exact fits_same c hrun (by simp [VR, PR])
        · cases hx
  · cases hx

end
end Go.Vs
