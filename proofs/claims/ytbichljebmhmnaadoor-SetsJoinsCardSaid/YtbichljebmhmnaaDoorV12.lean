/- Each instruction does what its operation does: append, make, bytes and strings, literals. -/
import Derived.Test.YtbichljebmhmnaaDoorV11
namespace Go.Vs
set_option linter.unusedSimpArgs false
set_option linter.unusedVariables false
open Go Go.RowKit

section
variable {P : Program} {gl : Nat → Option (List PV)} {a : Act} {f : List AV} {g : G} {h : List AB} {w w' : World} {o : Oper}

/-- A row that is written in place, under a new generation. -/
theorem upd_bump (hr : HR g h w) {b size gen : Nat} {t : TypeId} {rows rows' : List (List AV)} (hb : h[b]? = some (.row t size gen rows)) {c cap : Nat} (hd : g.hd b gen = some (c, cap)) {cs cs' : Array Value} {fz : Nat × Nat}
    (hc : w.heap[c]? = some (.cells cs t fz)) (hz : unfz fz cs'.size) (hs : cs'.size = cap * size) (hm : cap ≤ maxLen) (hl : rows'.length ≤ cap) (hr1 : ∀ r ∈ rows', r.length = size)
    (hx : VRc g w rows'.flatten (cs'.toList.take (rows'.length * size))) :
    Ext g w (gGrow g b gen c cap) (setRow' w c cs' t fz) ∧ HR (gGrow g b gen c cap) (h.set b (.row t size (gen + 1) rows')) (setRow' w c cs' t fz) := by
  have hlt := heap_lt hc
  have hcid : cid g b (.row t size gen rows) = some c := by simp [cid, hd]
  have hpr : ∀ k, g.Pr k → (setRow' w c cs' t fz).heap[k]? = w.heap[k]? := fun k hp => setRow'_other (fun e => hr.own b _ c hb hcid (by rw [e]; exact hp))
  have hbr := hr.br b _ hb
  simp only [BR] at hbr
  have he : Ext g w (gGrow g b gen c cap) (setRow' w c cs' t fz) := ⟨fun _ h => h, fun _ h => h, hpr, Nat.le_refl _, fun _ _ => rfl, fun x _ => by
      simp only [gGrow]; split
      · rename_i e; subst e; rw [hbr.1]; omega
      · exact Nat.le_refl _, fun x _ k hk => by
      simp only [gGrow]; rw [if_neg]; rintro ⟨rfl, rfl⟩; rw [hbr.1] at hk; omega, by rw [setRow'_size]; exact Nat.le_refl _, rfl, rfl, rfl, fun _ h => .inl h, rfl⟩
  have hhd : (gGrow g b gen c cap).hd b (gen + 1) = some (c, cap) := by simp [gGrow]
  refine ⟨he, HR.upd hr hb he rfl rfl rfl (fun x hx => by simp [gGrow, hx]) ?_ ?_ ?_⟩
  · intro k _ hne
    exact setRow'_other (fun e => hne (by rw [hcid, e]))
  · simp only [BR]
    refine ⟨by simp [gGrow], hr1, ?_⟩
    rw [hhd]
    exact ⟨cs', fz, setRow'_same hlt, hz, hs, hm, hl, VRc_mono he hr.spr hx⟩
  · intro k hk
    simp only [cid, hhd, Option.map_some, Option.some.injEq] at hk
    subst hk
    exact .inl hcid

theorem flatten_splice {α : Type} {s : Nat} {rows news : List (List α)} {k : Nat} (h1 : ∀ r ∈ rows, r.length = s) (h2 : ∀ r ∈ news, r.length = s) :
    (splice rows k news).flatten = splice rows.flatten (k * s) news.flatten := by
  unfold splice
  simp only [List.flatten_append, flatten_take k h1, flatten_drop _ h1, flatten_len h2, Nat.add_mul]

theorem set_self {α : Type} {l : List α} {i : Nat} {x : α} (h : l[i]? = some x) : l.set i x = l := by
  apply List.ext_getElem?
  intro j
  rw [List.getElem?_set]
  split
  · rename_i e
    subst e
    rw [if_pos (List.getElem?_eq_some_iff.1 h).1]
    exact h.symm
  · rfl

theorem zc_size (z : Array Value) (n : Nat) : (Builtin.zeroCells z n).size = n * z.size := by simp [Builtin.zeroCells]

theorem info_of {e : TypeId} {s b : Nat} {z : List Value} (hs : szT P e = some s) (hb : byT P e = some b) (hz : zeroT P e = some z) : ∃ i zv, P.info? e = some i ∧ i.zero = some zv ∧ i.size = s ∧ i.bytes = b ∧ zv.cells.toList = z := by
  unfold szT at hs
  unfold byT at hb
  unfold zeroT at hz
  cases hi : P.info? e with
  | none => simp [hi] at hs
  | some i =>
    simp only [hi, Option.map_some, Option.some.injEq] at hs hb
    simp only [hi, Option.bind_some] at hz
    cases hzz : i.zero with
    | none => simp [hzz] at hz
    | some zv =>
      simp only [hzz, Option.bind_some] at hz
      split at hz
      · simp only [Option.some.injEq] at hz
        exact ⟨i, zv, rfl, hzz, hs, hb, hz⟩
      · cases hz

theorem s_append (c : Ctx P gl a f g h w) {x y : Operand} {t u e : TypeId} {cl : Call} {s b : Nat} {z : List Value} {news : List (List AV)} {v : AV} {h' : List AB} (ho : o.op = .call cl) (h1 : cl.callee = .builtin .append)
    (h2 : cl.args.toList = [x, y]) (h3 : cl.argTypes.toList = [t, u]) (ht : P.underlying t = some (.slice e)) (hu : (∃ e', P.underlying u = some (.slice e')) ∨ P.underlying u = some .string)
    (hs : szT P e = some s) (hby : byT P e = some b) (hz : zeroT P e = some z) (h0 : 0 < s) (hzl : z.length = s)
    (hn : rowsOf h s ((opd y).ev f gl) = some news) (hx : appendA h e s b ((opd x).ev f gl) news = some (v, h')) : Fits P o a g w v h' := by
  have h2' : cl.args = #[x, y] := by apply Array.ext'; simpa using h2
  have h3' : cl.argTypes = #[t, u] := by apply Array.ext'; simpa using h3
  obtain ⟨i, zv, hi, hzz, rfl, rfl, hzc⟩ := info_of hs hby hz
  have hzs : zv.cells.size = i.size := by rw [← hzl, ← hzc]; simp
  obtain ⟨us, k1, k2, k3⟩ := rowsOf_rel c hn
  have hul : us.length = news.length * i.size := by rw [← k1.1.len]; exact flatten_len k2
  have hex : ∀ r : Result Value, (Builtin.append_ #[t, u] o.type #[a.eval x, a.eval y]).run P w = r → (execOp a.eval o).run P w = r.andThen fun v w' => .ok (.value v) w' := by
    intro r hr
    simp only [execOp, ho, resolve, h1, h2', h3', Sem.run_bind, Sem.run_pure, Result.andThen_ok, invoke, builtin, List.map_toArray, List.map_cons, List.map_nil, hr]
  have hv := c.opd x
  unfold appendA at hx
  split at hx
  · rename_i bb gen sz off len e0
    rw [e0] at hv
    simp only [VR] at hv
    obtain ⟨hb1, hg1, hsl⟩ := hv
    split at hx
    · rename_i hc
      obtain ⟨rfl, rfl⟩ := hc
      split at hx
      · rename_i t' s' g1 rows hbk
        split at hx
        · rename_i hc
          obtain ⟨rfl, rfl, hte, hle, hbnd, hbnd2⟩ := hc
          obtain rfl := hte.symm
          have hbr := c.hr.br bb _ hbk
          simp only [BR] at hbr
          obtain ⟨hgen, hr1, hrow⟩ := hbr
          cases hd : g.hd bb g1 with
          | none =>
            rw [hd] at hsl hrow
            obtain ⟨hv, _, rfl⟩ := hsl
            simp only [RowR] at hrow
            subst hrow
            obtain ⟨m1, m2⟩ := run_append_nil' (P := P) (ty := o.type) ht hu hi hzz k3 hul (by omega) (by simpa using hbnd)
            rcases Nat.eq_zero_or_pos news.length with hn0 | hn0
            · have : news = [] := List.eq_nil_of_length_eq_zero hn0
              subst this
              simp [splice] at hx
              obtain ⟨rfl, rfl⟩ := hx
              rw [set_self hbk]
              refine ⟨nilS, w, g, ?_, Ext.refl g w, c.hr, ?_⟩
              · rw [hv] at hex; rw [hex _ (m1 rfl)]; rfl
              · simp only [VR]
                refine ⟨hb1, hg1, ?_⟩
                rw [hd]
                exact ⟨rfl, rfl, rfl⟩
            · obtain ⟨cap, n1, n2, n3⟩ := m2 hn0
              rw [if_neg (by simp only [List.length_nil]; omega)] at hx
              simp only [Option.some.injEq, Prod.mk.injEq, List.take_nil, List.nil_append, Nat.zero_add] at hx
              obtain ⟨rfl, rfl⟩ := hx
              obtain ⟨p1, p2, p3⟩ := upd_grow (w' := w.drew.alloc (.cells (us.toArray ++ Builtin.zeroCells zv.cells (cap - news.length)) e)) (cap := cap) c.hr hbk (rows' := news)
                (cs := us.toArray ++ Builtin.zeroCells zv.cells (cap - news.length)) (t := e) (by rw [Array.size_append, zc_size, hzs, List.size_toArray, hul, ← Nat.add_mul]; congr 1; omega) n2 n1 k2
                (by simp only [Array.toList_append, ← hul]; rw [List.take_left]; exact k1)
                (fun k hk => Below.heap_alloc w.drew _ k hk) (alloc_new' w.drew _) (by simp) rfl rfl rfl
              refine ⟨_, _, _, ?_, p1, p2, p3 _ n1⟩
              rw [hv] at hex; rw [hex _ (n3)]; rfl
          | some p =>
            obtain ⟨cc, cap⟩ := p
            rw [hd] at hsl hrow
            obtain ⟨q1, q2, A, hv, hA⟩ := hsl
            simp only [RowR] at hrow
            obtain ⟨cs, fz, l1, l2, l3, l4, l5, l6⟩ := hrow
            rw [Nat.sub_zero] at hv
            have hA' : cap = 0 ∨ A = some ⟨cc, 0, none⟩ := .inr (by simpa using hA)
            obtain ⟨m1, m2⟩ := run_append_sl (P := P) (ty := o.type) ht hu hi hzz hA' k3 hul hbnd2 (by simpa using hbnd) (by omega : len ≤ cap) l1 l2 l3 k1.2
            have hmul : len * i.size + us.length = (len + news.length) * i.size := by rw [hul, Nat.add_mul]
            have hfl : rows.flatten.length = rows.length * i.size := flatten_len hr1
            have hlr : len * i.size ≤ rows.length * i.size := Nat.mul_le_mul_right _ hle
            have hrc : rows.length * i.size ≤ cap * i.size := Nat.mul_le_mul_right _ l5
            have htk : VRc g w (rows.take len).flatten (cs.toList.take (len * i.size)) := by
              have e1 : cs.toList.take (len * i.size) = (cs.toList.take (rows.length * i.size)).take (len * i.size) := by rw [List.take_take, Nat.min_eq_left hlr]
              rw [flatten_take len hr1, e1]
              exact ⟨l6.1.take _, fun v hv => l6.2 v (List.mem_of_mem_take hv)⟩
            have happ : VRc g w (rows.take len ++ news).flatten (cs.toList.take (len * i.size) ++ us) := by
              rw [List.flatten_append]
              exact ⟨htk.1.append k1.1, fun v hv => (List.mem_append.1 hv).elim (htk.2 v) (k1.2 v)⟩
            have hlen' : (rows.take len ++ news).length = len + news.length := by simp; omega
            have hr1' : ∀ r ∈ rows.take len ++ news, r.length = i.size := by
              intro r hr
              rcases List.mem_append.1 hr with hr | hr
              · exact hr1 r (List.mem_of_mem_take hr)
              · exact k2 r hr
            split at hx
            · rename_i hin
              simp only [Option.some.injEq, Prod.mk.injEq] at hx
              obtain ⟨rfl, rfl⟩ := hx
              have hin2 : (len + news.length) * i.size ≤ rows.length * i.size := Nat.mul_le_mul_right _ hin
              have hfit : len * i.size + us.length ≤ cs.toList.length := by have hcl : cs.toList.length = cs.size := Array.length_toList; rw [hcl, l3, hmul]; omega
              have hspl : (splice cs.toList (len * i.size) us).length = cs.size := by rw [splice_length hfit, Array.length_toList]
              have hsl' : (splice rows len news).length = rows.length := splice_length hin
              obtain ⟨p1, p2⟩ := upd_row c.hr hbk hd (cs' := (splice cs.toList (len * i.size) us).toArray) (rows' := splice rows len news) l1 (by simpa [hspl] using l2) (by simpa [hspl] using l3) l4 (by rw [hsl']; exact l5)
                (fun r hr => (mem_splice hr).elim (hr1 r) (k2 r))
                (by
                  rw [hsl', flatten_splice hr1 k2]
                  show VRc g w _ ((splice cs.toList (len * i.size) us).take (rows.length * i.size))
                  rw [splice_take (by rw [hmul]; omega) (by have hcl : cs.toList.length = cs.size := Array.length_toList; rw [hcl, l3]; exact hrc)]
                  exact l6.splice _ k1)
              refine ⟨.slice A (len + news.length) cap, _, g, ?_, p1, p2, ?_⟩
              · rw [hv] at hex; rw [hex _ (m1 (by omega))]; rfl
              · simp only [VR]
                refine ⟨hb1, hg1, ?_⟩
                rw [hd]
                exact ⟨by omega, q2, A, rfl, by simpa using hA⟩
            · rename_i hout
              simp only [Option.some.injEq, Prod.mk.injEq] at hx
              obtain ⟨rfl, rfl⟩ := hx
              by_cases hcap : len + news.length ≤ cap
              · have hcap2 : (len + news.length) * i.size ≤ cap * i.size := Nat.mul_le_mul_right _ hcap
                have hfit : len * i.size + us.length ≤ cs.toList.length := by have hcl : cs.toList.length = cs.size := Array.length_toList; rw [hcl, l3, hmul]; omega
                have hspl : (splice cs.toList (len * i.size) us).length = cs.size := by rw [splice_length hfit, Array.length_toList]
                obtain ⟨p1, p2⟩ := upd_bump c.hr hbk hd (cs' := (splice cs.toList (len * i.size) us).toArray) (rows' := rows.take len ++ news) l1 (by simpa [hspl] using l2) (by simpa [hspl] using l3) l4 (by rw [hlen']; exact hcap) hr1'
                  (by
                    rw [hlen']
                    show VRc g w _ ((splice cs.toList (len * i.size) us).take ((len + news.length) * i.size))
                    have : (splice cs.toList (len * i.size) us).take ((len + news.length) * i.size) = cs.toList.take (len * i.size) ++ us := by
                      unfold splice
                      have e1 : (cs.toList.take (len * i.size) ++ us).length = (len + news.length) * i.size := by have hcl : cs.toList.length = cs.size := Array.length_toList; rw [List.length_append, List.length_take, hcl, ← hmul, Nat.min_eq_left (by omega)]
                      rw [← e1, List.take_left]
                    rw [this]
                    exact happ)
                refine ⟨.slice A (len + news.length) cap, _, _, ?_, p1, p2, ?_⟩
                · rw [hv] at hex; rw [hex _ (m1 hcap)]; rfl
                · simp only [VR]
                  refine ⟨hb1, by simp [gGrow], ?_⟩
                  have : (gGrow g bb g1 cc cap).hd bb (g1 + 1) = some (cc, cap) := by simp [gGrow]
                  rw [this]
                  exact ⟨by omega, q2, A, rfl, by simpa using hA⟩
              · obtain ⟨cap', n1, n2, n3⟩ := m2 (by omega)
                have hsz1 : (cs.toList.take (len * i.size)).length = len * i.size := by have hcl : cs.toList.length = cs.size := Array.length_toList; rw [List.length_take, hcl]; omega
                obtain ⟨p1, p2, p3⟩ := upd_grow (w' := w.drew.alloc (.cells ((cs.toList.take (len * i.size)).toArray ++ us.toArray ++ Builtin.zeroCells zv.cells (cap' - (len + news.length))) e)) (cap := cap') c.hr hbk (rows' := rows.take len ++ news)
                  (cs := (cs.toList.take (len * i.size)).toArray ++ us.toArray ++ Builtin.zeroCells zv.cells (cap' - (len + news.length))) (t := e)
                  (by rw [Array.size_append, Array.size_append, zc_size, hzs, List.size_toArray, List.size_toArray, hsz1, hmul, ← Nat.add_mul]; congr 1; omega) n2 (by rw [hlen']; exact n1) hr1'
                  (by
                    rw [hlen']
                    have e1 : (cs.toList.take (len * i.size) ++ us).length = (len + news.length) * i.size := by rw [List.length_append, hsz1, hmul]
                    have e2 : ((cs.toList.take (len * i.size)).toArray ++ us.toArray ++ Builtin.zeroCells zv.cells (cap' - (len + news.length))).toList = (cs.toList.take (len * i.size) ++ us) ++ (Builtin.zeroCells zv.cells (cap' - (len + news.length))).toList := by simp
                    rw [e2, ← e1, List.take_left]
                    exact happ)
                  (fun k hk => Below.heap_alloc w.drew _ k hk) (alloc_new' w.drew _) (by simp) rfl rfl rfl
                refine ⟨_, _, _, ?_, p1, p2, p3 _ n1⟩
                rw [hv] at hex; rw [hex _ (n3)]; rfl
        · cases hx
      · cases hx
    · cases hx
  · rename_i e0
    rw [e0] at hv
    simp only [VR, PR] at hv
    split at hx
    · rename_i hc
      simp only [Option.some.injEq, Prod.mk.injEq] at hx
      obtain ⟨rfl, rfl⟩ := hx
      obtain ⟨m1, m2⟩ := run_append_nil' (P := P) (ty := o.type) ht hu hi hzz k3 hul hc.2 hc.1
      rcases Nat.eq_zero_or_pos news.length with hn0 | hn0
      · have : news = [] := List.eq_nil_of_length_eq_zero hn0
        subst this
        obtain ⟨p1, p2, p3⟩ := push_nil c.hr e i.size
        refine ⟨nilS, w, _, ?_, p1, p2, p3⟩
        rw [hv] at hex; rw [hex _ (m1 rfl)]; rfl
      · obtain ⟨cap, n1, n2, n3⟩ := m2 hn0
        obtain ⟨p1, p2, p3⟩ := push_row (w' := w.drew.alloc (.cells (us.toArray ++ Builtin.zeroCells zv.cells (cap - news.length)) e)) c.hr (rows := news)
          (cs := us.toArray ++ Builtin.zeroCells zv.cells (cap - news.length)) e i.size cap (0, 0) (fun j _ => by omega) (by rw [Array.size_append, zc_size, hzs, List.size_toArray, hul, ← Nat.add_mul]; congr 1; omega) n2 n1 k2
          (by simp only [Array.toList_append, ← hul]; rw [List.take_left]; exact k1)
          (fun k hk => Below.heap_alloc w.drew _ k hk) (alloc_new' w.drew _) (by simp) rfl rfl rfl
        refine ⟨_, _, _, ?_, p1, p2, p3 _ n1⟩
        rw [hv] at hex; rw [hex _ (n3)]; rfl
    · cases hx
  · cases hx

end
end Go.Vs
