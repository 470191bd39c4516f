/- A row's contract, out of what the abstract machine answers: true, whatever the arguments. No program is named here. -/
import Derived.Test.YtbichljebmhmnaaDoorV22
namespace Go.Vs
set_option linter.unusedSimpArgs false
set_option linter.unusedVariables false
open Go Go.RowKit Go.ChangeShapes Go.ChangeAt

/-- An argument of a type, out of its cells. -/
def argA (P : Program) (t : TypeId) (xs : List PV) : AV :=
  match aggT P t with
  | some true => .agg (xs.map .p)
  | _ => match xs with
    | [x] => .p x
    | _ => .und

def ArgsFit (P : Program) (m : Nat) : List TypeId → List AV → Prop
  | [], [] => True
  | t :: ts, a :: as => (∃ ks xs, shOfT P m t = some ks ∧ FitL ks xs ∧ a = argA P t xs) ∧ ArgsFit P m ts as
  | _, _ => False

section
variable {H : Type} {enc : TypeId × Value → H} {P : Program} {w : World} {g : G}

theorem arg_rel {r : Reach} {base m : Nat} {t : TypeId} {v : Value} {d : DataW H} {ps : List MemPlace} {ks : List Sh} (hg : g.S = fun c => c < w.heap.size) (hd : DataW.Trod enc P w 0 (fun _ => true) true t v d ps) (hok : Value.okWide P w r base t v)
    (hk : shOfT P m t = some ks) : ∃ xs, FitL ks xs ∧ VR g w (argA P t xs) v := by
  obtain ⟨n, hn⟩ := hd
  obtain ⟨xs, h1, h2⟩ := trod_rel n m t _ _ ks hn hk
  have h3 := h2.vrs hg
  refine ⟨xs, h1, ?_⟩
  have one : v.cells = #[v] → ks.length = 1 → aggT P t = some false → VR g w (argA P t xs) v := by
    intro hv hl ha
    have hxl := h1.len
    rw [hl] at hxl
    match xs, hxl with
    | [x], _ =>
      rw [hv] at h3
      simp only [List.map_cons, List.map_nil, VRs] at h3
      simp only [argA, ha]
      exact h3.1
  cases m with
  | zero => simp [shOfT] at hk
  | succ m =>
    simp only [shOfT] at hk
    unfold Value.okWide at hok
    split at hk
    · rename_i hu
      simp only [Option.some.injEq] at hk; subst hk
      rw [hu] at hok
      simp only [Cell.okWide, hu] at hok
      unfold Cell.ok at hok
      rw [hu] at hok
      refine one ?_ rfl (by simp [aggT, hu, isAggD])
      cases v <;> first | rfl | (exfalso; simp at hok)
    · rename_i k hu
      simp only [Option.some.injEq] at hk; subst hk
      rw [hu] at hok
      simp only [Cell.okWide, hu] at hok
      unfold Cell.ok at hok
      rw [hu] at hok
      refine one ?_ rfl (by simp [aggT, hu, isAggD])
      cases v <;> first | rfl | (exfalso; simp at hok)
    · rename_i hu
      simp only [Option.some.injEq] at hk; subst hk
      rw [hu] at hok
      simp only [Cell.okWide, hu] at hok
      unfold Cell.ok at hok
      rw [hu] at hok
      refine one ?_ rfl (by simp [aggT, hu, isAggD])
      cases v <;> first | rfl | (exfalso; simp at hok)
    · rename_i e hu
      rw [hu] at hok
      simp only [Cell.okWide, hu] at hok
      unfold Cell.ok at hok
      rw [hu] at hok
      have hl : ks.length = 1 := by
        simp only [Option.bind_eq_some_iff] at hk
        obtain ⟨ks', _, hk⟩ := hk
        split at hk
        · simp only [Option.some.injEq] at hk; subst hk; rfl
        · cases hk
      refine one ?_ hl (by simp [aggT, hu, isAggD])
      cases v <;> first | rfl | (exfalso; simp at hok)
    · rename_i fs hu
      rw [hu] at hok
      obtain ⟨cs, rfl, _⟩ := hok
      simp only [argA, aggT, hu, Option.map_some, isAggD, VR]
      exact ⟨cs, rfl, h3⟩
    · rename_i len e hu
      rw [hu] at hok
      obtain ⟨cs, rfl, _⟩ := hok
      simp only [argA, aggT, hu, Option.map_some, isAggD, VR]
      exact ⟨cs, rfl, h3⟩
    · cases hk

theorem args_rel {r : Reach} {base m : Nat} (hg : g.S = fun c => c < w.heap.size) : ∀ {ts : List TypeId} {vs : List Value} {ds : List (DataW H)} {ps : List MemPlace}, DataW.TrodAll enc P w 0 (fun _ => true) true ts vs ds ps →
    (∀ (j : Nat) t v, ts[j]? = some t → vs[j]? = some v → Value.okWide P w r base t v) → ts.all (fun t => (shOfT P m t).isSome) = true → ds.length = ts.length ∧ ∃ as, ArgsFit P m ts as ∧ VRs g w as vs
  | [], [], [], _, _, _, _ => ⟨rfl, [], by simp [ArgsFit], by simp [VRs]⟩
  | t :: ts, v :: vs, d :: ds, _, ⟨p, q, h1, h2, _⟩, hok, hk => by
    simp only [List.all_cons, Bool.and_eq_true] at hk
    obtain ⟨ks, hks⟩ := Option.isSome_iff_exists.1 hk.1
    obtain ⟨xs, a1, a2⟩ := arg_rel hg h1 (hok 0 t v rfl rfl) hks
    obtain ⟨hl, as, b1, b2⟩ := args_rel hg h2 (fun j t v hj hv => hok (j + 1) t v (by simpa using hj) (by simpa using hv)) hk.2
    exact ⟨by simp [hl], argA P t xs :: as, by simp only [ArgsFit]; exact ⟨⟨ks, xs, hks, a1, rfl⟩, b1⟩, by simp only [VRs]; exact ⟨a2, b2⟩⟩
  | [], [], _ :: _, _, h, _, _ => by simp [DataW.TrodAll] at h
  | [], _ :: _, _, _, h, _, _ => by simp [DataW.TrodAll] at h
  | _ :: _, [], _, _, h, _, _ => by simp [DataW.TrodAll] at h
  | _ :: _, _ :: _, [], _, h, _, _ => by simp [DataW.TrodAll] at h

/-- Everything that was there stays. -/
theorem kept_of {w w' : World} (h1 : w'.os = w.os) (h2 : w'.output = w.output) (h3 : ∀ c, c < w.heap.size → w'.heap[c]? = w.heap[c]?) (may : MemPlace → Prop) : w.keptBut w' may := by
  refine ⟨h1, h2, fun i hi => ?_⟩
  rw [h3 i hi]
  split
  · rename_i h4 h5
    rw [h4] at h5
    simp only [Option.some.injEq, Obj.cells.injEq] at h5
    obtain ⟨rfl, rfl, rfl⟩ := h5
    exact ⟨rfl, rfl, rfl, fun _ _ => rfl⟩
  · rename_i h4 h5
    rw [h4] at h5
    simp only [Option.some.injEq, Obj.map.injEq] at h5
    obtain ⟨rfl, rfl⟩ := h5
    exact .inr ⟨rfl, rfl⟩
  · rfl

theorem same_of {w w' : World} (h3 : ∀ c, c < w.heap.size → w'.heap[c]? = w.heap[c]?) {p : MemPlace} (hp : p.block < w.heap.size) : w.sameAt w' p := by
  cases p with
  | cell b o => simp only [World.sameAt]; exact cell_same (h3 b hp)
  | map b => simp only [World.sameAt]; exact h3 b hp

theorem trodAll_stays {w w' : World} {T : TypeId → Prop} (K : Kids P T) (hsz : ∀ t e, T t → P.underlying t = some (.slice e) → 0 < P.cellsOf e) (h3 : ∀ c, c < w.heap.size → w'.heap[c]? = w.heap[c]?) :
    ∀ {ts : List TypeId} {vs : List Value} {ds : List (DataW H)} {ps : List MemPlace}, (∀ t ∈ ts, T t) → DataW.TrodAll enc P w 0 (fun _ => true) true ts vs ds ps → DataW.TrodAll enc P w' 0 (fun b => decide (b < w.heap.size)) true ts vs ds ps
  | [], [], [], _, _, h => h
  | t :: ts, v :: vs, d :: ds, _, hT, ⟨p, q, h1, h2, e⟩ => by
    have hlt : ∀ x ∈ p, x.block < w.heap.size := fun x hx => DataW.TrodAll.lt (show DataW.TrodAll enc P w 0 (fun _ => true) true (t :: ts) (v :: vs) (d :: ds) _ from ⟨p, q, h1, h2, rfl⟩) x (List.mem_append_left _ hx)
    refine ⟨p, q, ?_, trodAll_stays K hsz h3 (fun u hu => hT u (List.mem_cons_of_mem _ hu)) h2, e⟩
    obtain ⟨n, hn⟩ := h1
    exact ⟨n, DataW.trod_stays K (fun ht hu => hsz _ _ ht hu) (fun h => by cases h) (hT t (List.mem_cons_self ..)) hn (fun x hx => same_of h3 (hlt x hx)) (fun x hx => by simpa using hlt x hx)⟩
  | [], [], _ :: _, _, _, h => by simp [DataW.TrodAll] at h
  | [], _ :: _, _, _, _, h => by simp [DataW.TrodAll] at h
  | _ :: _, [], _, _, _, h => by simp [DataW.TrodAll] at h
  | _ :: _, _ :: _, [], _, _, h => by simp [DataW.TrodAll] at h

/-- What holds when the call begins: all that lies there stays, nothing is the call's own. -/
def G0 (P : Program) (w : World) : G := { S := fun c => c < w.heap.size, Pr := fun c => c < w.heap.size, N := 0, m := fun _ => 0, gen := fun _ => 0, hd := fun _ _ => none, cr := Good P }

theorem HR0 (P : Program) (w : World) : HR (G0 P w) [] w :=
  ⟨rfl, fun b x h => by simp at h, fun b b' x x' c h => by simp at h, fun b x c h => by simp at h, fun _ h => h, fun _ h => h⟩

theorem contract_of {p : Prg} (hp : PrgOk P p) {fn m : Nat} {fd : Func} {s : ChangeSpec} {laid : List (String × DataW Unit)} {tb : TypeId} {T : TypeId → Prop} (hparams : fd.params.toList.all (fun t => (shOfT P m t).isSome) = true)
    (hres : fd.resultTypes = #[tb]) (htb : P.underlying tb = some .bool) (hvars : s.vars = []) (hspec : ∀ (H : Type) (ds : List (DataW H)), ds.length = fd.params.toList.length → s.fn H ds = { results := [.lit (.bool true)], args := ds })
    (K : Kids P T) (hsz : ∀ t e, T t → P.underlying t = some (.slice e) → 0 < P.cellsOf e) (hT : ∀ t ∈ fd.params.toList, T t)
    (hgl : ∀ W : World, laidMetH P laid W → ∀ n xs, p.gl n = some xs → n < W.heap.size ∧ PRs (fun c => c < W.heap.size) W n 0 xs)
    (hrun : ∀ as, ArgsFit P m fd.params.toList as → CP p fn as [] = some (vb true))
    (W : World) (base : Nat) (args : Array Value) (ds gs : List (DataW H)) (before : List MemPlace)
    (hval : ∀ (j : Nat) t v, fd.params[j]? = some t → args[j]? = some v → Value.okWide P W .any base t v)
    (hW : DataW.Whole enc P fd.params.toList s.vars false W args.toList ds gs before) (hL : laidMetH P laid W) :
    Calls P fn args W fun e W' => ∃ v, e = .returned v ∧ s.post enc P fd false true false false W args v W' := by
  obtain ⟨pa, q, hA, hV, hbef, hfz, hnd⟩ := id hW
  rw [hvars] at hV
  obtain ⟨rfl, rfl⟩ := trodVars_none hV
  obtain ⟨hdl, as, h1, h2⟩ := args_rel (g := G0 P W) (m := m) (r := .any) (base := base) rfl hA (fun j t v hj hv => hval j t v (by simpa using hj) (by simpa using hv)) hparams
  have hcall := (CP_sound hp (hrun as h1)).2 (G0 P W) W args.toList rfl (fun n xs hx => by obtain ⟨k1, k2⟩ := hgl W hL n xs hx; exact ⟨k1, k2⟩) (HR0 P W) h2
  refine (show Calls P fn args W _ from by simpa only [Array.toArray_toList] using hcall).mono ?_
  rintro e W2 ⟨x, g2, he, hE, hH, hx⟩
  subst he
  simp only [VR, PR] at hx
  subst hx
  have hst : ∀ c, c < W.heap.size → W2.heap[c]? = W.heap[c]? := fun c hc => hE.pr c hc
  refine ⟨_, rfl, ?_⟩
  have hsp := hspec H ds hdl
  refine ⟨ds, [], before, [], pa, [], hW, ?_, ?_, ?_, kept_of hE.os hE.output hst _, fun h => by cases h⟩
  · rw [List.append_nil, hsp, hres]
    exact trodAll_cons_mk (shut_bool htb _) trodAll_mk0
  · rw [List.append_nil, hsp]
    exact trodAll_stays K hsz hst hT hA
  · rw [List.append_nil, hsp, hvars]
    rfl
end
end Go.Vs
