/- Regions: in the text's order, or in any order that the edges allow. -/
import Derived.Test.YtbichljebmhmnaaDoorV16
namespace Go.Vs
set_option linter.unusedSimpArgs false
set_option linter.unusedVariables false
open Go Go.RowKit

def Ins.srcOk : Ins → Bool
  | .load _ _ x => okC x
  | .slice _ x _ _ => okC x
  | .convB x => okC x
  | .slData x => okC x
  | _ => true

/-- For each operation: the set, as bits, of what must go ahead of it. -/
def ancOf (acc : List Nat) (o : Oper) : Nat := o.after.toList.foldl (fun s e => if Region.binds .any e then s ||| 2 ^ e.on ||| acc[e.on]?.getD 0 else s) 0
def ancs : List Oper → List Nat → List Nat
  | [], acc => acc
  | o :: os, acc => ancs os (acc ++ [ancOf acc o])

def backOk (k : Nat) (o : Oper) : Bool := o.after.toList.all fun e => !Region.binds .any e || e.on < k
def allBack : Nat → List Oper → Bool
  | _, [] => true
  | k, o :: os => backOk k o && allBack (k + 1) os

/-- Is the k-th free against each operation ahead of it that need not go ahead of it? -/
def freeAt (y : IOp) (anc : Nat) : Nat → List IOp → Bool
  | _, [] => true
  | i, x :: xs => (indepB x y || anc.testBit i) && freeAt y anc (i + 1) xs
def allFree (pre : List IOp) : List IOp → List Nat → Bool
  | [], _ => true
  | y :: ys, a :: as => y.ins.srcOk && freeAt y a 0 pre && allFree (pre ++ [y]) ys as
  | _ :: _, [] => false

def orderOk (ops : Array Oper) (is : List IOp) : Bool := allBack 0 ops.toList && allFree [] is (ancs ops.toList [])

theorem ancOf_spec {acc : List Nat} {D : Nat → Prop} (hacc : ∀ k m, acc[k]? = some m → D k → ∀ b, m.testBit b = true → D b) (o : Oper) (he : ∀ e ∈ o.after.toList, Region.binds .any e = true → D e.on) :
    ∀ b, (ancOf acc o).testBit b = true → D b := by
  unfold ancOf
  have : ∀ (es : List Edge) (s : Nat), (∀ e ∈ es, Region.binds .any e = true → D e.on) → (∀ b, s.testBit b = true → D b) →
      ∀ b, (es.foldl (fun s e => if Region.binds .any e then s ||| 2 ^ e.on ||| acc[e.on]?.getD 0 else s) s).testBit b = true → D b := by
    intro es
    induction es with
    | nil => intro s _ hs b hb; exact hs b hb
    | cons e es ih =>
      intro s he hs
      simp only [List.foldl_cons]
      refine ih _ (fun e' h' => he e' (by simp [h'])) ?_
      intro b hb
      split at hb
      · rename_i hbd
        have hD := he e (by simp) hbd
        rw [Nat.testBit_or, Nat.testBit_or, Bool.or_eq_true, Bool.or_eq_true] at hb
        rcases hb with (hb | hb) | hb
        · exact hs b hb
        · rw [Nat.testBit_two_pow] at hb
          simp at hb
          subst hb
          exact hD
        · cases hm : acc[e.on]? with
          | none => rw [hm] at hb; simp at hb
          | some m => rw [hm] at hb; exact hacc e.on m hm hD b hb
      · exact hs b hb
  exact this _ 0 he (by simp)

theorem ancs_len : ∀ (os : List Oper) (acc : List Nat), (ancs os acc).length = acc.length + os.length
  | [], acc => by simp [ancs]
  | o :: os, acc => by simp only [ancs, ancs_len os, List.length_append, List.length_cons, List.length_nil]; omega

theorem ancs_spec {D : Nat → Prop} : ∀ (os : List Oper) (acc : List Nat), (∀ k o, os[k]? = some o → D (acc.length + k) → ∀ e ∈ o.after.toList, Region.binds .any e = true → D e.on) →
    (∀ k m, acc[k]? = some m → D k → ∀ b, m.testBit b = true → D b) → ∀ k m, (ancs os acc)[k]? = some m →
      ((k < acc.length ∧ D k) ∨ ∃ o, acc.length ≤ k ∧ os[k - acc.length]? = some o ∧ ∀ e ∈ o.after.toList, Region.binds .any e = true → D e.on) → ∀ b, m.testBit b = true → D b
  | [], acc, _, hacc, k, m, hm, hk, b, hb => by
    simp only [ancs] at hm
    rcases hk with ⟨_, hk⟩ | ⟨o, _, ho, _⟩
    · exact hacc k m hm hk b hb
    · simp at ho
  | o :: os, acc, hdown, hacc, k, m, hm, hk, b, hb => by
    simp only [ancs] at hm
    have hlen : (acc ++ [ancOf acc o]).length = acc.length + 1 := by simp
    have hacc' : ∀ k m, (acc ++ [ancOf acc o])[k]? = some m → D k → ∀ b, m.testBit b = true → D b := by
      intro k m hm hk
      rw [List.getElem?_append] at hm
      split at hm
      · exact hacc k m hm hk
      · rename_i hlt
        have : k = acc.length := by
          rcases Nat.lt_or_ge acc.length k with h' | h'
          · have : k - acc.length = (k - acc.length - 1) + 1 := by omega
            rw [this] at hm; simp at hm
          · omega
        subst this
        simp at hm
        subst hm
        exact ancOf_spec hacc o (fun e he hb => hdown 0 o rfl hk e he hb)
    by_cases hkl : k = acc.length
    · subst hkl
      have hsame : ∀ (os : List Oper) (acc : List Nat) (j : Nat), j < acc.length → (ancs os acc)[j]? = acc[j]? := by
        intro os
        induction os with
        | nil => intro acc j hj; rfl
        | cons o os ih =>
          intro acc j hj
          simp only [ancs]
          rw [ih _ j (by simp; omega), List.getElem?_append_left hj]
      rw [hsame os _ acc.length (by simp)] at hm
      simp at hm
      subst hm
      rcases hk with ⟨hk, _⟩ | ⟨o', _, ho', he⟩
      · omega
      · simp at ho'
        subst ho'
        exact ancOf_spec hacc o he b hb
    · refine ancs_spec os (acc ++ [ancOf acc o]) ?_ hacc' k m hm ?_ b hb
      · intro j o' hj hD
        exact hdown (j + 1) o' (by simpa using hj) (by rw [hlen] at hD; rwa [show acc.length + (j + 1) = acc.length + 1 + j from by omega])
      · rw [hlen]
        rcases hk with ⟨hk, hD⟩ | ⟨o', hk, ho', he⟩
        · exact .inl ⟨by omega, hD⟩
        · refine .inr ⟨o', by omega, ?_, he⟩
          have : k - acc.length = (k - (acc.length + 1)) + 1 := by omega
          rw [this] at ho'
          simpa using ho'

theorem freeAt_spec {y : IOp} {anc : Nat} : ∀ (xs : List IOp) (i : Nat), freeAt y anc i xs = true → ∀ j x, xs[j]? = some x → indepB x y = true ∨ anc.testBit (i + j) = true
  | [], _, _, j, x, hx => by simp at hx
  | z :: zs, i, h, j, x, hx => by
    simp only [freeAt, Bool.and_eq_true, Bool.or_eq_true] at h
    cases j with
    | zero => simp at hx; subst hx; exact h.1
    | succ j =>
      have := freeAt_spec zs (i + 1) h.2 j x (by simpa using hx)
      rwa [show i + 1 + j = i + (j + 1) from by omega] at this

theorem allFree_spec : ∀ (ys pre : List IOp) (as : List Nat), allFree pre ys as = true → ∀ k y a, ys[k]? = some y → as[k]? = some a →
    y.ins.srcOk = true ∧ ∀ j x, j < pre.length + k → (pre ++ ys)[j]? = some x → indepB x y = true ∨ a.testBit j = true
  | [], _, _, _, k, y, a, hy, _ => by simp at hy
  | z :: zs, pre, b :: bs, h, k, y, a, hy, ha => by
    simp only [allFree, Bool.and_eq_true] at h
    cases k with
    | zero =>
      simp at hy ha
      subst hy; subst ha
      refine ⟨h.1.1, fun j x hj hx => ?_⟩
      have := freeAt_spec pre 0 h.1.2 j x (by rwa [List.getElem?_append_left (by omega)] at hx)
      rwa [Nat.zero_add] at this
    | succ k =>
      obtain ⟨k1, k2⟩ := allFree_spec zs (pre ++ [z]) bs h.2 k y a (by simpa using hy) (by simpa using ha)
      refine ⟨k1, fun j x hj hx => k2 j x (by simp; omega) (by simpa using hx)⟩
  | z :: zs, pre, [], h, _, _, _, _, _ => by simp [allFree] at h

theorem allBack_spec : ∀ (os : List Oper) (i : Nat), allBack i os = true → ∀ k o, os[k]? = some o → ∀ e ∈ o.after.toList, Region.binds .any e = true → e.on < i + k
  | [], _, _, k, o, ho => by simp at ho
  | o :: os, i, h, k, o', ho => by
    simp only [allBack, Bool.and_eq_true] at h
    cases k with
    | zero =>
      simp at ho
      subst ho
      intro e he hb
      have := List.all_eq_true.1 h.1 e he
      simp [hb] at this
      omega
    | succ k =>
      intro e he hb
      have := allBack_spec os (i + 1) h.2 k o' (by simpa using ho) e he hb
      omega

section
variable {rd : Option Nat} {en : Nat} {P : Program} {C : IC → Code → Prop} {E : Env} {shf : Operand → Bool} {ops : Array Oper} {Q : Exit → Act → World → Prop}

theorem compOps_get : ∀ {os : List Oper} {is : List IOp}, compOps P shf ops os = some is → is.length = os.length ∧ ∀ (k : Nat) (o : Oper), os[k]? = some o → ∃ i, is[k]? = some i ∧ compOper P shf ops o = some i
  | [], is, h => by simp only [compOps, Option.some.injEq] at h; subst h; simp
  | o :: os, is, h => by
    simp only [compOps] at h
    split at h
    · rename_i x xs hx hxs
      simp only [Option.some.injEq] at h
      subst h
      obtain ⟨h1, h2⟩ := compOps_get hxs
      refine ⟨by simp [h1], fun k o' hk => ?_⟩
      cases k with
      | zero => simp at hk; subst hk; exact ⟨x, rfl, hx⟩
      | succ k => exact h2 k o' (by simpa using hk)
    · cases h

theorem src_lt {s : St} {g : G} {a : Act} {w : World} (hs : SR P C E.gl en s g a w) {i : Ins} (hi : i.srcOk = true) : (i.src s.f E.gl).lt s.h.length := by
  have key : ∀ x : Opd, okC x = true → (x.ev s.f E.gl).lt s.h.length := by
    intro x hx
    cases x with
    | t n =>
      have := VR_lt (getT_rel hs n)
      rw [hs.c.hr.n] at this
      exact this
    | c v => cases v <;> first | trivial | (simp [okC] at hx)
    | g n => simp only [Opd.ev]; split <;> trivial
  cases i <;> simp only [Ins.src] <;> first | trivial | (exact key _ hi)

/-- In the text's order. -/
theorem ops_sound (hE : Sound P C E) {Q : Exit → Act → World → Prop} : ∀ (os : List Oper) (is : List IOp) (k : Nat) (s s' : St) (g : G) (a : Act) (w : World), ops.toList.drop k = os → compOps P shf ops os = some is → runOps E is s = some s' →
    SR P C E.gl en s g a w → (∀ a' w' g', Ext g w g' w' → SR P C E.gl en s' g' a' w' → Q .normal a' w') → wpOpsIn (FW rd) 0 P ops Q (List.range' k os.length) a w
  | [], is, k, s, s', g, a, w, _, hc, hr, hs, hQ => by
    simp only [compOps, Option.some.injEq] at hc
    subst hc
    simp only [runOps, Option.some.injEq] at hr
    subst hr
    exact hQ a w g (Ext.refl g w) hs
  | o :: os, is, k, s, s', g, a, w, hd, hc, hr, hs, hQ => by
    simp only [compOps] at hc
    split at hc
    · rename_i x xs hx hxs
      simp only [Option.some.injEq] at hc
      subst hc
      simp only [runOps, Option.bind_eq_some_iff] at hr
      obtain ⟨s1, hr1, hr2⟩ := hr
      have hk : ops[k]? = some o := by
        have : (ops.toList.drop k)[0]? = some o := by rw [hd]; rfl
        simpa [List.getElem?_drop] using this
      have hd' : ops.toList.drop (k + 1) = os := by rw [← List.drop_drop, hd]; rfl
      simp only [List.length_cons, List.range'_succ]
      rw [wpOpsIn_cons]
      exact stepO_sound hE hs hk hx hr1 (fun a' w' g' h1 h2 => ops_sound hE os xs (k + 1) s1 s' g' a' w' hd' hxs hr2 h2 (fun a2 w2 g2 h3 h4 => hQ a2 w2 g2 (h1.trans h3) h4))
    · cases hc

theorem front : ∀ (pre : List IOp) (y : IOp) (post : List IOp) (s s' : St), (∀ x ∈ pre, indepB x y = true) → (y.ins.src s.f E.gl).lt s.h.length → (∀ x ∈ pre, ∀ s s1, stepO E x s = some s1 → (y.ins.src s.f E.gl).lt s.h.length → (y.ins.src s1.f E.gl).lt s1.h.length) →
    runOps E (pre ++ y :: post) s = some s' → ∃ s1, stepO E y s = some s1 ∧ runOps E (pre ++ post) s1 = some s'
  | [], y, post, s, s', _, _, _, h => by
    simp only [List.nil_append, runOps, Option.bind_eq_some_iff] at h
    exact h
  | x :: pre, y, post, s, s', hi, hl, hk, h => by
    simp only [List.cons_append, runOps, Option.bind_eq_some_iff] at h
    obtain ⟨s1, h1, h2⟩ := h
    obtain ⟨s2, h3, h4⟩ := front pre y post s1 s' (fun z hz => hi z (by simp [hz])) (hk x (by simp) s s1 h1 hl) (fun z hz => hk z (by simp [hz])) h2
    obtain ⟨s1', h5, h6⟩ := commute (hi x (by simp)) hl h1 h3
    exact ⟨s1', h5, by simp only [List.cons_append, runOps, h6, Option.bind_some]; exact h4⟩

theorem src_keep {x y : IOp} (hi : indepB x y = true) {s s1 : St} (h : stepO E x s = some s1) (hl : (y.ins.src s.f E.gl).lt s.h.length) (hc : y.ins.cls = 1 → s.h.length ≤ s1.h.length) : (y.ins.src s1.f E.gl).lt s1.h.length := by
  have huses : ∀ t ∈ y.ins.uses, getT s1.f t = getT s.f t := by
    intro t ht
    rw [stepO_act, Option.map_eq_some_iff] at h
    obtain ⟨⟨v, h'⟩, _, rfl⟩ := h
    refine getT_put ?_
    intro e
    unfold indepB at hi
    rw [e] at hi
    simp only [Bool.and_eq_true, Bool.not_eq_true', List.contains_eq_mem, decide_eq_false_iff_not] at hi
    exact hi.1.1.1 (by simp [IOp.uses, ht])
  have key : ∀ x : Opd, (∀ t ∈ x.uses, getT s1.f t = getT s.f t) → x.ev s1.f E.gl = x.ev s.f E.gl := fun x hx => ev_congr hx
  have mono : ∀ {v : AV} {n m : Nat}, v.lt n → n ≤ m → v.lt m := by
    intro v n m hv hnm
    cases v <;> first | trivial | (exact Nat.lt_of_lt_of_le hv hnm)
  cases hins : y.ins <;> rw [hins] at hl huses hc <;> simp only [Ins.src] at hl ⊢ <;> first | trivial | skip
  · rw [key _ huses]; exact mono hl (hc rfl)
  · rw [key _ huses]; exact mono hl (hc rfl)
  · rw [key _ (fun t ht => huses t (by simp [Ins.uses, ht]))]; exact mono hl (hc rfl)
  · rw [key _ huses]; exact mono hl (hc rfl)

theorem grows {x y : IOp} (hi : indepB x y = true) (hy : y.ins.cls = 1) {s s1 : St} (h : stepO E x s = some s1) : s.h.length ≤ s1.h.length := by
  rw [stepO_act, Option.map_eq_some_iff] at h
  obtain ⟨⟨v, h'⟩, ha, rfl⟩ := h
  unfold indepB at hi
  simp only [Bool.and_eq_true, Bool.or_eq_true, beq_iff_eq, hy] at hi
  have hi3 := hi.2
  unfold actO at ha
  split at ha
  · cases ha
  · simp only [Option.some.injEq, Prod.mk.injEq] at ha; rw [ha.2]; exact Nat.le_refl _
  · by_cases hcl : ∃ sh fo as, x.ins = .call sh fo as
    · obtain ⟨sh, fo, as, e⟩ := hcl
      rw [e] at ha hi3
      cases sh with
      | true => simp [Ins.cls] at hi3
      | false =>
        simp only [stepI] at ha
        split at ha
        · simp only [Option.map_eq_some_iff, Prod.mk.injEq] at ha
          obtain ⟨_, _, _, rfl⟩ := ha
          exact Nat.le_refl _
        · cases ha
    · rw [stepI_ev (fun sh fo as e => hcl ⟨sh, fo, as, e⟩)] at ha
      simp at hi3
      rcases hi3 with (hc | (hc | hc)) | hc
      · rw [(ev0 hc ha).1]; exact Nat.le_refl _
      · rw [ev1_same hc ha]; exact Nat.le_refl _
      · exfalso
        cases hins : x.ins <;> rw [hins] at hc <;> simp [Ins.cls] at hc
        rename_i sh fo as
        exact hcl ⟨_, _, _, hins⟩
      · obtain ⟨e, rfl⟩ := ev2_ext hc ha; simp


/-- What is left: the operations that are not listed, in the text's order. -/
def remI (listed : Array Bool) (n : Nat) : List Nat := (List.range n).filter fun k => !listed.getD k false

theorem rem_split {listed : Array Bool} {n i : Nat} (hi : i < n) (hl : listed.getD i false = false) (hs : i < listed.size) :
    ∃ pre post, remI listed n = pre ++ i :: post ∧ remI (listed.setIfInBounds i true) n = pre ++ post ∧ ∀ x ∈ pre, x < i ∧ listed.getD x false = false := by
  have hr : List.range n = List.range i ++ i :: List.range' (i + 1) (n - (i + 1)) := by
    rw [List.range_eq_range', List.range_eq_range']
    have e1 : List.range' 0 n = List.range' 0 i ++ List.range' (0 + i) (n - i) := by rw [List.range'_append_1]; congr 1; omega
    rw [e1]
    have e2 : n - i = (n - (i + 1)) + 1 := by omega
    rw [e2, List.range'_succ]
    simp
  refine ⟨(List.range i).filter fun k => !listed.getD k false, (List.range' (i + 1) (n - (i + 1))).filter fun k => !listed.getD k false, ?_, ?_, ?_⟩
  · unfold remI
    rw [hr, List.filter_append, List.filter_cons, if_pos (by simp [hl])]
  · unfold remI
    rw [hr, List.filter_append, List.filter_cons]
    have hii : (listed.setIfInBounds i true).getD i false = true := by simp [Array.getD, hs]
    rw [if_neg (by simp [hii])]
    congr 1
    · refine List.filter_congr (fun x hx => ?_)
      rw [getD_set_ne false (by simp at hx; omega)]
    · refine List.filter_congr (fun x hx => ?_)
      rw [getD_set_ne false (by simp at hx; omega)]
  · intro x hx
    simp only [List.mem_filter, List.mem_range, Bool.not_eq_true'] at hx
    exact hx

theorem any_sound (hE : Sound P C E) {is : List IOp} (hc : compOps P shf ops ops.toList = some is) (hok : orderOk ops is = true) {s' : St} :
    ∀ (fuel : Nat) (listed : Array Bool) (s : St) (g : G) (a : Act) (w : World), listed.size = ops.size → (remI listed ops.size).length ≤ fuel →
      (∀ k o, ops[k]? = some o → listed.getD k false = true → ∀ e ∈ o.after.toList, Region.binds .any e = true → listed.getD e.on false = true) →
      runOps E ((remI listed ops.size).filterMap (is[·]?)) s = some s' → SR P C E.gl en s g a w → (∀ a' w' g', Ext g w g' w' → SR P C E.gl en s' g' a' w' → Q .normal a' w') → wpAnyIn (FW rd) 0 P .any ops Q fuel listed a w := by
  have hcg := compOps_get hc
  unfold orderOk at hok
  simp only [Bool.and_eq_true] at hok
  have hback := allBack_spec ops.toList 0 hok.1
  have hlenI : is.length = ops.size := by rw [hcg.1, Array.length_toList]
  have hgetO : ∀ k o, ops[k]? = some o → ops.toList[k]? = some o := fun k o h => by rw [Array.getElem?_toList]; exact h
  -- ready is not empty while something is left
  have hprog : ∀ (listed : Array Bool), listed.size = ops.size → Region.ready .any ops listed = [] → remI listed ops.size = [] := by
    intro listed hsz hr
    cases hrem : remI listed ops.size with
    | nil => rfl
    | cons i rest =>
      exfalso
      have hmem : i ∈ remI listed ops.size := by rw [hrem]; simp
      have hi := hmem
      simp only [remI, List.mem_filter, List.mem_range, Bool.not_eq_true'] at hi
      have hlow : ∀ k, k < i → listed.getD k false = true := by
        intro k hk
        cases hb : listed.getD k false with
        | true => rfl
        | false =>
          exfalso
          have hkm : k ∈ remI listed ops.size := by simp only [remI, List.mem_filter, List.mem_range, Bool.not_eq_true']; exact ⟨by omega, hb⟩
          have hsorted : (remI listed ops.size).Pairwise (· < ·) := List.Pairwise.filter _ List.pairwise_lt_range
          rw [hrem] at hkm hsorted
          rcases List.mem_cons.1 hkm with rfl | hkm
          · omega
          · have := (List.pairwise_cons.1 hsorted).1 k hkm
            omega
      have hio : ops[i]? = some ops[i] := Array.getElem?_eq_getElem hi.1
      have : i ∈ Region.ready .any ops listed := by
        rw [mem_ready]
        refine ⟨?_, ops[i], hio, fun e he hb => ?_⟩
        · have := hi.2
          simp only [Array.getD] at this ⊢
          split at this
          · rename_i h; simp only [dif_pos h]; exact this
          · rename_i h; omega
        · have := hback i ops[i] (hgetO _ _ hio) e (Array.mem_toList_iff.2 he) hb
          exact hlow _ (by omega)
      rw [hr] at this
      simp at this
  intro fuel
  induction fuel with
  | zero =>
    intro listed s g a w hsz hf hdown hr hs hQ
    have hrem : remI listed ops.size = [] := List.eq_nil_of_length_eq_zero (by omega)
    rw [hrem] at hr
    simp only [List.filterMap_nil, runOps, Option.some.injEq] at hr
    subst hr
    refine ⟨?_, hQ a w g (Ext.refl g w) hs⟩
    cases hrd : Region.ready .any ops listed with
    | nil => rfl
    | cons i r =>
      exfalso
      have : i ∈ Region.ready .any ops listed := by rw [hrd]; simp
      rw [mem_ready] at this
      obtain ⟨h1, o, ho, _⟩ := this
      have hlt := (Array.getElem?_eq_some_iff.1 ho).1
      have : i ∈ remI listed ops.size := by
        simp only [remI, List.mem_filter, List.mem_range, Bool.not_eq_true']
        refine ⟨hlt, ?_⟩
        simp only [Array.getD] at h1 ⊢
        split at h1
        · rename_i h; simp only [dif_pos h]; exact h1
        · cases h1
      rw [hrem] at this
      simp at this
  | succ fuel ih =>
    intro listed s g a w hsz hf hdown hr hs hQ
    refine ⟨fun hrd => ?_, fun i hi => ?_⟩
    · have hrem := hprog listed hsz hrd
      rw [hrem] at hr
      simp only [List.filterMap_nil, runOps, Option.some.injEq] at hr
      subst hr
      exact hQ a w g (Ext.refl g w) hs
    · rw [mem_ready] at hi
      obtain ⟨h1, o, ho, hedges⟩ := hi
      have hlt := (Array.getElem?_eq_some_iff.1 ho).1
      have hlf : listed.getD i false = false := by
        simp only [Array.getD] at h1 ⊢
        split at h1
        · rename_i h; simp only [dif_pos h]; exact h1
        · cases h1
      obtain ⟨pre, post, hrem, hrem', hpre⟩ := rem_split hlt hlf (by omega)
      obtain ⟨io, hio, hco⟩ := hcg.2 i o (hgetO _ _ ho)
      rw [hrem] at hr
      rw [List.filterMap_append, List.filterMap_cons, hio] at hr
      simp only at hr
      -- what goes ahead in the text and is not listed may change places with it
      have hanc : ∃ m, (ancs ops.toList [])[i]? = some m := by
        refine ⟨_, List.getElem?_eq_getElem (by rw [ancs_len]; simpa using hlt)⟩
      obtain ⟨m, hm⟩ := hanc
      have hD := ancs_spec (D := fun k => listed.getD k false = true) ops.toList [] (fun k o' ho' hk => by
          rw [List.length_nil, Nat.zero_add] at hk
          exact hdown k o' (by rw [Array.getElem?_toList] at ho'; exact ho') hk) (by simp) i m hm (.inr ⟨o, by simp, by rw [List.length_nil, Nat.sub_zero, Array.getElem?_toList]; exact ho, fun e he hb => hedges e (Array.mem_toList_iff.1 he) hb⟩)
      obtain ⟨hsrc, hfree⟩ := allFree_spec is [] (ancs ops.toList []) hok.2 i io m hio hm
      have hind : ∀ x ∈ pre.filterMap (is[·]?), indepB x io = true := by
        intro x hx
        simp only [List.mem_filterMap] at hx
        obtain ⟨j, hj, hxj⟩ := hx
        obtain ⟨hji, hjl⟩ := hpre j hj
        rcases hfree j x (by simpa using hji) (by simpa using hxj) with h | h
        · exact h
        · have := hD j h
          rw [hjl] at this
          cases this
      obtain ⟨s1, h5, h6⟩ := front (pre.filterMap (is[·]?)) io (post.filterMap (is[·]?)) s s' hind (src_lt hs hsrc)
        (fun x hx s s1 hst hl => src_keep (hind x hx) hst hl (fun hcl => grows (hind x hx) hcl hst)) hr
      refine stepO_sound hE hs ho hco h5 (fun a' w' g' he' hs' => ?_)
      refine ih (listed.setIfInBounds i true) s1 g' a' w' (by simpa using hsz) ?_ ?_ ?_ hs' (fun a2 w2 g2 h3 h4 => hQ a2 w2 g2 (he'.trans h3) h4)
      · rw [hrem] at hf
        rw [hrem']
        simp only [List.length_append, List.length_cons] at hf ⊢
        omega
      · intro k o' ho' hk e he hb
        by_cases hki : i = k
        · subst hki
          rw [ho] at ho'
          simp only [Option.some.injEq] at ho'
          subst ho'
          exact getD_set_true (hedges e (Array.mem_toList_iff.1 he) hb)
        · rw [getD_set_ne false hki] at hk
          exact getD_set_true (hdown k o' ho' hk e he hb)
      · rw [hrem', List.filterMap_append]
        exact h6

end
end Go.Vs
