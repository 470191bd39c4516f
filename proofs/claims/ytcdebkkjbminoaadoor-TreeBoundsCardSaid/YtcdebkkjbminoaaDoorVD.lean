/- What is frozen: own slices that lie in elder blocks are read out, and their memory stays. -/
import Derived.Test.YtcdebkkjbminoaaDoorVC
import Derived.Scope
open Option renaming some.injEq → oiq, map_eq_some_iff → mei, bind_eq_some_iff → bei
open Prod renaming mk.injEq → piq
open Bool renaming and_eq_true → aet, false_eq_true → fet
open List renaming getElem?_eq_some_iff → gei, getElem?_set → gst
namespace Go.Vs
set_option linter.unusedSimpArgs false
set_option linter.unusedVariables false
open Go Go.RowKit
def mapO {α β : Type} (f : α → Option β) : List α → Option (List β)
 | [] => some []
 | x :: xs => match f x, mapO f xs with
  | some y, some ys => some (y :: ys)
  | _, _ => none
def purP (h : List AB) : Nat → AV → Option PV
 | 0, _ => none
 | _ + 1, .p x => some x
 | n + 1, .sl b gen size off len => match h[b]? with
  | some (.row _ s g rows) => if g = gen ∧ s = size ∧ off + len ≤ rows.length then (mapO (mapO (purP h n)) ((rows.drop off).take len)).map (.lst size) else none
  | some (.frz s g rows) => if g = gen ∧ s = size ∧ off + len ≤ rows.length then some (.lst size ((rows.drop off).take len)) else none
  | _ => none
 | _, _ => none
mutual
def frzA (hm : List AB) (n : Nat) : AV → Option AV
 | .p x => some (.p x)
 | .ro xs => some (.ro xs)
 | .und => some .und
 | .anyp => some .anyp
 | .anye => some .anye
 | .agg xs => (frzAs hm n xs).map .agg
 | .tup xs => (frzAs hm n xs).map .tup
 | .fn f xs => (frzAs hm n xs).map (.fn f)
 | .ptr b o => if b < n then some (.ptr b o) else none
 | .rp b g s k o => if b < n then some (.rp b g s k o) else none
 | .sl b g s o l => if b < n then some (.sl b g s o l) else (purP hm 50 (.sl b g s o l)).map .p
 | .mp b => if b < n then some (.mp b) else none
 | .yl b => if b < n then some (.yl b) else none
def frzAs (hm : List AB) (n : Nat) : List AV → Option (List AV)
 | [] => some []
 | x :: xs => match frzA hm n x, frzAs hm n xs with
  | some y, some ys => some (y :: ys)
  | _, _ => none
end
def frzB (hm : List AB) (n : Nat) : AB → Option AB
 | .cells t xs => (frzAs hm n xs).map (.cells t)
 | .row t s g rows => (mapO (frzAs hm n) rows).map (.row t s g)
 | x => if x.blw n then some x else none
def mask (n : Nat) (h : List AB) : List AB := List.replicate n .hole ++ h.drop n
def frzT (n : Nat) (h : List AB) : Option (List AB) := if n ≤ h.length then mapO (frzB (mask n h) n) (h.take n) else none
theorem mapO_get {α β : Type} {f : α → Option β} : ∀ (xs : List α) (ys : List β), mapO f xs = some ys → ys.length = xs.length ∧ ∀ (i : Nat) (y : β), ys[i]? = some y → ∃ x, xs[i]? = some x ∧ f x = some y
 | [], ys, h => by simp only [mapO, oiq] at h; subst h; simp
 | x :: xs, ys, h => by
  simp only [mapO] at h
  split at h
  ·rename_i y ys' h1 h2
   simp only [oiq] at h
   subst h
   obtain ⟨k1, k2⟩ := mapO_get xs ys' h2
   refine ⟨by simp [k1], fun i z hz => ?_⟩
   cases i with
   | zero => simp at hz; subst hz; exact ⟨x, rfl, h1⟩
   | succ i => exact k2 i z (by simpa using hz)
  ·cases h
theorem mapO_id {α : Type} {f : α → Option α} : ∀ (xs : List α), (∀ x ∈ xs, f x = some x) → mapO f xs = some xs
 | [], _ => rfl
 | x :: xs, h => by simp only [mapO, h x (List.mem_cons_self ..), mapO_id xs (fun y hy => h y (List.mem_cons_of_mem _ hy))]
mutual
theorem frzA_blw {hm : List AB} {n : Nat} : ∀ (x : AV), x.blw n = true → frzA hm n x = some x
 | .p x, _ => rfl
 | .ro _, _ => rfl
 | .und, _ => rfl
 | .anyp, _ => rfl
 | .anye, _ => rfl
 | .agg xs, h => by simp only [AV.blw] at h; simp only [frzA, frzAs_blw xs h, Option.map_some]
 | .tup xs, h => by simp only [AV.blw] at h; simp only [frzA, frzAs_blw xs h, Option.map_some]
 | .fn f xs, h => by simp only [AV.blw] at h; simp only [frzA, frzAs_blw xs h, Option.map_some]
 | .ptr b o, h => by simp only [AV.blw, decide_eq_true_eq] at h; simp only [frzA, if_pos h]
 | .rp b g s k o, h => by simp only [AV.blw, decide_eq_true_eq] at h; simp only [frzA, if_pos h]
 | .sl b g s o l, h => by simp only [AV.blw, decide_eq_true_eq] at h; simp only [frzA, if_pos h]
 | .mp b, h => by simp only [AV.blw, decide_eq_true_eq] at h; simp only [frzA, if_pos h]
 | .yl b, h => by simp only [AV.blw, decide_eq_true_eq] at h; simp only [frzA, if_pos h]
theorem frzAs_blw {hm : List AB} {n : Nat} : ∀ (xs : List AV), belows n xs = true → frzAs hm n xs = some xs
 | [], _ => rfl
 | x :: xs, h => by
  simp only [belows, aet] at h
  simp only [frzAs, frzA_blw x h.1, frzAs_blw xs h.2]
end
theorem frzB_blw {hm : List AB} {n : Nat} (x : AB) (h : x.blw n = true) : frzB hm n x = some x := by
 cases x with
 | cells t xs => simp only [AB.blw] at h; simp only [frzB, frzAs_blw xs h, Option.map_some]
 | row t s g rows =>
  simp only [AB.blw] at h
  simp only [frzB, mapO_id rows (fun r hr => frzAs_blw r (List.all_eq_true.1 h r hr)), Option.map_some]
 | loop st pend ps f ia ib => simp only [frzB, if_pos h]
 | map _ es => simp only [frzB, if_pos h]
 | frz _ _ _ => simp only [frzB, if_pos h]
 | dead => simp only [frzB, if_pos h]
 | hole => simp only [frzB, if_pos h]
theorem frzT_blw {n : Nat} {h : List AB} (hn : n ≤ h.length) (ha : (h.take n).all (AB.blw n) = true) : frzT n h = some (h.take n) := by
 unfold frzT
 rw [if_pos hn]
 exact mapO_id _ (fun x hx => frzB_blw x (List.all_eq_true.1 ha x hx))
theorem frzAs_len {hm : List AB} {n : Nat} : ∀ (xs ys : List AV), frzAs hm n xs = some ys → ys.length = xs.length
 | [], ys, h => by simp only [frzAs, oiq] at h; subst h; rfl
 | x :: xs, ys, h => by
  simp only [frzAs] at h
  split at h
  ·rename_i y ys' h1 h2
   simp only [oiq] at h
   subst h
   simp [frzAs_len xs ys' h2]
  ·cases h
theorem frzAs_app {hm : List AB} {n : Nat} : ∀ (xs xs' ys ys' : List AV), frzAs hm n xs = some xs' → frzAs hm n ys = some ys' → frzAs hm n (xs ++ ys) = some (xs' ++ ys')
 | [], xs', ys, ys', h, k => by simp only [frzAs, oiq] at h; subst h; exact k
 | x :: xs, zs, ys, ys', h, k => by
  simp only [frzAs] at h
  split at h
  ·rename_i y xs' h1 h2
   simp only [oiq] at h
   subst h
   simp only [List.cons_append, frzAs, h1, frzAs_app xs xs' ys ys' h2 k]
  ·cases h
theorem frzAs_flat {hm : List AB} {n : Nat} : ∀ (rows rows' : List (List AV)), mapO (frzAs hm n) rows = some rows' → frzAs hm n rows.flatten = some rows'.flatten
 | [], rows', h => by simp only [mapO, oiq] at h; subst h; rfl
 | r :: rows, rows', h => by
  simp only [mapO] at h
  split at h
  ·rename_i y ys h1 h2
   simp only [oiq] at h
   subst h
   simp only [List.flatten_cons]
   exact frzAs_app _ _ _ _ h1 (frzAs_flat rows ys h2)
  ·cases h
theorem mapO_cons {α β : Type} {f : α → Option β} {x : α} {xs : List α} {ys : List β} (h : mapO f (x :: xs) = some ys) : ∃ y ys', f x = some y ∧ mapO f xs = some ys' ∧ ys = y :: ys' := by
 simp only [mapO] at h
 split at h
 ·rename_i y ys' h1 h2
  simp only [oiq] at h
  exact ⟨y, ys', h1, h2, h.symm⟩
 ·cases h
theorem purS {g : G} {w : World} {S : Nat → Prop} {f : AV → Option PV} (hf : ∀ x v y, f x = some y → VR g w x v → PR S w y v) {c : Nat} : ∀ (xs : List AV) (ys : List PV) (vs : List Value) (off : Nat), mapO f xs = some ys → VRc g w xs vs →
  (∀ j v, vs[j]? = some v → w.cell? ⟨c, off + j, none⟩ = some v) → PRs S w c off ys ∧ ys.length = xs.length
 | [], ys, vs, off, hm, _, _ => by simp only [mapO, oiq] at hm; subst hm; simp [PRs]
 | x :: xs, ys, vs, off, hm, hv, hc => by
  obtain ⟨y, ys', h1, h2, rfl⟩ := mapO_cons hm
  cases vs with
  | nil => exact absurd hv.1 (by simp [VRs])
  | cons v vs =>
   obtain ⟨hv1, hv2⟩ := hv
   simp only [VRs] at hv1
   obtain ⟨k1, k2⟩ := purS hf xs ys' vs (off + 1) h2 ⟨hv1.2, fun u hu => hv2 u (by simp [hu])⟩ (fun j u hj => by
    have := hc (j + 1) u (by simpa using hj)
    rwa [show off + 1 + j = off + (j + 1) from by omega])
   simp only [PRs]
   exact ⟨⟨⟨v, hc 0 v rfl, hv2 v (by simp), hf x v y h1 hv1.1⟩, k1⟩, by simp [k2]⟩
theorem purRows {g : G} {w : World} {S : Nat → Prop} {f : AV → Option PV} (hf : ∀ x v y, f x = some y → VR g w x v → PR S w y v) {c size : Nat} : ∀ (rows : List (List AV)) (ys : List (List PV)) (vs : List Value) (off : Nat), mapO (mapO f) rows = some ys →
  (∀ r ∈ rows, r.length = size) → VRc g w rows.flatten vs → (∀ j v, vs[j]? = some v → w.cell? ⟨c, off + j, none⟩ = some v) → PRr S w c off size ys ∧ ys.length = rows.length
 | [], ys, vs, off, hm, _, _, _ => by simp only [mapO, oiq] at hm; subst hm; simp [PRr]
 | r :: rows, ys, vs, off, hm, hr, hv, hc => by
  obtain ⟨y, ys', h1, h2, rfl⟩ := mapO_cons hm
  have hrl := hr r (by simp)
  have htk : (r :: rows).flatten.take size = r := by rw [List.flatten_cons, ← hrl, List.take_left]
  have hdr : (r :: rows).flatten.drop size = rows.flatten := by rw [List.flatten_cons, ← hrl, List.drop_left]
  have e1 : VRc g w r (vs.take size) := ⟨by have := hv.1.take size; rwa [htk] at this, fun u hu => hv.2 u (List.mem_of_mem_take hu)⟩
  have e2 : VRc g w rows.flatten (vs.drop size) := ⟨by have := hv.1.drop size; rwa [hdr] at this, fun u hu => hv.2 u (List.mem_of_mem_drop hu)⟩
  obtain ⟨k1, k2⟩ := purS hf r y (vs.take size) off h1 e1 (fun j u hj => hc j u (by
   rw [List.getElem?_take] at hj
   split at hj
   ·exact hj
   ·cases hj))
  obtain ⟨l1, l2⟩ := purRows hf rows ys' (vs.drop size) (off + size) h2 (fun q hq => hr q (by simp [hq])) e2 (fun j u hj => by
   rw [List.getElem?_drop] at hj
   have := hc (size + j) u hj
   rwa [show off + size + j = off + (size + j) from by omega])
  simp only [PRr]
  exact ⟨⟨by rw [k2, hrl], k1, l1⟩, by simp [l2]⟩
theorem purP_rel' {g : G} {h hm : List AB} {w : World} (hr : HR g h w) (hsub : ∀ (b : Nat) t s ge rows, hm[b]? = some (AB.row t s ge rows) → h[b]? = some (AB.row t s ge rows)) (hsubF : ∀ (b : Nat) s ge rows, hm[b]? = some (AB.frz s ge rows) → h[b]? = some (AB.frz s ge rows)) {S : Nat → Prop} (hS : ∀ c, g.S c → S c) (hO : ∀ (b : Nat) t s ge rows c, hm[b]? = some (AB.row t s ge rows) → cid g b (AB.row t s ge rows) = some c → S c) : ∀ (n : Nat) (x : AV) (v : Value) (y : PV), purP hm n x = some y → VR g w x v → PR S w y v
 | 0, _, _, _, h, _ => by simp [purP] at h
 | n + 1, x, v, y, hp, hv => by
  cases x with
  | p x =>
   simp only [purP, oiq] at hp
   subst hp
   simp only [VR] at hv
   exact PR_mono hS (fun _ _ => rfl) x v hv
  | sl b gen size off len =>
   simp only [purP] at hp
   simp only [VR] at hv
   obtain ⟨_, _, hsl⟩ := hv
   split at hp
   ·rename_i t s g1 rows hb
    split at hp
    ·rename_i hc
     obtain ⟨rfl, rfl, hle⟩ := hc
     simp only [mei] at hp
     obtain ⟨ys, hm, rfl⟩ := hp
     have hbr := hr.br b _ (hsub _ _ _ _ _ hb)
     simp only [BR] at hbr
     obtain ⟨_, hr1, hrow⟩ := hbr
     have hlen : ((rows.drop off).take len).length = len := by simp; omega
     cases hd : g.hd b g1 with
     | none =>
      rw [hd] at hsl hrow
      obtain ⟨rfl, rfl, rfl⟩ := hsl
      have : ys = [] := by
       simp only [List.take_zero, mapO, oiq] at hm
       exact hm.symm
      subst this
      simp only [PR]
      exact ⟨none, 0, rfl, by simp, by simp, .inl rfl⟩
     | some q =>
      obtain ⟨c, cap⟩ := q
      rw [hd] at hsl hrow
      obtain ⟨k1, k2, A, rfl, hA⟩ := hsl
      simp only [RowR] at hrow
      obtain ⟨cs, fz, m1, _, m3, _, m5, m6⟩ := hrow
      have hr2 : ∀ r ∈ rows.drop off, r.length = s := fun r hr => hr1 r (List.mem_of_mem_drop hr)
      have hvc : VRc g w ((rows.drop off).take len).flatten (((cs.toList.take (rows.length * s)).drop (off * s)).take (len * s)) := by
       rw [flatten_take len hr2, flatten_drop off hr1]
       exact ⟨(m6.1.drop _).take _, fun v hv => m6.2 v (List.mem_of_mem_drop (List.mem_of_mem_take hv))⟩
      have hcell : ∀ j u, (((cs.toList.take (rows.length * s)).drop (off * s)).take (len * s))[j]? = some u → w.cell? ⟨c, off * s + j, none⟩ = some u := by
       intro j u hj
       rw [List.getElem?_take] at hj
       split at hj
       ·rw [List.getElem?_drop, List.getElem?_take] at hj
        split at hj
        ·simp only [World.cell?, m1]
         simpa using hj
        ·cases hj
       ·cases hj
      obtain ⟨n1, n2⟩ := purRows (fun x v y => purP_rel' hr hsub hsubF hS hO n x v y) _ ys _ (off * s) hm (fun r hr => hr2 r (List.mem_of_mem_take hr)) hvc hcell
      rw [hlen] at n2
      simp only [PR]
      refine ⟨A, cap - off, by rw [n2], by omega, by omega, ?_⟩
      rcases Nat.eq_zero_or_pos len with h0 | h0
      ·exact .inl (by omega)
      ·right
       have hA' := hA.resolve_left (by omega)
       refine ⟨c, off * s, hA', ?_, n1⟩
       have hcid : cid g b (.row t s g1 rows) = some c := by simp [cid, hd]
       exact hO _ _ _ _ _ c hb hcid
    ·cases hp
   ·rename_i s g1 rows hb
    split at hp
    ·rename_i hc
     obtain ⟨rfl, rfl, hle⟩ := hc
     simp only [oiq] at hp
     subst hp
     have hbr := hr.br b _ (hsubF _ _ _ _ hb)
     simp only [BR] at hbr
     obtain ⟨_, hrow⟩ := hbr
     have hlen : ((rows.drop off).take len).length = len := by simp; omega
     cases hd : g.hd b g1 with
     | none =>
      rw [hd] at hsl hrow
      obtain ⟨rfl, rfl, rfl⟩ := hsl
      simp only [PR]
      exact ⟨none, 0, by simp, by simp, by simp, .inl (by simp)⟩
     | some q =>
      obtain ⟨c, cap⟩ := q
      rw [hd] at hsl hrow
      obtain ⟨k1, k2, A, rfl, hA⟩ := hsl
      simp only [FrzR] at hrow
      obtain ⟨m1, m2, m3, m4⟩ := hrow
      simp only [PR]
      refine ⟨A, cap - off, by rw [hlen], by omega, by omega, ?_⟩
      rcases Nat.eq_zero_or_pos len with h0 | h0
      ·exact .inl (by omega)
      ·right
       have hA' := hA.resolve_left (by omega)
       refine ⟨c, off * s, hA', hS _ m1, ?_⟩
       have := PRr_take (n := len) (PRr_drop (n := off) m4)
       rw [Nat.zero_add] at this
       exact PRr_mono hS (fun _ _ => rfl) c m1 _ s _ this
    ·cases hp
   ·cases hp
  | _ => simp [purP] at hp
theorem purP_rel {g : G} {h : List AB} {w : World} (hr : HR g h w) {S : Nat → Prop} (hS : ∀ c, g.S c → S c) (hO : ∀ c, c < w.heap.size → ¬ g.Pr c → S c) (n : Nat) (x : AV) (v : Value) (y : PV) (hp : purP h n x = some y) (hv : VR g w x v) : PR S w y v :=
 purP_rel' hr (fun _ _ _ _ _ hb => hb) (fun _ _ _ _ hb => hb) hS (fun _ _ _ _ _ c hb hc => hO c (cid_lt hr hb hc) (hr.own _ _ c hb hc)) n x v y hp hv
theorem mask_row {n : Nat} {h : List AB} {b : Nat} {x : AB} (hb : (mask n h)[b]? = some x) (hx : x ≠ .hole) : n ≤ b ∧ h[b]? = some x := by
 unfold mask at hb
 rw [List.getElem?_append] at hb
 split at hb
 ·rw [List.getElem?_replicate] at hb
  split at hb
  ·exact absurd (Option.some.inj hb).symm hx
  ·cases hb
 ·rename_i hlt
  rw [List.length_replicate] at hlt hb
  rw [List.getElem?_drop, show n + (b - n) = b by omega] at hb
  exact ⟨by omega, hb⟩
section
variable {g : G} {h : List AB} {w : World} {n : Nat}
theorem cutF_ext (hr : HR g h w) : Ext (g.cut n) w (g.cutF n h) w :=
 ⟨fun _ hc => .inl hc, fun _ hc => .inl hc, fun _ _ => rfl, Nat.le_refl _, fun _ hb => hb, fun _ _ => rfl, fun _ _ => Nat.le_refl _, fun _ _ _ _ => rfl, Nat.le_refl _, rfl, rfl, rfl,
   fun c hc => hc.imp_right (fun ⟨b, x, _, h2, h3⟩ => hr.own b x c h2 h3), rfl, fun _ => Nat.le_refl _⟩
mutual
theorem frzA_rel (hr : HR g h w) : ∀ (x : AV) (v : Value) (y : AV), frzA (mask n h) n x = some y → VR g w x v → VR (g.cutF n h) w y v
 | .p x, v, y, hf, hv => by
  simp only [frzA, oiq] at hf; subst hf
  simp only [VR] at hv ⊢
  exact PR_mono (fun _ hc => .inl hc) (fun _ _ => rfl) x v hv
 | .ro xs, v, y, hf, hv => by
  simp only [frzA, oiq] at hf; subst hf
  simp only [VR] at hv ⊢
  obtain ⟨b, off, rfl, hb, hx⟩ := hv
  exact ⟨b, off, rfl, .inl hb, PRs_mono (fun _ hc => .inl hc) (fun _ _ => rfl) b hb off xs hx⟩
 | .und, v, y, hf, hv => by simp only [frzA, oiq] at hf; subst hf; simp [VR]
 | .anyp, v, y, hf, hv => by simp only [frzA, oiq] at hf; subst hf; simpa only [VR] using hv
 | .anye, v, y, hf, hv => by simp only [frzA, oiq] at hf; subst hf; simpa only [VR] using hv
 | .agg xs, v, y, hf, hv => by
  simp only [frzA, mei] at hf
  obtain ⟨ys, hm, rfl⟩ := hf
  simp only [VR] at hv ⊢
  obtain ⟨cs, rfl, hv⟩ := hv
  exact ⟨cs, rfl, frzAs_rel hr xs _ ys hm hv⟩
 | .tup xs, v, y, hf, hv => by
  simp only [frzA, mei] at hf
  obtain ⟨ys, hm, rfl⟩ := hf
  simp only [VR] at hv ⊢
  obtain ⟨cs, rfl, hv⟩ := hv
  exact ⟨cs, rfl, frzAs_rel hr xs _ ys hm hv⟩
 | .fn f xs, v, y, hf, hv => by
  simp only [frzA, mei] at hf
  obtain ⟨ys, hm, rfl⟩ := hf
  simp only [VR] at hv ⊢
  obtain ⟨cs, rfl, hv⟩ := hv
  exact ⟨cs, rfl, frzAs_rel hr xs _ ys hm hv⟩
 | .ptr b o, v, y, hf, hv => by
  simp only [frzA] at hf
  split at hf
  ·rename_i hb
   simp only [oiq] at hf; subst hf
   simp only [VR] at hv ⊢
   exact ⟨G.cutF_D hb hv.1, hv.2⟩
  ·cases hf
 | .rp b ge s k o, v, y, hf, hv => by
  simp only [frzA] at hf
  split at hf
  ·rename_i hb
   simp only [oiq] at hf; subst hf
   simp only [VR] at hv ⊢
   exact ⟨G.cutF_D hb hv.1, hv.2⟩
  ·cases hf
 | .sl b ge s o l, v, y, hf, hv => by
  simp only [frzA] at hf
  split at hf
  ·rename_i hb
   simp only [oiq] at hf; subst hf
   simp only [VR] at hv ⊢
   exact ⟨G.cutF_D hb hv.1, hv.2⟩
  ·simp only [mei] at hf
   obtain ⟨z, hz, rfl⟩ := hf
   have := purP_rel' hr (hm := mask n h) (S := (g.cutF n h).S) (fun b t s ge rows hb => (mask_row hb (by simp)).2) (fun b s ge rows hb => (mask_row hb (by simp)).2) (fun c hc => .inl hc) (fun b t s ge rows c hb hc => .inr ⟨b, _, (mask_row hb (by simp)).1, (mask_row hb (by simp)).2, hc⟩) 50 _ v z hz hv
   simpa only [VR] using this
 | .mp b, v, y, hf, hv => by
  simp only [frzA] at hf
  split at hf
  ·rename_i hb
   simp only [oiq] at hf; subst hf
   simp only [VR] at hv ⊢
   exact ⟨G.cutF_D hb hv.1, hv.2⟩
  ·cases hf
 | .yl b, v, y, hf, hv => by
  simp only [frzA] at hf
  split at hf
  ·rename_i hb
   simp only [oiq] at hf; subst hf
   simp only [VR] at hv ⊢
   exact ⟨G.cutF_D hb hv.1, hv.2⟩
  ·cases hf
theorem frzAs_rel (hr : HR g h w) : ∀ (xs : List AV) (vs : List Value) (ys : List AV), frzAs (mask n h) n xs = some ys → VRs g w xs vs → VRs (g.cutF n h) w ys vs
 | [], vs, ys, hf, hv => by
  simp only [frzAs, oiq] at hf; subst hf
  cases vs with
  | nil => simp [VRs]
  | cons _ _ => simp [VRs] at hv
 | x :: xs, vs, ys, hf, hv => by
  simp only [frzAs] at hf
  split at hf
  ·rename_i y ys' h1 h2
   simp only [oiq] at hf; subst hf
   cases vs with
   | nil => simp [VRs] at hv
   | cons v vs =>
    simp only [VRs] at hv ⊢
    exact ⟨frzA_rel hr x v y h1 hv.1, frzAs_rel hr xs vs ys' h2 hv.2⟩
  ·cases hf
end
end
def maskB (B : List Nat) : Nat → List AB → List AB
 | _, [] => []
 | i, x :: xs => (match B.any (Nat.beq i) with | true => x | false => .hole) :: maskB B (i + 1) xs
def frzR (hm : List AB) : AB → Option AB
 | .row _ s g rows => (mapO (mapO (purP hm 50)) rows).map (.frz s g)
 | .frz s g rows => some (.frz s g rows)
 | _ => none
def selG (hm : List AB) (B : List Nat) : Nat → List AB → Option (List AB)
 | _, [] => some []
 | i, x :: xs => match B.any (Nat.beq i) with
  | true => match frzR hm x, selG hm B (i + 1) xs with
   | some y, some ys => some (y :: ys)
   | _, _ => none
  | false => match selG hm B (i + 1) xs with
   | some ys => some (x :: ys)
   | none => none
def selF (B : List Nat) (h : List AB) : Option (List AB) := selG (maskB B 0 h) B 0 h
mutual
def purZ (h : List AB) : AV → Option AV
 | .p x => some (.p x)
 | .ro xs => some (.ro xs)
 | .agg xs => (purZs h xs).map .agg
 | .tup xs => (purZs h xs).map .tup
 | .fn f xs => (purZs h xs).map (.fn f)
 | .sl b gen size off len => match h[b]? with
  | some (.frz s g rows) => if g = gen ∧ s = size ∧ off + len ≤ rows.length then some (.p (.lst size ((rows.drop off).take len))) else none
  | _ => none
 | _ => none
def purZs (h : List AB) : List AV → Option (List AV)
 | [] => some []
 | x :: xs => match purZ h x, purZs h xs with
  | some y, some ys => some (y :: ys)
  | _, _ => none
end
theorem maskB_get {B : List Nat} : ∀ (h : List AB) (i b : Nat) (x : AB), (maskB B i h)[b]? = some x → x ≠ .hole → B.any (Nat.beq (i + b)) = true ∧ h[b]? = some x
 | [], _, _, _, h, _ => by simp [maskB] at h
 | y :: ys, i, 0, x, h, hx => by
  simp only [maskB, List.getElem?_cons_zero, oiq] at h
  cases hB : B.any (Nat.beq i) with
  | true => rw [hB] at h; simp only at h; exact ⟨by simp [hB], by simp [h]⟩
  | false => rw [hB] at h; exact absurd h.symm hx
 | y :: ys, i, b + 1, x, h, hx => by
  simp only [maskB, List.getElem?_cons_succ] at h
  have := maskB_get ys (i + 1) b x h hx
  rw [show i + 1 + b = i + (b + 1) by omega] at this
  exact ⟨this.1, by simpa using this.2⟩
theorem selG_get {hm : List AB} {B : List Nat} : ∀ (h h1 : List AB) (i : Nat), selG hm B i h = some h1 → h1.length = h.length ∧ ∀ (b : Nat) (y : AB), h1[b]? = some y → ∃ x, h[b]? = some x ∧ match B.any (Nat.beq (i + b)) with | true => frzR hm x = some y | false => y = x
 | [], h1, i, h => by simp only [selG, oiq] at h; subst h; simp
 | x :: xs, h1, i, h => by
  simp only [selG] at h
  have step : ∀ (z : AB) (zs : List AB), h1 = z :: zs → selG hm B (i + 1) xs = some zs → (match B.any (Nat.beq i) with | true => frzR hm x = some z | false => z = x) → h1.length = (x :: xs).length ∧ ∀ (b : Nat) (y : AB), h1[b]? = some y → ∃ w, (x :: xs)[b]? = some w ∧ match B.any (Nat.beq (i + b)) with | true => frzR hm w = some y | false => y = w := by
   intro z zs e k1 k2
   subst e
   obtain ⟨l1, l2⟩ := selG_get xs zs (i + 1) k1
   refine ⟨by simp [l1], fun b y hy => ?_⟩
   cases b with
   | zero => simp at hy; subst hy; exact ⟨x, rfl, k2⟩
   | succ b =>
    obtain ⟨w, w1, w2⟩ := l2 b y (by simpa using hy)
    rw [show i + 1 + b = i + (b + 1) by omega] at w2
    exact ⟨w, by simpa using w1, w2⟩
  split at h
  ·rename_i hB
   split at h
   ·rename_i y ys h2 h3
    simp only [oiq] at h
    exact step y ys h.symm h3 (by rw [hB]; exact h2)
   ·cases h
  ·rename_i hB
   split at h
   ·rename_i ys h3
    simp only [oiq] at h
    exact step x ys h.symm h3 (by rw [hB])
   ·cases h
def SelC (g : G) (h : List AB) (B : List Nat) (c : Nat) : Prop := ∃ b x, B.any (Nat.beq b) = true ∧ h[b]? = some x ∧ cid g b x = some c
def G.frzG (g : G) (h : List AB) (B : List Nat) : G := { g with S := fun c => g.S c ∨ SelC g h B c, Pr := fun c => g.Pr c ∨ SelC g h B c }
theorem frz_ext {g : G} {h : List AB} {w : World} (hr : HR g h w) (B : List Nat) : Ext g w (g.frzG h B) w :=
 ⟨fun _ hc => .inl hc, fun _ hc => .inl hc, fun _ _ => rfl, Nat.le_refl _, fun _ hb => hb, fun _ _ => rfl, fun _ _ => Nat.le_refl _, fun _ _ _ _ => rfl, Nat.le_refl _, rfl, rfl, rfl,
   fun c hc => hc.imp_right (fun ⟨b, x, _, h2, h3⟩ => hr.own b x c h2 h3), rfl, fun _ => Nat.le_refl _⟩
theorem frzR_sound {g : G} {h : List AB} {w : World} (hr : HR g h w) {B : List Nat} {b : Nat} {x y : AB} (hb : h[b]? = some x) (hB : B.any (Nat.beq b) = true) (hf : frzR (maskB B 0 h) x = some y) : BR (g.frzG h B) w b y ∧ cid (g.frzG h B) b y = none ∧ y ≠ .hole ∧ x ≠ .hole := by
 have hbr := hr.br b x hb
 cases x with
 | row t s gen rows =>
  simp only [frzR, mei] at hf
  obtain ⟨ys, hm, rfl⟩ := hf
  refine ⟨?_, rfl, by simp, by simp⟩
  simp only [BR] at hbr ⊢
  obtain ⟨h1, h2, h3⟩ := hbr
  refine ⟨h1, ?_⟩
  show FrzR (g.frzG h B).S w s ys (g.hd b gen)
  have hO : ∀ (b' : Nat) t s ge rows c, (maskB B 0 h)[b']? = some (AB.row t s ge rows) → cid g b' (AB.row t s ge rows) = some c → (g.frzG h B).S c := fun b' t s ge rows c q1 q2 => by
   obtain ⟨k1, k2⟩ := maskB_get h 0 b' _ q1 (by simp)
   exact .inr ⟨b', _, by simpa using k1, k2, q2⟩
  cases hd : g.hd b gen with
  | none =>
   rw [hd] at h3
   simp only [RowR] at h3
   subst h3
   simp only [mapO, oiq] at hm
   subst hm
   rfl
  | some q =>
   obtain ⟨c, cap⟩ := q
   rw [hd] at h3
   simp only [RowR] at h3
   obtain ⟨cs, fz, m1, _, m3, m4, m5, m6⟩ := h3
   have hcell : ∀ j u, (cs.toList.take (rows.length * s))[j]? = some u → w.cell? ⟨c, 0 + j, none⟩ = some u := by
    intro j u hj
    rw [List.getElem?_take] at hj
    split at hj
    ·simp only [World.cell?, m1]
     simpa using hj
    ·cases hj
   obtain ⟨n1, n2⟩ := purRows (S := (g.frzG h B).S) (fun x v y => purP_rel' hr (hm := maskB B 0 h) (fun b t s ge rows q => (maskB_get h 0 b _ q (by simp)).2) (fun b s ge rows q => (maskB_get h 0 b _ q (by simp)).2) (fun c hc => .inl hc) hO 50 x v y) rows ys _ 0 hm h2 m6 hcell
   exact ⟨.inr ⟨b, _, hB, hb, by simp [cid, hd]⟩, by omega, m4, n1⟩
 | frz s gen rows =>
  simp only [frzR, oiq] at hf
  subst hf
  refine ⟨?_, rfl, by simp, by simp⟩
  simp only [BR] at hbr ⊢
  exact ⟨hbr.1, FrzR_mono (fun c hc => .inl hc) (fun _ _ => rfl) hbr.2⟩
 | _ => simp [frzR] at hf
theorem frz_sound {g : G} {h h1 : List AB} {w : World} (hr : HR g h w) {B : List Nat} (hf : selF B h = some h1) : HR (g.frzG h B) h1 w := by
 obtain ⟨hl, hg⟩ := selG_get h h1 0 hf
 have he := frz_ext hr B
 have hget : ∀ (b : Nat) (y : AB), h1[b]? = some y → ∃ x, h[b]? = some x ∧ ((B.any (Nat.beq b) = true ∧ frzR (maskB B 0 h) x = some y) ∨ (B.any (Nat.beq b) = false ∧ y = x)) := by
  intro b y hy
  obtain ⟨x, k1, k2⟩ := hg b y hy
  rw [Nat.zero_add] at k2
  refine ⟨x, k1, ?_⟩
  split at k2
  ·rename_i e; exact .inl ⟨e, k2⟩
  ·rename_i e; exact .inr ⟨e, k2⟩
 have hcid : ∀ b x, cid (g.frzG h B) b x = cid g b x := fun b x => by cases x <;> rfl
 refine ⟨by rw [hl]; exact hr.n, ?_, ?_, ?_, ?_, ?_, ?_⟩
 ·intro b y hy
  obtain ⟨x, k1, ⟨k2, k3⟩ | ⟨k2, rfl⟩⟩ := hget b y hy
  ·exact (frzR_sound hr k1 k2 k3).1
  ·exact BR_mono hr he k1 rfl (fun _ _ => rfl)
 ·intro b b' y y' c hy hy' hc hc'
  obtain ⟨x, k1, ⟨k2, k3⟩ | ⟨k2, rfl⟩⟩ := hget b y hy
  ·rw [(frzR_sound hr k1 k2 k3).2.1] at hc; cases hc
  ·obtain ⟨x', l1, ⟨l2, l3⟩ | ⟨l2, rfl⟩⟩ := hget b' y' hy'
   ·rw [(frzR_sound hr l1 l2 l3).2.1] at hc'; cases hc'
   ·rw [hcid] at hc hc'
    exact hr.dis b b' _ _ c k1 l1 hc hc'
 ·intro b y c hy hc
  obtain ⟨x, k1, ⟨k2, k3⟩ | ⟨k2, rfl⟩⟩ := hget b y hy
  ·rw [(frzR_sound hr k1 k2 k3).2.1] at hc; cases hc
  ·rw [hcid] at hc
   rintro (q | ⟨b', x', q1, q2, q3⟩)
   ·exact hr.own b _ c k1 hc q
   ·have := hr.dis b b' _ x' c k1 q2 hc q3
    subst this
    rw [k2] at q1; cases q1
 ·rintro c (q | q)
  ·exact .inl (hr.spr c q)
  ·exact .inr q
 ·rintro c (q | ⟨b', x', q1, q2, q3⟩)
  ·exact hr.prs c q
  ·exact cid_lt hr q2 q3
 ·intro b
  constructor
  ·intro q
   have hb := (hr.ho b).1 q
   have hlt := (gei.1 hb).1
   have hy : h1[b]? = some (h1[b]'(by omega)) := List.getElem?_eq_getElem _
   obtain ⟨x, k1, ⟨k2, k3⟩ | ⟨k2, e⟩⟩ := hget b _ hy
   ·rw [hb] at k1
    exact absurd (Option.some.inj k1).symm (frzR_sound hr (by rw [hb]; exact k1) k2 k3).2.2.2
   ·rw [hb] at k1
    rw [hy, e, Option.some.inj k1]
  ·intro q
   obtain ⟨x, k1, ⟨k2, k3⟩ | ⟨k2, e⟩⟩ := hget b _ q
   ·exact absurd rfl (frzR_sound hr k1 k2 k3).2.2.1
   ·exact (hr.ho b).2 (by rw [k1, e])
mutual
theorem purZ_rel {g : G} {h : List AB} {w : World} (hr : HR g h w) : ∀ (x : AV) (v : Value) (y : AV), purZ h x = some y → VR g w x v → VR g w y v
 | .p x, v, y, hf, hv => by simp only [purZ, oiq] at hf; subst hf; exact hv
 | .ro x, v, y, hf, hv => by simp only [purZ, oiq] at hf; subst hf; exact hv
 | .agg xs, v, y, hf, hv => by
  simp only [purZ, mei] at hf
  obtain ⟨ys, hm, rfl⟩ := hf
  simp only [VR] at hv ⊢
  obtain ⟨cs, rfl, hv⟩ := hv
  exact ⟨cs, rfl, purZs_rel hr xs _ ys hm hv⟩
 | .tup xs, v, y, hf, hv => by
  simp only [purZ, mei] at hf
  obtain ⟨ys, hm, rfl⟩ := hf
  simp only [VR] at hv ⊢
  obtain ⟨cs, rfl, hv⟩ := hv
  exact ⟨cs, rfl, purZs_rel hr xs _ ys hm hv⟩
 | .fn f xs, v, y, hf, hv => by
  simp only [purZ, mei] at hf
  obtain ⟨ys, hm, rfl⟩ := hf
  simp only [VR] at hv ⊢
  obtain ⟨cs, rfl, hv⟩ := hv
  exact ⟨cs, rfl, purZs_rel hr xs _ ys hm hv⟩
 | .sl b gen size off len, v, y, hf, hv => by
  have hp : ∃ z, purP h 50 (.sl b gen size off len) = some z ∧ y = .p z ∧ ∃ s ge rows, h[b]? = some (.frz s ge rows) := by
   simp only [purZ] at hf
   split at hf
   ·rename_i s ge rows hb
    split at hf
    ·rename_i hc
     simp only [oiq] at hf
     exact ⟨_, by simp only [purP, hb]; rw [if_pos hc], hf.symm, s, ge, rows, hb⟩
    ·cases hf
   ·cases hf
  obtain ⟨z, h1, rfl, s, ge, rows, hb⟩ := hp
  have hbr := hr.br b _ hb
  simp only [BR] at hbr
  simp only [VR] at hv ⊢
  have : purP [] 50 (.sl b gen size off len) = none := by simp [purP]
  have hq : purP (maskB [b] 0 h) 50 (.sl b gen size off len) = some z := by
   have hm : (maskB [b] 0 h)[b]? = some (.frz s ge rows) := by
    have : ∀ (l : List AB) (i k : Nat) (x : AB), l[k]? = some x → i + k = b → (maskB [b] i l)[k]? = some x := by
     intro l
     induction l with
     | nil => intro i k x hx; simp at hx
     | cons y ys ih =>
      intro i k x hx e
      cases k with
      | zero =>
       simp at hx; subst hx
       have : [b].any (Nat.beq i) = true := by simp [Nat.beq_eq]; omega
       simp only [maskB, this, List.getElem?_cons_zero]
      | succ k =>
       simp only [maskB, List.getElem?_cons_succ]
       exact ih (i + 1) k x (by simpa using hx) (by omega)
    exact this h 0 b _ hb (by omega)
   simp only [purP, hb] at h1
   simp only [purP, hm]
   exact h1
  refine purP_rel' hr (hm := maskB [b] 0 h) (fun b t s ge rows q => (maskB_get h 0 b _ q (by simp)).2) (fun b s ge rows q => (maskB_get h 0 b _ q (by simp)).2) (fun c hc => hc) (fun b' t s ge rows c q1 q2 => ?_) 50 _ v z hq (by simpa only [VR] using hv)
  obtain ⟨k1, k2⟩ := maskB_get h 0 b' _ q1 (by simp)
  have : b = b' := by simp [Nat.beq_eq] at k1; omega
  subst this
  rw [hb] at k2; cases k2
 | .ptr .., v, y, hf, hv => by simp [purZ] at hf
 | .rp .., v, y, hf, hv => by simp [purZ] at hf
 | .mp .., v, y, hf, hv => by simp [purZ] at hf
 | .yl .., v, y, hf, hv => by simp [purZ] at hf
 | .anyp, v, y, hf, hv => by simp [purZ] at hf
 | .anye, v, y, hf, hv => by simp [purZ] at hf
 | .und, v, y, hf, hv => by simp [purZ] at hf
theorem purZs_rel {g : G} {h : List AB} {w : World} (hr : HR g h w) : ∀ (xs : List AV) (vs : List Value) (ys : List AV), purZs h xs = some ys → VRs g w xs vs → VRs g w ys vs
 | [], vs, ys, hf, hv => by simp only [purZs, oiq] at hf; subst hf; exact hv
 | x :: xs, vs, ys, hf, hv => by
  simp only [purZs] at hf
  split at hf
  ·rename_i y ys' h1 h2
   simp only [oiq] at hf; subst hf
   cases vs with
   | nil => simp [VRs] at hv
   | cons v vs =>
    simp only [VRs] at hv ⊢
    exact ⟨purZ_rel hr x v y h1 hv.1, purZs_rel hr xs vs ys' h2 hv.2⟩
  ·cases hf
end
mutual
def AV.rows : AV → List Nat
 | .agg xs => rowss xs
 | .tup xs => rowss xs
 | .fn _ xs => rowss xs
 | .sl b _ _ _ _ => [b]
 | _ => []
def rowss : List AV → List Nat
 | [] => []
 | x :: xs => x.rows ++ rowss xs
end
mutual
def nilP (k : Nat) : PV → PV
 | .val (.slice none 0 0) => .lst k []
 | .val v => .val v
 | .lst s rows => .lst s (nilPr k rows)
 | .lsx s rows m => .lsx s rows m
def nilPs (k : Nat) : List PV → List PV
 | [] => []
 | x :: xs => nilP k x :: nilPs k xs
def nilPr (k : Nat) : List (List PV) → List (List PV)
 | [] => []
 | r :: rs => nilPs k r :: nilPr k rs
end
theorem nilPs_len {k : Nat} : ∀ (xs : List PV), (nilPs k xs).length = xs.length
 | [] => rfl
 | x :: xs => by simp only [nilPs, List.length_cons, nilPs_len xs]
theorem nilPr_len {k : Nat} : ∀ (xs : List (List PV)), (nilPr k xs).length = xs.length
 | [] => rfl
 | x :: xs => by simp only [nilPr, List.length_cons, nilPr_len xs]
mutual
theorem nilP_rel {S : Nat → Prop} {w : World} {k : Nat} : ∀ (x : PV) (v : Value), PR S w x v → PR S w (nilP k x) v
 | .val x, v, h => by
  unfold nilP
  split
  ·rename_i e
   simp only [PV.val.injEq] at e
   subst e
   simp only [PR] at h ⊢
   subst h
   exact ⟨none, 0, rfl, Nat.le_refl _, Nat.zero_le _, .inl rfl⟩
  ·rename_i e
   simp only [PV.val.injEq] at e
   subst e; exact h
  ·rename_i e; cases e
  ·rename_i e; cases e
 | .lst s rows, v, h => by
  unfold nilP
  simp only [PR] at h ⊢
  obtain ⟨A, cap, h1, h2, h3, h4⟩ := h
  rw [nilPr_len]
  refine ⟨A, cap, h1, h2, h3, h4.imp_right fun ⟨b, off, m1, m2, m3⟩ => ⟨b, off, m1, m2, nilPr_rel rows b off s m3⟩⟩
 | .lsx s rows m, v, h => by unfold nilP; exact h
theorem nilPs_rel {S : Nat → Prop} {w : World} {k : Nat} : ∀ (xs : List PV) (b off : Nat), PRs S w b off xs → PRs S w b off (nilPs k xs)
 | [], _, _, h => by simp only [nilPs]; exact h
 | x :: xs, b, off, h => by
  simp only [PRs, nilPs] at h ⊢
  obtain ⟨⟨u, h1, h2, h3⟩, h4⟩ := h
  exact ⟨⟨u, h1, h2, nilP_rel x u h3⟩, nilPs_rel xs b (off + 1) h4⟩
theorem nilPr_rel {S : Nat → Prop} {w : World} {k : Nat} : ∀ (rows : List (List PV)) (b off size : Nat), PRr S w b off size rows → PRr S w b off size (nilPr k rows)
 | [], _, _, _, h => by simp only [nilPr]; exact h
 | r :: rs, b, off, size, h => by
  simp only [PRr, nilPr] at h ⊢
  exact ⟨by rw [nilPs_len]; exact h.1, nilPs_rel r b off h.2.1, nilPr_rel rs b (off + size) size h.2.2⟩
end
def nilA (k : Nat) : AV → AV
 | .p x => .p (nilP k x)
 | x => x
theorem nilA_rel {g : G} {w : World} {k : Nat} {x : AV} {v : Value} (h : VR g w x v) : VR g w (nilA k x) v := by
 cases x <;> try exact h
 simp only [nilA, VR] at h ⊢
 exact nilP_rel _ v h
def frzL (h : List AB) : List AV → List AV
 | [] => []
 | x :: xs => (purZ h x).getD x :: frzL h xs
theorem frzL_rel {g : G} {h : List AB} {w : World} (hr : HR g h w) : ∀ (xs : List AV) (vs : List Value), VRs g w xs vs → VRs g w (frzL h xs) vs
 | [], [], _ => by simp [frzL, VRs]
 | x :: xs, v :: vs, hv => by
  simp only [VRs] at hv
  simp only [frzL, VRs]
  refine ⟨?_, frzL_rel hr xs vs hv.2⟩
  cases hz : purZ h x with
  | none => exact hv.1
  | some y => exact purZ_rel hr x v y hz hv.1
 | [], _ :: _, h => by simp [VRs] at h
 | _ :: _, [], h => by simp [VRs] at h
def frzF (h : List AB) (sl : List Nat) : Nat → List AV → List AV
 | _, [] => []
 | i, x :: xs => (match sl.any (Nat.beq i) with | true => (purZ h x).getD x | false => x) :: frzF h sl (i + 1) xs
theorem frzF_rel {g : G} {h : List AB} {w : World} (hr : HR g h w) {sl : List Nat} : ∀ (i : Nat) (xs : List AV) (vs : List Value), VRs g w xs vs → VRs g w (frzF h sl i xs) vs
 | _, [], [], _ => by simp [frzF, VRs]
 | i, x :: xs, v :: vs, hv => by
  simp only [VRs] at hv
  simp only [frzF, VRs]
  refine ⟨?_, frzF_rel hr (i + 1) xs vs hv.2⟩
  split
  ·cases hz : purZ h x with
   | none => exact hv.1
   | some y => exact purZ_rel hr x v y hz hv.1
  ·exact hv.1
 | _, [], _ :: _, h => by simp [VRs] at h
 | _, _ :: _, [], h => by simp [VRs] at h
def frzC : List Nat → List AB → List AB
 | [], h => h
 | b :: l, h => frzC l (match h[b]? with | some (.cells t xs) => h.set b (.cells t (frzL h xs)) | _ => h)
def setA : List AV → Nat → (AV → AV) → List AV
 | [], _, _ => []
 | x :: xs, 0, f => f x :: xs
 | x :: xs, i + 1, f => x :: setA xs i f
def ptrB : AV → List Nat
 | .ptr b _ => [b]
 | _ => []
def nilC (f : List AV) : List (Nat × Nat × Nat) → List AB → List AB
 | [], h => h
 | (s, i, k) :: l, h => nilC f l (match getT f s with
  | .ptr b _ => match h[b]? with
   | some (.cells t xs) => h.set b (.cells t (setA xs i (nilA k)))
   | _ => h
  | _ => h)
theorem recell {g : G} {h : List AB} {w : World} (hr : HR g h w) {b : Nat} {t : TypeId} {xs ys : List AV} (hb : h[b]? = some (.cells t xs)) (hv : ∀ vs, VRs g w xs vs → VRs g w ys vs) : HR g (h.set b (.cells t ys)) w := by
 have hbr := hr.br b _ hb
 simp only [BR] at hbr
 obtain ⟨cs, fz, k1, k2, k3⟩ := hbr
 refine HR.upd hr hb (Ext.refl g w) rfl rfl rfl (fun _ _ => rfl) (fun _ _ _ => rfl) ?_ (fun c hc => .inl hc)
 simp only [BR]
 exact ⟨cs, fz, k1, k2, hv _ k3.1, k3.2⟩
theorem frzC_sound {g : G} {w : World} : ∀ (l : List Nat) (h : List AB), HR g h w → HR g (frzC l h) w
 | [], _, hr => hr
 | b :: l, h, hr => by
  simp only [frzC]
  refine frzC_sound l _ ?_
  split
  ·rename_i hb; exact recell hr hb (fun vs => frzL_rel hr _ vs)
  ·exact hr
theorem setA_rel {g : G} {w : World} {f : AV → AV} (hf : ∀ x v, VR g w x v → VR g w (f x) v) : ∀ (i : Nat) (xs : List AV) (vs : List Value), VRs g w xs vs → VRs g w (setA xs i f) vs
 | _, [], _, h => by simp only [setA]; exact h
 | 0, x :: xs, vs, h => by
  cases vs with
  | nil => simp [VRs] at h
  | cons v vs => simp only [VRs, setA] at h ⊢; exact ⟨hf _ _ h.1, h.2⟩
 | i + 1, x :: xs, vs, h => by
  cases vs with
  | nil => simp [VRs] at h
  | cons v vs => simp only [VRs, setA] at h ⊢; exact ⟨h.1, setA_rel hf i xs vs h.2⟩
theorem nilC_sound {g : G} {w : World} {f : List AV} : ∀ (l : List (Nat × Nat × Nat)) (h : List AB), HR g h w → HR g (nilC f l h) w
 | [], _, hr => hr
 | (s, i, k) :: l, h, hr => by
  simp only [nilC]
  refine nilC_sound l _ ?_
  split
  ·split
   ·rename_i hb; exact recell hr hb (fun vs => setA_rel (fun _ _ => nilA_rel) i _ vs)
   ·exact hr
  ·exact hr
def cellB (h : List AB) (b : Nat) : List Nat := match h[b]? with | some (.cells _ xs) => rowss xs | _ => []
def growC (f : List AV) : List (Nat × Nat × Nat × Nat) → List AB → List AB
 | [], h => h
 | (s, i, t, k) :: l, h => growC f l (match getT f s with
  | .ptr b _ => match h[b]? with
   | some (.cells t' xs) => match xs[i]? with
    | some (.p (.val (.slice none 0 0))) => (h ++ [AB.row t k 0 []]).set b (.cells t' (setA xs i fun _ => .sl h.length 0 k 0 0))
    | _ => h
   | _ => h
  | _ => h)
theorem setA_at {g : G} {w : World} {y : AV} : ∀ (i : Nat) (xs : List AV) (vs : List Value) (x : AV), xs[i]? = some x → (∀ v, VR g w x v → VR g w y v) → VRs g w xs vs → VRs g w (setA xs i fun _ => y) vs
 | _, [], _, _, hx, _, _ => by simp at hx
 | 0, z :: xs, vs, x, hx, hf, h => by
  cases vs with
  | nil => simp [VRs] at h
  | cons v vs =>
   simp only [List.getElem?_cons_zero, oiq] at hx
   subst hx
   simp only [VRs, setA] at h ⊢; exact ⟨hf _ h.1, h.2⟩
 | i + 1, z :: xs, vs, x, hx, hf, h => by
  cases vs with
  | nil => simp [VRs] at h
  | cons v vs => simp only [VRs, setA] at h ⊢; exact ⟨h.1, setA_at i xs vs x (by simpa using hx) hf h.2⟩
theorem growC_sound {w : World} {f : List AV} : ∀ (l : List (Nat × Nat × Nat × Nat)) (g : G) (h : List AB), HR g h w → ∃ g', HR g' (growC f l h) w ∧ Ext g w g' w
 | [], g, h, hr => ⟨g, hr, Ext.refl g w⟩
 | (s, i, t, k) :: l, g, h, hr => by
  simp only [growC]
  split
  ·rename_i b o hf
   split
   ·rename_i t' xs hb
    split
    ·rename_i hx
     obtain ⟨h1, h2, h3⟩ := push_nil hr t k
     have hlt : b < h.length := (gei.1 hb).1
     have hb' : (h ++ [AB.row t k 0 []])[b]? = some (.cells t' xs) := by rw [List.getElem?_append_left hlt]; exact hb
     obtain ⟨g', q1, q2⟩ := growC_sound l _ _ (recell h2 hb' (fun vs => setA_at i xs vs _ hx (fun v hv => by
      simp only [VR, PR] at hv
      subst hv
      exact h3)))
     exact ⟨g', q1, h1.trans q2⟩
    ·exact growC_sound l g h hr
   ·exact growC_sound l g h hr
  ·exact growC_sound l g h hr
def gMov (g : G) (b gen : Nat) (o : Option (Nat × Nat)) : G := { g with gen := fun x => if x = b then gen + 1 else g.gen x, hd := fun x k => if x = b ∧ k = gen + 1 then o else g.hd x k }
theorem mov_sound {g : G} {h : List AB} {w : World} (hr : HR g h w) {b b' : Nat} {t t' : TypeId} {s s' gen gen' : Nat} {rows rows' : List (List AV)} (hb : h[b]? = some (.row t s gen rows)) (hb' : h[b']? = some (.row t' s' gen' rows')) (hne : b ≠ b') :
  Ext g w (gMov g b gen (g.hd b' gen')) w ∧ HR (gMov g b gen (g.hd b' gen')) ((h.set b (.row t' s' (gen + 1) rows')).set b' .dead) w ∧
   ∀ size off len v, VR g w (.sl b' gen' size off len) v → VR (gMov g b gen (g.hd b' gen')) w (.sl b (gen + 1) size off len) v := by
 have hbr := hr.br b _ hb
 have hbr' := hr.br b' _ hb'
 simp only [BR] at hbr hbr'
 have hlt : b < h.length := (gei.1 hb).1
 have hlt' : b' < h.length := (gei.1 hb').1
 obtain ⟨g2, hg2⟩ : ∃ g2, g2 = gMov g b gen (g.hd b' gen') := ⟨_, rfl⟩
 rw [← hg2]
 have hhd : g2.hd b (gen + 1) = g.hd b' gen' := by rw [hg2]; simp [gMov]
 have hgb : g2.gen b = gen + 1 := by rw [hg2]; simp [gMov]
 have hgo : ∀ x, x ≠ b → g2.gen x = g.gen x := fun x hx => by rw [hg2]; simp [gMov, hx]
 have he : Ext g w g2 w := by
  rw [hg2]
  exact ⟨fun _ h => h, fun _ h => h, fun c hc => rfl, Nat.le_refl _, fun _ h => h, fun _ _ => rfl, fun x _ => by
   simp only [gMov]; split
   ·rename_i e; subst e; rw [hbr.1]; omega
   ·exact Nat.le_refl _, fun x _ k hk => by
   simp only [gMov]; rw [if_neg]; rintro ⟨rfl, rfl⟩; rw [hbr.1] at hk; omega, Nat.le_refl _, rfl, rfl, rfl, fun _ h => .inl h, rfl, fun _ => Nat.le_refl _⟩
 have hS : g2.S = g.S := by rw [hg2]; rfl
 have hP : g2.Pr = g.Pr := by rw [hg2]; rfl
 have hH : g2.Ho = g.Ho := by rw [hg2]; rfl
 have hN : g2.N = g.N := by rw [hg2]; rfl
 have hget : ∀ x y, ((h.set b (.row t' s' (gen + 1) rows')).set b' .dead)[x]? = some y → (x = b' ∧ y = .dead) ∨ (x = b ∧ y = .row t' s' (gen + 1) rows') ∨ (x ≠ b ∧ x ≠ b' ∧ h[x]? = some y) := by
  intro x y hy
  rw [gst] at hy
  split at hy
  ·rename_i e
   subst e
   rw [if_pos (by rw [List.length_set]; exact hlt')] at hy
   exact .inl ⟨rfl, (Option.some.inj hy).symm⟩
  ·rename_i e
   rw [gst] at hy
   split at hy
   ·rename_i e2
    subst e2
    first | rw [if_pos hlt] at hy | skip
    exact .inr (.inl ⟨rfl, (Option.some.inj hy).symm⟩)
   ·rename_i e2
    exact .inr (.inr ⟨fun q => e2 q.symm, fun q => e q.symm, hy⟩)
 have hcb : ∀ c, cid g2 b (.row t' s' (gen + 1) rows') = some c → cid g b' (.row t' s' gen' rows') = some c := fun c hc => by
  simp only [cid, hhd] at hc ⊢
  exact hc
 have hco : ∀ x y c, x ≠ b → h[x]? = some y → cid g2 x y = some c → cid g x y = some c := fun x y c hx hy hc => by rwa [cid_mono he (hr.d hy) (gen_of hr hy)] at hc
 refine ⟨he, ⟨by rw [hN, hr.n]; simp, ?_, ?_, ?_, by rw [hS, hP]; exact hr.spr, by rw [hP]; exact hr.prs, ?_⟩, ?_⟩
 ·intro x y hy
  rcases hget x y hy with ⟨rfl, rfl⟩ | ⟨rfl, rfl⟩ | ⟨h1, h2, h3⟩
  ·simp only [BR]
  ·simp only [BR]
   refine ⟨hgb, hbr'.2.1, ?_⟩
   rw [hhd]
   have := hbr'.2.2
   cases hd : g.hd b' gen' with
   | none => rw [hd] at this; exact this
   | some p =>
    rw [hd] at this
    obtain ⟨cs, fz, k1, k2, k3, k4, k5, k6⟩ := this
    exact ⟨cs, fz, k1, k2, k3, k4, k5, VRc_mono he hr.spr k6⟩
  ·exact BR_mono hr he h3 (hgo x h1) (fun _ _ => rfl)
 ·intro x x2 y y2 c h1 h2 c1 c2
  rcases hget x y h1 with ⟨rfl, rfl⟩ | ⟨rfl, rfl⟩ | ⟨k1, k2, k3⟩ <;> rcases hget x2 y2 h2 with ⟨rfl, rfl⟩ | ⟨rfl, rfl⟩ | ⟨l1, l2, l3⟩
  ·rfl
  ·simp [cid] at c1
  ·simp [cid] at c1
  ·simp [cid] at c2
  ·rfl
  ·exact absurd (hr.dis _ _ _ _ c hb' l3 (hcb c c1) (hco _ _ c l1 l3 c2)) (fun q => l2 q.symm)
  ·simp [cid] at c2
  ·exact absurd (hr.dis _ _ _ _ c hb' k3 (hcb c c2) (hco _ _ c k1 k3 c1)) (fun q => k2 q.symm)
  ·exact hr.dis _ _ _ _ c k3 l3 (hco _ _ c k1 k3 c1) (hco _ _ c l1 l3 c2)
 ·intro x y c h1 c1
  rw [hP]
  rcases hget x y h1 with ⟨rfl, rfl⟩ | ⟨rfl, rfl⟩ | ⟨k1, k2, k3⟩
  ·simp [cid] at c1
  ·exact hr.own _ _ c hb' (hcb c c1)
  ·exact hr.own _ _ c k3 (hco _ _ c k1 k3 c1)
 ·intro x
  rw [hH]
  constructor
  ·intro q
   have hx := (hr.ho x).1 q
   have n1 : x ≠ b := fun e => by subst e; rw [hb] at hx; cases hx
   have n2 : x ≠ b' := fun e => by subst e; rw [hb'] at hx; cases hx
   rw [gst, if_neg (fun e => n2 e.symm), gst, if_neg (fun e => n1 e.symm)]
   exact hx
  ·intro q
   rcases hget x _ q with ⟨rfl, e⟩ | ⟨rfl, e⟩ | ⟨k1, k2, k3⟩
   ·cases e
   ·cases e
   ·exact (hr.ho x).2 k3
 ·intro size off len v hv
  simp only [VR] at hv ⊢
  refine ⟨he.D b (hr.d hb (by simp)), by rw [hgb]; omega, ?_⟩
  rw [hhd]
  exact hv.2.2
def movF (i j : Nat) (s : St) : St := match getT s.f i, getT s.f j with
 | .sl b' ge' k off len, .sl b _ _ _ _ => match s.h[b']?, s.h[b]? with
  | some (.row t' s' g' rows'), some (.row _ _ g _) => if b = b' ∨ ge' ≠ g' then s else ⟨s.f.set i (.sl b (g + 1) k off len), (s.h.set b (.row t' s' (g + 1) rows')).set b' .dead⟩
  | _, _ => s
 | _, _ => s
theorem movF_sound {P : Program} {C : IC → Code → Prop} {gl : Nat → Option (List PV)} {en : Nat} {a : Act} {w : World} (i j : Nat) (s : St) (g : G) (hs : SR P C gl en s g a w) : ∃ g', SR P C gl en (movF i j s) g' a w ∧ Ext g w g' w := by
 unfold movF
 split
 ·rename_i b' ge' k off len b _ _ _ _ e1 e2
  split
  ·rename_i t' s' g' rows' t s0 g0 rows hb' hb
   split
   ·exact ⟨g, hs, Ext.refl g w⟩
   ·rename_i hc
    have hne : b ≠ b' := fun e => hc (.inl e)
    have hge : ge' = g' := Decidable.byContradiction fun e => hc (.inr e)
    subst hge
    have hr := hs.c.hr
    obtain ⟨h1, h2, h3⟩ := mov_sound hr hb hb' hne
    have hf := VRs_mono h1 hr.spr _ _ hs.c.fr
    refine ⟨_, ⟨⟨GR_mono h1 hr.spr hs.c.gr, h2, ?_⟩, fun d hd => MarkR.ext (hs.d d hd) h1 hr.prs, hs.nd, hs.sz, h1.cr.trans hs.cr⟩, h1⟩
    have key : ∀ (f : List AV) (vs : List Value) (i : Nat), getT f i = .sl b' ge' k off len → VRs g w f vs → VRs (gMov g b g0 (g.hd b' ge')) w f vs → VRs (gMov g b g0 (g.hd b' ge')) w (f.set i (.sl b (g0 + 1) k off len)) vs := by
     intro f
     induction f with
     | nil => intro vs i _ _ h; simpa using h
     | cons x xs ih =>
      intro vs i hg ho h
      cases vs with
      | nil => simp [VRs] at h
      | cons v vs =>
       simp only [VRs] at h ho
       cases i with
       | zero =>
        have e : x = .sl b' ge' k off len := by simpa [getT] using hg
        subst e
        simp only [List.set_cons_zero, VRs]
        exact ⟨h3 _ _ _ _ ho.1, h.2⟩
       | succ i =>
        simp only [List.set_cons_succ, VRs]
        exact ⟨h.1, ih vs i (by simpa [getT] using hg) ho.2 h.2⟩
    exact key _ _ _ e1 hs.c.fr hf
  ·exact ⟨g, hs, Ext.refl g w⟩
 ·exact ⟨g, hs, Ext.refl g w⟩
def spareF (i k : Nat) (s : St) : St :=
 match getT s.f i with
 | .ptr b 0 => match s.h[b]? with
  | some (.cells t xs) => match getT xs k with
   | .sl b2 gen sz 0 len => match s.h[b2]? with
    | some (.row _ s' ge rows) => match pvr rows with
     | some ys => if ge = gen ∧ s' = sz ∧ len < rows.length then ⟨s.f, (s.h.set b2 .dead).set b (.cells t (xs.set k (.p (.lsx sz (ys.take len) (ys.drop len)))))⟩ else s
     | none => s
    | _ => s
   | _ => s
  | _ => s
 | _ => s
theorem spareF_sound {P : Program} {C : IC → Code → Prop} {gl : Nat → Option (List PV)} {en : Nat} {a : Act} {w : World} (i k : Nat) (s : St) (g : G) (hs : SR P C gl en s g a w) : ∃ g', SR P C gl en (spareF i k s) g' a w ∧ Ext g w g' w := by
 unfold spareF
 split <;> try exact ⟨g, hs, Ext.refl g w⟩
 rename_i b hi
 split <;> try exact ⟨g, hs, Ext.refl g w⟩
 rename_i t xs hb
 split <;> try exact ⟨g, hs, Ext.refl g w⟩
 rename_i b2 gen sz len hx
 split <;> try exact ⟨g, hs, Ext.refl g w⟩
 rename_i t2 s' ge rows hb2
 split <;> try exact ⟨g, hs, Ext.refl g w⟩
 rename_i ys hp
 split <;> try exact ⟨g, hs, Ext.refl g w⟩
 rename_i hc
 obtain ⟨rfl, rfl, hl⟩ := hc
 have hr := hs.c.hr
 have hbr := hr.br b2 _ hb2
 simp only [BR] at hbr
 obtain ⟨_, hr1, hrow⟩ := hbr
 have hcb := hr.br b _ hb
 simp only [BR] at hcb
 obtain ⟨cs, fz, c1, c2, c3⟩ := hcb
 have hne : b ≠ b2 := by rintro rfl; rw [hb] at hb2; cases hb2
 cases hd : g.hd b2 ge with
 | none => rw [hd] at hrow; simp only [RowR] at hrow; subst hrow; simp at hl
 | some p =>
  obtain ⟨cc, cap⟩ := p
  rw [hd] at hrow
  simp only [RowR] at hrow
  obtain ⟨ds, fz2, m1, _, m3, m4, m5, m6⟩ := hrow
  have hcid : cid g b2 (.row t2 s' ge rows) = some cc := by simp [cid, hd]
  have hnp := hr.own b2 _ cc hb2 hcid
  have hlt := heap_lt m1
  have hd1 : HR g (s.h.set b2 .dead) w := HR.upd hr hb2 (Ext.refl g w) rfl rfl rfl (fun _ _ => rfl) (fun _ _ _ => rfl) (by simp [BR]) (fun c hc => by simp [cid] at hc)
  have hn : ∀ b' y, (s.h.set b2 .dead)[b']? = some y → cid g b' y ≠ some cc := by
   intro b' y hy e
   rw [gst] at hy
   split at hy
   ·split at hy
    ·cases hy; simp [cid] at e
    ·cases hy
   ·rename_i hne
    exact hne (hr.dis b2 b' _ y cc hb2 hy hcid e)
  have he := addS_ext (w := w) hnp
  have hd2 := addS_hr hd1 hnp hlt hn
  have hcell : ∀ j u, (ds.toList.take (rows.length * s'))[j]? = some u → w.cell? ⟨cc, 0 + j, none⟩ = some u := by
   intro j u hj
   rw [List.getElem?_take] at hj
   split at hj
   ·simp only [World.cell?, m1]
    simpa using hj
   ·cases hj
  obtain ⟨pr, pl⟩ := prr_of (g := g) (w := w) (w' := w) (S := (g.addS cc).S) (fun k hk => .inl hk) (fun _ _ => rfl) rows ys _ 0 hp hr1 m6 hcell
  have key : ∀ (xs : List AV) (vs : List Value) (k : Nat), getT xs k = .sl b2 ge s' 0 len → VRs g w xs vs → VRs (g.addS cc) w (xs.set k (.p (.lsx s' (ys.take len) (ys.drop len)))) vs := by
   intro xs
   induction xs with
   | nil => intro vs k h _; simp [getT] at h
   | cons x xs ih =>
    intro vs k hg h
    cases vs with
    | nil => simp [VRs] at h
    | cons v vs =>
     simp only [VRs] at h
     cases k with
     | zero =>
      have e : x = .sl b2 ge s' 0 len := by simpa [getT] using hg
      subst e
      simp only [List.set_cons_zero, VRs]
      refine ⟨?_, VRs_mono he hr.spr _ _ h.2⟩
      have hv := h.1
      simp only [VR] at hv ⊢
      obtain ⟨_, _, hsl⟩ := hv
      rw [hd] at hsl
      obtain ⟨l1, l2, A, hv, hA⟩ := hsl
      have hA' := hA.resolve_left (by omega)
      have hlen : (ys.take len).length = len := by rw [List.length_take]; omega
      simp only [PR]
      refine ⟨A, cap, by rw [hlen, hv, Nat.sub_zero], by rw [hlen, List.length_drop]; omega, l2, cc, 0, by rw [hA', Nat.zero_mul], .inr rfl, PRr_take pr, ?_⟩
      rw [hlen]
      exact PRr_drop pr
     | succ k =>
      simp only [List.set_cons_succ, VRs]
      exact ⟨VR_mono he hr.spr _ _ h.1, ih vs k (by simpa [getT] using hg) h.2⟩
  have hbd : (s.h.set b2 .dead)[b]? = some (.cells t xs) := by rw [List.getElem?_set_ne (by omega)]; exact hb
  have hd3 : HR (g.addS cc) ((s.h.set b2 .dead).set b (.cells t (xs.set k (.p (.lsx s' (ys.take len) (ys.drop len)))))) w := by
   refine HR.upd hd2 hbd (Ext.refl _ w) rfl rfl rfl (fun _ _ => rfl) (fun _ _ _ => rfl) ?_ (fun c hc => .inl hc)
   simp only [BR]
   exact ⟨cs, fz, c1, c2, key xs _ k hx c3.1, c3.2⟩
  exact ⟨g.addS cc, ⟨⟨GR_mono he hr.spr hs.c.gr, hd3, VRs_mono he hr.spr _ _ hs.c.fr⟩, fun d hd => MarkR.ext (hs.d d hd) he hr.prs, hs.nd, hs.sz, he.cr.trans hs.cr⟩, he⟩
def growF : List (Nat × Nat × Nat × Nat) → St → St
 | [], s => s
 | (i, c, t, k) :: l, s => growF l (match c.beq 98 with
  | true => movF i t s
  | false => match c.beq 95 with
    | true => spareF i t s
    | false => match getT s.f i with
   | .p (.val (.slice none 0 0)) => match c.beq 96 with
    | true => ⟨s.f.set i (.p (.lst k [])), s.h⟩
    | false => ⟨s.f.set i (.sl s.h.length 0 k 0 0), s.h ++ [AB.row t k 0 []]⟩
   | _ => s)
theorem growF_sound {P : Program} {C : IC → Code → Prop} {gl : Nat → Option (List PV)} {en : Nat} {a : Act} {w : World} : ∀ (l : List (Nat × Nat × Nat × Nat)) (s : St) (g : G), SR P C gl en s g a w → ∃ g', SR P C gl en (growF l s) g' a w ∧ Ext g w g' w
 | [], s, g, hs => ⟨g, hs, Ext.refl g w⟩
 | (i, c, t, k) :: l, s, g, hs => by
  simp only [growF]
  split
  ·obtain ⟨g1, m1, m2⟩ := movF_sound i t s g hs
   obtain ⟨g', q1, q2⟩ := growF_sound l _ _ m1
   exact ⟨g', q1, m2.trans q2⟩
  split
  ·obtain ⟨g1, m1, m2⟩ := spareF_sound i t s g hs
   obtain ⟨g', q1, q2⟩ := growF_sound l _ _ m1
   exact ⟨g', q1, m2.trans q2⟩
  split
  ·rename_i hx
   split
   ·have hset : VRs g w (s.f.set i (.p (.lst k []))) a.tmps.toList := by
     have key : ∀ (f : List AV) (vs : List Value) (i : Nat), getT f i = .p (.val (.slice none 0 0)) → VRs g w f vs → VRs g w (f.set i (.p (.lst k []))) vs := by
      intro f
      induction f with
      | nil => intro vs i _ h; simpa using h
      | cons x xs ih =>
       intro vs i hg h
       cases vs with
       | nil => simp [VRs] at h
       | cons v vs =>
        simp only [VRs] at h
        cases i with
        | zero =>
         have e : x = .p (.val (.slice none 0 0)) := by simpa [getT] using hg
         subst e
         simp only [List.set_cons_zero, VRs]
         refine ⟨?_, h.2⟩
         have := h.1
         simp only [VR, PR] at this ⊢
         exact ⟨none, 0, this, Nat.le_refl _, Nat.zero_le _, .inl rfl⟩
        | succ i =>
         simp only [List.set_cons_succ, VRs]
         exact ⟨h.1, ih vs i (by simpa [getT] using hg) h.2⟩
     exact key _ _ _ hx hs.c.fr
    exact growF_sound l ⟨s.f.set i (.p (.lst k [])), s.h⟩ g ⟨⟨hs.c.gr, hs.c.hr, hset⟩, hs.d, hs.nd, hs.sz, hs.cr⟩
   have hr := hs.c.hr
   obtain ⟨h1, h2, h3⟩ := push_nil hr t k
   have hf := VRs_mono h1 hr.spr _ _ hs.c.fr
   have hset : VRs (gRow g none) w (s.f.set i (.sl s.h.length 0 k 0 0)) a.tmps.toList := by
    have key : ∀ (f : List AV) (vs : List Value) (i : Nat), getT f i = .p (.val (.slice none 0 0)) → VRs (gRow g none) w f vs → VRs (gRow g none) w (f.set i (.sl s.h.length 0 k 0 0)) vs := by
     intro f
     induction f with
     | nil => intro vs i _ h; simpa using h
     | cons x xs ih =>
      intro vs i hg h
      cases vs with
      | nil => simp [VRs] at h
      | cons v vs =>
       simp only [VRs] at h
       cases i with
       | zero =>
        have e : x = .p (.val (.slice none 0 0)) := by simpa [getT] using hg
        subst e
        simp only [List.set_cons_zero, VRs]
        refine ⟨?_, h.2⟩
        have := h.1
        simp only [VR, PR] at this
        subst this
        exact h3
       | succ i =>
        simp only [List.set_cons_succ, VRs]
        exact ⟨h.1, ih vs i (by simpa [getT] using hg) h.2⟩
    exact key _ _ _ hx hf
   obtain ⟨g', q1, q2⟩ := growF_sound l ⟨s.f.set i (.sl s.h.length 0 k 0 0), s.h ++ [AB.row t k 0 []]⟩ (gRow g none) ⟨⟨GR_mono h1 hr.spr hs.c.gr, h2, hset⟩, fun d hd => MarkR.ext (hs.d d hd) h1 hr.prs, hs.nd, hs.sz, h1.cr.trans hs.cr⟩
   exact ⟨g', q1, h1.trans q2⟩
  ·exact growF_sound l s g hs
def deepA (h : List AB) : Nat → AV → List Nat
 | 0, _ => []
 | n + 1, .sl b _ _ _ _ => b :: (match h[b]? with
  | some (.row _ _ _ rows) => rows.flatMap fun r => r.flatMap (deepA h n)
  | _ => [])
 | n + 1, .ptr b _ => match h[b]? with
  | some (.cells _ xs) => xs.flatMap (deepA h n)
  | _ => []
 | _, _ => []
def deepQ (f : List AV) (h : List AB) (q : Nat × Nat × Nat × Nat) : List Nat := match q.2.1.beq 97 with
 | true => deepA h 6 (getT f q.1)
 | false => []
def frzS (sl : List Nat) (cs : List (Nat × Nat × Nat)) (gs : List (Nat × Nat × Nat × Nat)) (s : St) : St :=
 match selF ((rowss (sl.map (getT s.f)) ++ ((sl.map (getT s.f)).flatMap ptrB).flatMap (cellB s.h)) ++ gs.flatMap (deepQ s.f s.h)) s.h with
 | some h1 => growF gs ⟨frzF h1 sl 0 s.f, growC s.f gs (nilC s.f cs (frzC ((sl.map (getT s.f)).flatMap ptrB) h1))⟩
 | none => s
theorem frzS_sound {P : Program} {C : IC → Code → Prop} {gl : Nat → Option (List PV)} {en : Nat} {s : St} {g : G} {a : Act} {w : World} (hs : SR P C gl en s g a w) (sl : List Nat) (cs : List (Nat × Nat × Nat)) (gs : List (Nat × Nat × Nat × Nat)) : ∃ g', SR P C gl en (frzS sl cs gs s) g' a w ∧ Ext g w g' w := by
 unfold frzS
 split
 ·rename_i h1 hf
  have hr := hs.c.hr
  have hr1 := frz_sound hr hf
  have he := frz_ext hr ((rowss (sl.map (getT s.f)) ++ ((sl.map (getT s.f)).flatMap ptrB).flatMap (cellB s.h)) ++ gs.flatMap (deepQ s.f s.h))
  have hr2 := nilC_sound (f := s.f) cs _ (frzC_sound ((sl.map (getT s.f)).flatMap ptrB) _ hr1)
  obtain ⟨g2, hr3, he2⟩ := growC_sound (f := s.f) gs _ _ hr2
  have he3 := he.trans he2
  have hd3 : ∀ d ∈ a.defers, MarkR en g2 w d := ?_
  ·obtain ⟨g3, q1, q2⟩ := growF_sound gs ⟨frzF h1 sl 0 s.f, growC s.f gs (nilC s.f cs (frzC ((sl.map (getT s.f)).flatMap ptrB) h1))⟩ g2 ⟨⟨GR_mono he3 hr.spr hs.c.gr, hr3, VRs_mono he2 hr2.spr _ _ (frzF_rel hr1 0 _ _ (VRs_mono he hr.spr _ _ hs.c.fr))⟩, hd3, hs.nd, hs.sz, he2.cr.trans hs.cr⟩
   exact ⟨g3, q1, he3.trans q2⟩
  intro d hd
  refine MarkR.ext ?_ he2 hr2.prs
  obtain ⟨D, m1, m2, m3, m4, m5⟩ := hs.d d hd
  exact ⟨D, m1, m2, .inl m3, fun q => q.elim m4 (fun ⟨b, x, _, h2, h3⟩ => hr.own b x D h2 h3 m3), m5⟩
 ·exact ⟨g, hs, Ext.refl g w⟩
def keepL (hm : List AB) (n : Nat) (live : List Nat) : Nat → List AV → List AV
 | _, [] => []
 | i, x :: xs => (if live.contains i && x.blw n then x else if live.contains (1000000 + i) then (frzA hm n x).getD .und else .und) :: keepL hm n live (i + 1) xs
def keepA (live : List Nat) : Nat → List AV → List AV
 | _, [] => []
 | i, x :: xs => (if live.contains i then x else .und) :: keepA live (i + 1) xs
def noT (live : List Nat) : Bool := live.contains 2000000
def trim (n : Nat) (live : List Nat) (s : St) : St :=
 match frzT n s.h with
 | some h' => if noT live then ⟨keepA live 0 s.f, s.h⟩ else ⟨keepL (mask n s.h) n live 0 s.f, h'⟩
 | none => ⟨keepA live 0 s.f, s.h⟩
def afterLoop (f : List AV) (k : Nat) (h : List AB) : Option (Out × St) :=
 match h[k]? with
 | some (.loop 0 none _ _ _ _) => some (.norm, ⟨f, h.set k .dead⟩)
 | some (.loop 2 (some none) _ _ _ _) => some (.ret, ⟨f, h.set k .dead⟩)
 | some (.loop 2 (some (some id)) _ _ _ _) => if id < 1000000 then some (.brk id, ⟨f, h.set k .dead⟩) else none
 | _ => none
def run (E : Env) (L : IC → St → Option (Out × St)) : IC → St → Option (Out × St)
 | .skip, s => some (.norm, s)
 | .ops l, s => (runOps E l s).map (Out.norm, ·)
 | .opsR K l, s => (runR E s.h.length l [] ⟨s.f, s.h ++ List.replicate K .hole⟩).map (Out.norm, ·)
 | .seq a b, s => match run E L a s with
  | some (.norm, s1) => run E L b s1
  | r => r
 | .cond c x y, s => match c.ev s.f E.gl with
  | .p (.val (.bool b)) => if b then run E L x s else run E L y s
  | _ => none
 | .block id b, s => match run E L b s with
  | some (.brk i, s1) => if i = id then some (.norm, s1) else some (.brk i, s1)
  | r => r
 | .noGo b, s => match run E L b s with
  | some (.brk i, s1) => if i < 1000000 then some (.brk i, s1) else none
  | r => r
 | .loop live b, s => match run E L b (trim s.h.length live s) with
  | some (.norm, s1) => L (.loopAt s.h.length live b) s1
  | r => r
 | .loopAt n live b, s => match run E L b (trim n live s) with
  | some (.norm, s1) => L (.loopAt n live b) s1
  | r => r
 | .rangeF fo ps ia ib, s => match fo.ev s.f E.gl with
  | .fn g caps => match E.callS g (.yl s.h.length :: caps) (s.h ++ [.loop 0 none ps s.f ia ib]) with
   | some r => afterLoop s.f s.h.length r.2
   | none => none
  | _ => none
 | .exit id, s => some (.brk id, s)
 | .frzS sl cs gs, s => some (.norm, frzS sl cs gs s)
 | .ret, s => some (.ret, s)
 | .bad, _ => none
def noR : Code → Bool
 | .rangeFunc .. => false
 | .seq a b => noR a && noR b
 | .cond _ a b => noR a && noR b
 | .block _ b => noR b
 | .loop b => noR b
 | .scope b => noR b
 | _ => true
def compR (P : Program) (ops : Array Oper) (l : List ROp) (an : List (List Nat)) : IC × List (List Nat) := if okR ops l && P.follows .mixedOrders then (.opsR (sumR l) l, an) else (.bad, an)
theorem mkR_ops {zf : IOp → Nat} : ∀ (is : List IOp) (pre : List IOp) (off : Nat) (as : List Nat), (mkR zf pre off is as).map (·.op) = is
 | [], _, _, _ => rfl
 | i :: is, pre, off, as => by simp only [mkR, List.map_cons, mkR_ops is]
def noG : Code → Bool
 | .rangeFunc _ _ a b => noG a && noG b
 | .seq a b => noG a && noG b
 | .cond _ a b => noG a && noG b
 | .block _ b => noG b
 | .loop b => noG b
 | .scope b => noG b
 | .goto _ => false
 | _ => true
def noLab : Code → Bool
 | .seq a b => noLab a && noLab b
 | .label _ => false
 | _ => true
def labB (l : Nat) (r : IC) : IC := .block (1000000 + l) (.seq r (.exit (2000000 + l)))
def labI (l : Nat) (live : List Nat) (r : IC) : IC := .block (2000000 + l) (.loop live (labB l r))
def isReg : Code → Bool
 | .region .. => true
 | .skip => true
 | _ => false
def isLoop : Code → Bool
 | .loop _ => true
 | _ => false
def slO (k : Nat) (live : List Nat) : List Nat := (live.filter fun i => k ≤ i && i < k + 1000000).map (· - k)
def slC (k : Nat) (live : List Nat) : List (Nat × Nat × Nat) := (live.filter fun i => k ≤ i && i < k + 10000000).map fun i => ((i - k) / 10000, (i - k) / 100 % 100, (i - k) % 100)
def slG (k : Nat) (live : List Nat) : List (Nat × Nat × Nat × Nat) := (live.filter fun i => k ≤ i && i < k + 1000000000000).map fun i => ((i - k) / 100000000, (i - k) / 1000000 % 100, (i - k) / 100 % 10000, (i - k) % 100)
def frzX (sl : List Nat) (cs : List (Nat × Nat × Nat)) (gs : List (Nat × Nat × Nat × Nat)) (x : IC) : IC := match sl, gs with
 | [], [] => x
 | sl, gs => .seq (.frzS sl cs gs) x
def frzY (sl : List Nat) (cs : List (Nat × Nat × Nat)) (gs : List (Nat × Nat × Nat × Nat)) (x : IC) : IC := match sl, gs with
 | [], [] => x
 | sl, gs => .seq x (.frzS sl cs gs)
def frzW (t : Bool) (an : List (List Nat)) (x : IC) : IC :=
 match t, an with
 | true, live :: _ => frzY (slO 5000000 live) (slC 20000000 live) (slG 2000000000000 live) (frzX (slO 4000000 live) (slC 10000000 live) (slG 1000000000000 live) x)
 | _, _ => x
def seqM : List (List Nat) → List Nat × List (List Nat)
 | (m :: ms) :: an => if m = 3000000 then (ms, an) else if 3000000 < m ∧ m < 4000000 then ([], ((m - 1) :: ms) :: an) else ([], (m :: ms) :: an)
 | an => ([], an)
def frzM (ms : List Nat) (x : IC) : IC := frzX (slO 4000000 ms) (slC 10000000 ms) (slG 1000000000000 ms) x
def noL (c : Code) : Bool := noR c && (match c with | .label l => l != 999999 | _ => true)
def inS (sc : Bool) (x : IC × List (List Nat)) : IC × List (List Nat) := if sc then (.bad, []) else x
def compC (P : Program) (shf : Operand → Bool) (c : Code) (an : List (List Nat)) (sc : Bool := false) : IC × List (List Nat) :=
 match c, an with
 | .skip, an => inS sc (.skip, an)
 | .region _ ops draw, an => inS sc (match compOps P shf ops ops.toList with
  | some is => if draw then (if orderOk ops is && P.follows .mixedOrders then (.ops is, an) else compR P ops (mkR (zOf shf) [] 0 is (ancs ops.toList [])) an) else (.ops is, an)
  | none => (.bad, an))
 | .seq a b, an => if sc then
   (match a, an with
   | .label l, live :: an => if l < 1000000 ∧ noLab b = true then (let (x, an1) := compC P shf b an false; (labI l live x, an1)) else (.bad, [])
   | a, an => if isReg a then (let (x, an1) := compC P shf a an false; let (y, an2) := compC P shf b an1 true; (.seq x y, an2)) else (.bad, []))
  else let (x, an1) := compC P shf a (seqM an).2 false; let (y, an2) := compC P shf b an1 false; (frzM (seqM an).1 (.seq x y), an2)
 | .cond c x y, an => inS sc (let (x', an1) := compC P shf x an false; let (y', an2) := compC P shf y an1 false; (.cond (opd c) x' y', an2))
 | .block id b, an => inS sc (if id < 1000000 then (let (x, an1) := compC P shf b an false; (frzW (isLoop b) an (.block id x), an1)) else (.bad, []))
 | .loop b, an => inS sc (match an with
  | live :: an => let (x, an1) := compC P shf b an false; (.loop live x, an1)
  | [] => (.bad, []))
 | .rangeFunc f ps a b, an =>
  inS sc (let (x, an1) := compC P shf a an false
  let (y, an2) := compC P shf b an1 false
  if noL a && noL b then (.rangeF (opd f) ps.toList x y, an2) else (.bad, an2))
 | .scope b, an => inS sc (if !noLab b && noG b then (let (x, an1) := compC P shf b an false; (.noGo x, an1)) else compC P shf b an (!noLab b))
 | .label _, an => inS sc (.skip, an)
 | .goto l, an => inS sc (if l < 1000000 then (.exit (1000000 + l), an) else (.bad, []))
 | .exit id, an => inS sc (if id < 1000000 then (.exit id, an) else (.bad, []))
 | .ret, an => inS sc (.ret, an)
 | .refuse _, an => (.bad, an)
termination_by structural c
theorem compC_seqF {P : Program} {shf : Operand → Bool} {a b : Code} {an : List (List Nat)} : compC P shf (.seq a b) an false = (frzM (seqM an).1 (.seq (compC P shf a (seqM an).2 false).1 (compC P shf b (compC P shf a (seqM an).2 false).2 false).1), (compC P shf b (compC P shf a (seqM an).2 false).2 false).2) := by
 conv => lhs; unfold compC
 rw [if_neg (by decide)]
theorem compC_seqL {P : Program} {shf : Operand → Bool} {l : Nat} {b : Code} {live : List Nat} {an : List (List Nat)} : compC P shf (.seq (.label l) b) (live :: an) true = if l < 1000000 ∧ noLab b = true then (labI l live (compC P shf b an false).1, (compC P shf b an false).2) else (.bad, []) := by
 conv => lhs; unfold compC
 rw [if_pos rfl]
theorem compC_seqR {P : Program} {shf : Operand → Bool} {a b : Code} {an : List (List Nat)} (h : isReg a = true) : compC P shf (.seq a b) an true = (.seq (compC P shf a an false).1 (compC P shf b (compC P shf a an false).2 true).1, (compC P shf b (compC P shf a an false).2 true).2) := by
 conv => lhs; unfold compC
 rw [if_pos rfl]
 cases a <;> first | (simp [isReg] at h; done) | (simp only [isReg, if_true])
theorem compC_seqN {P : Program} {shf : Operand → Bool} {a b : Code} {an : List (List Nat)} (h : isReg a = false) (h2 : ∀ l live an', ¬ (a = .label l ∧ an = live :: an')) : compC P shf (.seq a b) an true = (.bad, []) := by
 conv => lhs; unfold compC
 rw [if_pos rfl]
 cases a <;> first | (simp [isReg] at h; done) | (cases an <;> first | (simp only [isReg]; rfl) | exact absurd ⟨rfl, rfl⟩ (h2 _ _ _))
theorem inS_f (x : IC × List (List Nat)) : inS false x = x := rfl
theorem inS_t (x : IC × List (List Nat)) : inS true x = (.bad, []) := rfl
def nd (P : Program) : Bool := (P.globalNamed "strconv.ErrSyntax").isSome
def Good (P : Program) (ic : IC) (c : Code) : Prop := ((∃ shf an, (compC P shf c an).1 = ic) ∧ noR c = true) ∧ ¬ (nd P = true ∧ c = .label 999999)
theorem noL_good {P : Program} {ic : IC} {c : Code} (h : noL c = true) (h2 : ∃ shf an, (compC P shf c an).1 = ic) : Good P ic c := by
 simp only [noL, aet] at h
 refine ⟨⟨h2, h.1⟩, fun q => ?_⟩
 obtain ⟨_, rfl⟩ := q
 simp at h
def ExitR : Out → Exit → Prop
 | .norm, .normal => True
 | .brk i, .exit j => i = j ∧ i < 1000000
 | .brk i, .goto l => i = 1000000 + l ∧ l < 1000000
 | .ret, .ret => True
 | _, _ => False
theorem exitR_x {id : Nat} (h : id < 1000000) : ExitR (.brk id) (.exit id) := ⟨rfl, h⟩
def CodeR (P : Program) (C : IC → Code → Prop) (gl : Nat → Option (List PV)) (ok : Option Nat → Prop) (wp : Option Nat → (Exit → Act → World → Prop) → Act → World → Prop) (s : St) (o : Out) (s' : St) : Prop :=
 ∀ (rd : Option Nat) (en : Nat) (g0 g : G) (a : Act) (w0 w : World), ok rd → SR P C gl en s g a w → Ext g0 w0 g w → ∀ Q : Exit → Act → World → Prop, (∀ e a' w' g', ExitR o e → Ext g0 w0 g' w' → SR P C gl en s' g' a' w' → Q e a' w') → wp rd Q a w
theorem frzX_sound {P : Program} {C : IC → Code → Prop} {E : Env} {L : IC → St → Option (Out × St)} {ok : Option Nat → Prop} {wp : Option Nat → (Exit → Act → World → Prop) → Act → World → Prop} {sl : List Nat} {cs : List (Nat × Nat × Nat)} {gs : List (Nat × Nat × Nat × Nat)} {x : IC} (hx : ∀ s o s', run E L x s = some (o, s') → CodeR P C E.gl ok wp s o s') (s : St) (o : Out) (s' : St) (h : run E L (frzX sl cs gs x) s = some (o, s')) : CodeR P C E.gl ok wp s o s' := by
 unfold frzX at h
 split at h
 ·exact hx s o s' h
 ·simp only [run] at h
  intro rd en g0 g a w0 w hro hs he Q hQ
  obtain ⟨g1, hs1, he1⟩ := frzS_sound hs sl cs gs
  exact hx _ o s' h rd en g0 g1 a w0 w hro hs1 (he.trans he1) Q hQ
theorem frzY_sound {P : Program} {C : IC → Code → Prop} {E : Env} {L : IC → St → Option (Out × St)} {ok : Option Nat → Prop} {wp : Option Nat → (Exit → Act → World → Prop) → Act → World → Prop} {sl : List Nat} {cs : List (Nat × Nat × Nat)} {gs : List (Nat × Nat × Nat × Nat)} {x : IC} (hx : ∀ s o s', run E L x s = some (o, s') → CodeR P C E.gl ok wp s o s') (s : St) (o : Out) (s' : St) (h : run E L (frzY sl cs gs x) s = some (o, s')) : CodeR P C E.gl ok wp s o s' := by
 unfold frzY at h
 split at h
 ·exact hx s o s' h
 ·simp only [run] at h
  split at h
  ·rename_i s1 h1
   simp only [oiq, piq] at h
   obtain ⟨rfl, rfl⟩ := h
   intro rd en g0 g a w0 w hro hs he Q hQ
   refine hx s .norm s1 h1 rd en g0 g a w0 w hro hs he Q ?_
   intro e a' w' g' k1 k2 k3
   obtain ⟨g2, hs2, he2⟩ := frzS_sound k3 sl cs gs
   exact hQ e a' w' g2 k1 (k2.trans he2) hs2
  ·exact hx s o s' h
theorem frzW_sound {P : Program} {C : IC → Code → Prop} {E : Env} {L : IC → St → Option (Out × St)} {ok : Option Nat → Prop} {wp : Option Nat → (Exit → Act → World → Prop) → Act → World → Prop} {t : Bool} {an : List (List Nat)} {x : IC} (hx : ∀ s o s', run E L x s = some (o, s') → CodeR P C E.gl ok wp s o s') (s : St) (o : Out) (s' : St) (h : run E L (frzW t an x) s = some (o, s')) : CodeR P C E.gl ok wp s o s' := by
 cases t with
 | false => exact hx s o s' h
 | true =>
  cases an with
  | nil => exact hx s o s' h
  | cons live an => exact frzY_sound (frzX_sound hx) s o s' h
section
variable {P : Program} {C : IC → Code → Prop} {E : Env} {gl : Nat → Option (List PV)} {en : Nat}
theorem keepA_rel {g : G} {w : World} {live : List Nat} : ∀ (i : Nat) (xs : List AV) (vs : List Value), VRs g w xs vs → VRs g w (keepA live i xs) vs
 | _, [], [], _ => by simp [keepA, VRs]
 | i, x :: xs, v :: vs, h => by
  simp only [VRs] at h
  simp only [keepA, VRs]
  refine ⟨?_, keepA_rel (i + 1) xs vs h.2⟩
  split
  ·exact h.1
  ·simp [VR]
 | _, [], _ :: _, h => by simp [VRs] at h
 | _, _ :: _, [], h => by simp [VRs] at h
theorem keepL_rel {g : G} {h : List AB} {w : World} (hr : HR g h w) {n : Nat} {live : List Nat} : ∀ (i : Nat) (xs : List AV) (vs : List Value), VRs g w xs vs → VRs (g.cutF n h) w (keepL (mask n h) n live i xs) vs
 | _, [], [], _ => by simp [keepL, VRs]
 | i, x :: xs, v :: vs, hv => by
  simp only [VRs] at hv
  simp only [keepL, VRs]
  refine ⟨?_, keepL_rel hr (i + 1) xs vs hv.2⟩
  split
  ·rename_i hc
   simp only [aet] at hc
   exact frzA_rel hr x v x (frzA_blw x hc.2) hv.1
  ·split
   ·cases hf : frzA (mask n h) n x with
    | none => simp [VR]
    | some y => exact frzA_rel hr x v y hf hv.1
   ·simp [VR]
 | _, [], _ :: _, h => by simp [VRs] at h
 | _, _ :: _, [], h => by simp [VRs] at h
theorem frzB_rel {g : G} {h : List AB} {w : World} (hr : HR g h w) {n b : Nat} {x y : AB} (hb : h[b]? = some x) (hn : b < n) (hf : frzB (mask n h) n x = some y) :
  BR (g.cutF n h) w b y ∧ cid (g.cutF n h) b y = cid g b x ∧ (y = .hole ↔ x = .hole) := by
 have hbr := hr.br b x hb
 have he := cutF_ext (n := n) hr
 have hs : ∀ c, (g.cut n).S c → (g.cut n).Pr c := hr.spr
 cases x with
 | cells t xs =>
  simp only [frzB, mei] at hf
  obtain ⟨ys, hm, rfl⟩ := hf
  simp only [BR] at hbr ⊢
  obtain ⟨cs, fz, k1, k2, k3⟩ := hbr
  exact ⟨⟨cs, fz, k1, k2, frzAs_rel hr xs _ ys hm k3.1, k3.2⟩, rfl, by simp⟩
 | row t size gen rows =>
  simp only [frzB, mei] at hf
  obtain ⟨rows', hm, rfl⟩ := hf
  simp only [BR] at hbr ⊢
  obtain ⟨hl, hg⟩ := mapO_get _ _ hm
  refine ⟨⟨hbr.1, fun r hr2 => ?_, ?_⟩, rfl, by simp⟩
  ·obtain ⟨i, hi⟩ := List.getElem?_of_mem hr2
   obtain ⟨q, q1, q2⟩ := hg i r hi
   rw [frzAs_len _ _ q2]
   exact hbr.2.1 q (List.mem_of_getElem? q1)
  ·have hrow := hbr.2.2
   show RowR _ w t size rows' (g.hd b gen)
   cases hd : g.hd b gen with
   | none =>
    rw [hd] at hrow
    simp only [RowR] at hrow ⊢
    subst hrow
    exact List.eq_nil_of_length_eq_zero (by simpa using hl)
   | some p =>
    obtain ⟨c, cap⟩ := p
    rw [hd] at hrow
    simp only [RowR] at hrow ⊢
    obtain ⟨cs, fz, k1, k2, k3, k4, k5, k6⟩ := hrow
    refine ⟨cs, fz, k1, k2, k3, k4, by omega, frzAs_rel hr _ _ _ (frzAs_flat rows rows' hm) ?_, ?_⟩
    ·rw [hl]; exact k6.1
    ·rw [hl]; exact k6.2
 | loop st pend ps f ia ib =>
  simp only [frzB] at hf
  split at hf
  ·rename_i hx
   simp only [oiq] at hf; subst hf
   simp only [BR] at hbr ⊢
   obtain ⟨rec, k1, k⟩ := hbr
   exact ⟨⟨rec, k1, ⟨k.st, k.pend, k.ps, VRs_mono he hs _ _ (VRs_trim _ _ (by simpa only [AB.blw] using hx) k.f), k.ia, k.ib⟩⟩, rfl, by simp⟩
  ·cases hf
 | map q es =>
  simp only [frzB] at hf
  split at hf
  ·rename_i hx
   simp only [oiq] at hf; subst hf
   simp only [BR] at hbr ⊢
   obtain ⟨arr, k1, k2⟩ := hbr
   exact ⟨⟨arr, k1, MpR_mono he hs q es _ (MpR_trim q es _ (by simpa only [AB.blw] using hx) k2)⟩, rfl, by simp⟩
  ·cases hf
 | frz size gen rows =>
  simp only [frzB] at hf
  split at hf
  ·simp only [oiq] at hf; subst hf
   simp only [BR] at hbr ⊢
   exact ⟨⟨hbr.1, FrzR_mono (fun c hc => .inl hc) (fun _ _ => rfl) hbr.2⟩, rfl, by simp⟩
  ·cases hf
 | dead =>
  simp only [frzB] at hf
  split at hf
  ·simp only [oiq] at hf; subst hf; exact ⟨by simp [BR], rfl, by simp⟩
  ·cases hf
 | hole =>
  simp only [frzB] at hf
  split at hf
  ·simp only [oiq] at hf; subst hf; exact ⟨by simp [BR], rfl, by simp⟩
  ·cases hf
theorem frzT_sound {g : G} {h h' : List AB} {w : World} (hr : HR g h w) {n : Nat} (hf : frzT n h = some h') : HR (g.cutF n h) h' w ∧ n ≤ h.length := by
 unfold frzT at hf
 split at hf
 rotate_left
 ·cases hf
 rename_i hle
 obtain ⟨hl, hg⟩ := mapO_get _ _ hf
 have hget : ∀ (b : Nat) (y : AB), h'[b]? = some y → ∃ x, h[b]? = some x ∧ b < n ∧ frzB (mask n h) n x = some y := by
  intro b y hy
  obtain ⟨x, h1, h2⟩ := hg b y hy
  rw [List.getElem?_take] at h1
  split at h1
  ·rename_i hb; exact ⟨x, h1, hb, h2⟩
  ·cases h1
 refine ⟨⟨by simp only [G.cutF]; rw [hl]; simp [Nat.min_eq_left hle], ?_, ?_, ?_, ?_, ?_, ?_⟩, hle⟩
 ·intro b y hy
  obtain ⟨x, h1, h2, h3⟩ := hget b y hy
  exact (frzB_rel hr h1 h2 h3).1
 ·intro b b' y y' c h1 h2 h3 h4
  obtain ⟨x, k1, k2, k3⟩ := hget b y h1
  obtain ⟨x', l1, l2, l3⟩ := hget b' y' h2
  rw [(frzB_rel hr k1 k2 k3).2.1] at h3
  rw [(frzB_rel hr l1 l2 l3).2.1] at h4
  exact hr.dis b b' x x' c k1 l1 h3 h4
 ·intro b y c h1 h3
  obtain ⟨x, k1, k2, k3⟩ := hget b y h1
  rw [(frzB_rel hr k1 k2 k3).2.1] at h3
  rintro (q | ⟨b', x', q1, q2, q3⟩)
  ·exact hr.own b x c k1 h3 q
  ·have := hr.dis b b' x x' c k1 q2 h3 q3
   omega
 ·intro c hc
  exact hc.imp_left (hr.spr c)
 ·rintro c (q | ⟨b', x', q1, q2, q3⟩)
  ·exact hr.prs c q
  ·exact cid_lt hr q2 q3
 ·intro b
  constructor
  ·rintro ⟨k1, k2⟩
   have hx := (hr.ho b).1 k1
   have : h'[b]? = some (h'[b]'(by rw [hl]; simp; omega)) := List.getElem?_eq_getElem _
   obtain ⟨x, l1, l2, l3⟩ := hget b _ this
   rw [hx] at l1
   have e := (frzB_rel hr hx l2 (by rw [Option.some.inj l1]; exact l3)).2.2.2 rfl
   rw [this, e]
  ·intro k
   obtain ⟨x, l1, l2, l3⟩ := hget b _ k
   have e := (frzB_rel hr l1 l2 l3).2.2.1 rfl
   subst e
   exact ⟨(hr.ho b).2 l1, l2⟩
theorem trim_sound {s : St} {g0 g : G} {a : Act} {w0 w : World} (hs : SR P C gl en s g a w) (he : Ext g0 w0 g w) (n : Nat) (hn : g0.N ≤ n) (live : List Nat) : ∃ g', SR P C gl en (trim n live s) g' a w ∧ Ext g0 w0 g' w := by
 unfold trim
 have hr := hs.c.hr
 cases hf : frzT n s.h with
 | none => exact ⟨g, ⟨⟨hs.c.gr, hs.c.hr, keepA_rel 0 _ _ hs.c.fr⟩, hs.d, hs.nd, hs.sz, hs.cr⟩, he⟩
 | some h' =>
  by_cases hnt : noT live = true
  ·simp only [hnt, if_true]
   exact ⟨g, ⟨⟨hs.c.gr, hs.c.hr, keepA_rel 0 _ _ hs.c.fr⟩, hs.d, hs.nd, hs.sz, hs.cr⟩, he⟩
  simp only [hnt]
  obtain ⟨h1, h2⟩ := frzT_sound hr hf
  have hown : ∀ c, Fz g s.h n c → ¬ g.Pr c := fun c ⟨b, x, _, k2, k3⟩ => hr.own b x c k2 k3
  refine ⟨g.cutF n s.h, ⟨⟨?_, h1, keepL_rel hr 0 _ _ hs.c.fr⟩, ?_, hs.nd, hs.sz, hs.cr⟩, ⟨fun c hc => .inl (he.S c hc), fun c hc => .inl (he.Pr c hc), he.pr, hn, fun b hb => G.cutF_D (Nat.lt_of_lt_of_le hb.1 hn) (he.D b hb), he.m, he.gen, he.hd, he.size, he.os, he.tape, he.output, ?_, he.cr, he.drawn⟩⟩
  ·intro k xs hx
   obtain ⟨k1, k2, k3⟩ := hs.c.gr k xs hx
   exact ⟨.inl k1, PRs_mono (fun _ hc => .inl hc) (fun _ _ => rfl) k k1 0 xs k2, k3⟩
  ·intro d hd
   obtain ⟨D, m1, m2, m3, m4, m5⟩ := hs.d d hd
   exact ⟨D, m1, m2, .inl m3, fun q => q.elim m4 (fun q => hown D q m3), m5⟩
  ·rintro c (q | q)
   ·exact he.Sn c q
   ·exact .inr (fun hp => hown c q (he.Pr c hp))
def LoopS (P : Program) (C : IC → Code → Prop) (gl : Nat → Option (List PV)) (L : IC → St → Option (Out × St)) : Prop :=
 ∀ n live b s o s', L (.loopAt n live b) s = some (o, s') → ∀ (shf : Operand → Bool) (c : Code) (an an' : List (List Nat)), compC P shf c an = (b, an') →
  ∃ m, ∀ (rd : Option Nat) (en : Nat) (g0 g : G) (a : Act) (w0 w : World), (noR c = true ∨ rd = none) → SR P C gl en s g a w → Ext g0 w0 g w → g0.N ≤ n → ∀ Q : Exit → Act → World → Prop, (∀ e a' w' g', ExitR o e → Ext g0 w0 g' w' → SR P C gl en s' g' a' w' → Q e a' w') → Code.roundsIn (FW rd) 0 P c Q m a w
theorem exitR_norm {e : Exit} (h : ExitR .norm e) : e = .normal := by cases e <;> first | rfl | (exact h.elim)
theorem exitR_ret {e : Exit} (h : ExitR .ret e) : e = .ret := by cases e <;> first | rfl | (exact h.elim)
theorem exitR_brk {e : Exit} {i : Nat} (h : ExitR (.brk i) e) : (e = .exit i ∧ i < 1000000) ∨ ∃ l, e = .goto l ∧ i = 1000000 + l ∧ l < 1000000 := by
 cases e with
 | exit j => obtain ⟨rfl, h⟩ := h; exact .inl ⟨rfl, h⟩
 | goto l => exact .inr ⟨l, rfl, h⟩
 | _ => exact h.elim
theorem frm {α : Type} : ∀ (l pre : List α), (List.range' pre.length l.length).filterMap ((pre ++ l)[·]?) = l
 | [], pre => by simp
 | x :: l, pre => by
  rw [List.length_cons, List.range'_succ, List.filterMap_cons]
  have e : (pre ++ x :: l)[pre.length]? = some x := by simp
  rw [e]
  simp only
  have := frm l (pre ++ [x])
  simp only [List.length_append, List.length_singleton, List.append_assoc, List.singleton_append] at this
  rw [this]
theorem stepR_scope {b : Frame} {a : Act} {k : List Item} {cs : List Frame} {w : World} {c : Code} : step P (lone (b.atR a (.code (.scope c) :: k)) cs w) = .next (lone (b.atR a (.code c :: .inScope c :: k)) cs w) :=
 step_lone_go (by simp [stepG, stepG.exec, Frame.atR])
theorem stepR_inScope {b : Frame} {a : Act} {k : List Item} {cs : List Frame} {w : World} {c : Code} : step P (lone (b.atR a (.inScope c :: k)) cs w) = .next (lone (b.atR a k) cs w) :=
 step_lone_go (by simp [stepG, stepG.exec, Frame.atR])
theorem noLab_find : ∀ {c : Code}, noLab c = true → ∀ l, findLabel c l = none
 | .seq a b, h, l => by
  simp only [noLab, aet] at h
  simp only [findLabel, noLab_find h.1, noLab_find h.2]
 | .label _, h, _ => by simp [noLab] at h
 | .skip, _, _ => rfl
 | .region .., _, _ => rfl
 | .cond .., _, _ => rfl
 | .block .., _, _ => rfl
 | .loop .., _, _ => rfl
 | .rangeFunc .., _, _ => rfl
 | .exit _, _, _ => rfl
 | .scope _, _, _ => rfl
 | .goto _, _, _ => rfl
 | .ret, _, _ => rfl
 | .refuse _, _, _ => rfl
theorem wpIn_scope' {F : Fence} {n : Nat} {c : Code} {Q : Exit → Act → World → Prop} {a : Act} {w : World} (hn : noLab c = true) (h : c.wpIn F n P Q a w) : (Code.scope c).wpIn F n P Q a w := by
 intro b k cs hro hb hr
 have h0 : (lone (b.atR a (.code (.scope c) :: k)) cs w).fenced P F := fenced_calm hb hr rfl
 obtain ⟨e, a₁, w₁, hq, harr⟩ := h b (.inScope c :: k) cs hro hb hr
 cases e with
 | normal => exact ⟨.normal, a₁, w₁, hq, .head h0 stepR_scope (StepsIn.trans harr (.one (fenced_calm hb hr rfl) stepR_inScope))⟩
 | exit id' =>
  have hx : exitTo id' (.inScope c :: k) = exitTo id' k := by simp [exitTo]
  exact ⟨.exit id', a₁, w₁, hq, fun k' hk => .head h0 stepR_scope (harr.1 k' (by rw [hx]; exact hk)),
   fun hr' hk => let ⟨k₁, h1, h2⟩ := harr.2 hr' (by rw [hx]; exact hk); ⟨k₁, h1, .head h0 stepR_scope h2⟩⟩
 | goto l =>
  have hx : gotoIn l (.inScope c :: k) = gotoIn l k := by simp [gotoIn, noLab_find hn l]
  exact ⟨.goto l, a₁, w₁, hq, fun k' hk => .head h0 stepR_scope (harr.1 k' (by rw [hx]; exact hk)),
   fun hr' hk => let ⟨k₁, h1, h2⟩ := harr.2 hr' (by rw [hx]; exact hk); ⟨k₁, h1, .head h0 stepR_scope h2⟩⟩
 | ret => exact ⟨_, a₁, w₁, hq, .of_steps (.one h0 stepR_scope) harr⟩
 | panic ch => exact ⟨_, a₁, w₁, hq, .of_steps (.one h0 stepR_scope) harr⟩
 | outgrown => exact ⟨_, a₁, w₁, hq, .of_steps (.one h0 stepR_scope) harr⟩
theorem wpIn_scope_no {F : Fence} {n : Nat} {c : Code} {Q : Exit → Act → World → Prop} {a : Act} {w : World} (h : c.wpIn F n P (Exit.noGoto Q) a w) : (Code.scope c).wpIn F n P Q a w := by
 intro b k cs hro hb hr
 have h0 : (lone (b.atR a (.code (.scope c) :: k)) cs w).fenced P F := fenced_calm hb hr rfl
 obtain ⟨e, a₁, w₁, hq, harr⟩ := h b (.inScope c :: k) cs hro hb hr
 cases e with
 | normal => exact ⟨.normal, a₁, w₁, hq, .head h0 stepR_scope (StepsIn.trans harr (.one (fenced_calm hb hr rfl) stepR_inScope))⟩
 | exit id' =>
  have hx : exitTo id' (.inScope c :: k) = exitTo id' k := by simp [exitTo]
  exact ⟨.exit id', a₁, w₁, hq, fun k' hk => .head h0 stepR_scope (harr.1 k' (by rw [hx]; exact hk)),
   fun hr' hk => let ⟨k₁, h1, h2⟩ := harr.2 hr' (by rw [hx]; exact hk); ⟨k₁, h1, .head h0 stepR_scope h2⟩⟩
 | goto l => exact hq.elim
 | ret => exact ⟨_, a₁, w₁, hq, .of_steps (.one h0 stepR_scope) harr⟩
 | panic ch => exact ⟨_, a₁, w₁, hq, .of_steps (.one h0 stepR_scope) harr⟩
 | outgrown => exact ⟨_, a₁, w₁, hq, .of_steps (.one h0 stepR_scope) harr⟩
def _root_.Go.Exit.jumpT (l : Nat) (J : Act → World → Prop) (Q : Exit → Act → World → Prop) : Exit → Act → World → Prop
 | .goto l', a, w => if l' = l then J a w else Q (.goto l') a w
 | e, a, w => Q e a w
def JR (F : Fence) (P : Program) (l : Nat) (c : Code) (Q : Exit → Act → World → Prop) : Nat → Act → World → Prop
 | 0, _, _ => False
 | m + 1, a, w => c.wpIn F 0 P (Exit.jumpT l (JR F P l c Q m) Q) a w
theorem wpIn_scope_jump {F : Fence} {c rest : Code} {l : Nat} {Q : Exit → Act → World → Prop} {a : Act} {w : World} (hf : findLabel c l = some (.seq .skip rest)) (hno : ∀ l', l' ≠ l → findLabel c l' = none) {m : Nat}
  (h : c.wpIn F 0 P (Exit.jumpT l (JR F P l rest Q m) Q) a w) : (Code.scope c).wpIn F 0 P Q a w := by
 intro b k cs hro hb hr
 have h0 : (lone (b.atR a (.code (.scope c) :: k)) cs w).fenced P F := fenced_calm hb hr rfl
 have hg : gotoIn l (.inScope c :: k) = some (.code (.seq .skip rest) :: .inScope c :: k) := by simp [gotoIn, hf]
 have hx : ∀ id, exitTo id (.inScope c :: k) = exitTo id k := fun id => by simp [exitTo]
 have hgo : ∀ l', l' ≠ l → gotoIn l' (.inScope c :: k) = gotoIn l' k := fun l' hl => by simp [gotoIn, hno l' hl]
 have fin : ∀ (m₀ : Machine) (e : Exit) (a₁ : Act) (w₁ : World), (∀ l', e = .goto l' → l' ≠ l) → ArrivesIn (Machine.fenced P F) P m₀ b (.inScope c :: k) cs e a₁ w₁ → ArrivesIn (Machine.fenced P F) P m₀ b k cs e a₁ w₁ := by
  intro m₀ e a₁ w₁ hl harr
  cases e with
  | normal => exact StepsIn.trans harr (.one (fenced_calm hb hr rfl) stepR_inScope)
  | exit id' => exact ⟨fun k' hk => harr.1 k' (by rw [hx]; exact hk), fun hr' hk => harr.2 hr' (by rw [hx]; exact hk)⟩
  | goto l' => exact ⟨fun k' hk => harr.1 k' (by rw [hgo l' (hl l' rfl)]; exact hk), fun hr' hk => harr.2 hr' (by rw [hgo l' (hl l' rfl)]; exact hk)⟩
  | ret => exact harr
  | panic ch => exact harr
  | outgrown => exact harr
 have key : ∀ m a w, JR F P l rest Q m a w → ∃ e a' w', Q e a' w' ∧ ArrivesIn (Machine.fenced P F) P (lone (b.atR a (.code (.seq .skip rest) :: .inScope c :: k)) cs w) b k cs e a' w' := by
  intro m
  induction m with
  | zero => intro a w hj; exact hj.elim
  | succ m ih =>
   intro a w hj
   have h2 : (Code.seq .skip rest).wpIn F 0 P (Exit.jumpT l (JR F P l rest Q m) Q) a w := wpIn_seq (wpIn_skip hj)
   obtain ⟨e, a₁, w₁, hq, harr⟩ := h2 b (.inScope c :: k) cs hro hb hr
   cases e with
   | goto l' =>
    simp only [Exit.jumpT] at hq
    split at hq
    ·rename_i e; subst e
     obtain ⟨e₂, a₂, w₂, hq₂, harr₂⟩ := ih a₁ w₁ hq
     exact ⟨e₂, a₂, w₂, hq₂, .of_steps (harr.1 _ hg) harr₂⟩
    ·rename_i hl
     exact ⟨_, a₁, w₁, hq, fin _ _ _ _ (fun l'' e => by cases e; exact hl) harr⟩
   | normal => exact ⟨_, a₁, w₁, hq, fin _ _ _ _ (fun _ e => by cases e) harr⟩
   | exit id => exact ⟨_, a₁, w₁, hq, fin _ _ _ _ (fun _ e => by cases e) harr⟩
   | ret => exact ⟨_, a₁, w₁, hq, fin _ _ _ _ (fun _ e => by cases e) harr⟩
   | panic ch => exact ⟨_, a₁, w₁, hq, fin _ _ _ _ (fun _ e => by cases e) harr⟩
   | outgrown => exact ⟨_, a₁, w₁, hq, fin _ _ _ _ (fun _ e => by cases e) harr⟩
 obtain ⟨e, a₁, w₁, hq, harr⟩ := h b (.inScope c :: k) cs hro hb hr
 cases e with
 | goto l' =>
  simp only [Exit.jumpT] at hq
  split at hq
  ·rename_i e; subst e
   obtain ⟨e₂, a₂, w₂, hq₂, harr₂⟩ := key m a₁ w₁ hq
   exact ⟨e₂, a₂, w₂, hq₂, .of_steps (.head h0 stepR_scope (harr.1 _ hg)) harr₂⟩
  ·rename_i hl
   exact ⟨_, a₁, w₁, hq, .of_steps (.one h0 stepR_scope) (fin _ _ _ _ (fun l'' e => by cases e; exact hl) harr)⟩
 | normal => exact ⟨_, a₁, w₁, hq, .of_steps (.one h0 stepR_scope) (fin _ _ _ _ (fun _ e => by cases e) harr)⟩
 | exit id => exact ⟨_, a₁, w₁, hq, .of_steps (.one h0 stepR_scope) (fin _ _ _ _ (fun _ e => by cases e) harr)⟩
 | ret => exact ⟨_, a₁, w₁, hq, .of_steps (.one h0 stepR_scope) (fin _ _ _ _ (fun _ e => by cases e) harr)⟩
 | panic ch => exact ⟨_, a₁, w₁, hq, .of_steps (.one h0 stepR_scope) (fin _ _ _ _ (fun _ e => by cases e) harr)⟩
 | outgrown => exact ⟨_, a₁, w₁, hq, .of_steps (.one h0 stepR_scope) (fin _ _ _ _ (fun _ e => by cases e) harr)⟩
def labO (l : Nat) : Out → Out
 | .norm => .brk (2000000 + l)
 | .brk i => if i = 1000000 + l then .norm else .brk i
 | .ret => .ret
def outX (l : Nat) : Out → Out
 | .brk i => if i = 2000000 + l then .norm else .brk i
 | o => o
def LabS (P : Program) (C : IC → Code → Prop) (gl : Nat → Option (List PV)) (L : IC → St → Option (Out × St)) : Prop :=
 ∀ n live l x s o s', L (.loopAt n live (labB l x)) s = some (o, s') → ∀ (shf : Operand → Bool) (c : Code) (an an' : List (List Nat)), compC P shf c an = (x, an') →
  ∃ m, ∀ (rd : Option Nat) (en : Nat) (g0 g : G) (a : Act) (w0 w : World), (noR c = true ∨ rd = none) → SR P C gl en s g a w → Ext g0 w0 g w → g0.N ≤ n → ∀ Q : Exit → Act → World → Prop, (∀ e a' w' g', ExitR (outX l o) e → Ext g0 w0 g' w' → SR P C gl en s' g' a' w' → Q e a' w') → JR (FW rd) P l c Q m a w
theorem labB_run {l : Nat} {x : IC} {s s' : St} {o : Out} {L : IC → St → Option (Out × St)} (h : run E L (labB l x) s = some (o, s')) : ∃ o1, run E L x s = some (o1, s') ∧ o = labO l o1 := by
 simp only [labB, run] at h
 cases hx : run E L x s with
 | none => rw [hx] at h; cases h
 | some r =>
  obtain ⟨o1, s1⟩ := r
  rw [hx] at h
  cases o1 with
  | norm =>
   simp only at h
   rw [if_neg (by omega)] at h
   simp only [oiq, piq] at h
   exact ⟨.norm, by rw [h.2], h.1.symm⟩
  | ret =>
   simp only [oiq, piq] at h
   exact ⟨.ret, by rw [h.2], h.1.symm⟩
  | brk i =>
   simp only at h
   refine ⟨.brk i, ?_, ?_⟩
   ·split at h <;> (simp only [oiq, piq] at h; rw [h.2])
   ·simp only [labO]
    split at h <;> rename_i e <;> simp only [oiq, piq] at h
    ·rw [if_pos e]; exact h.1.symm
    ·rw [if_neg e]; exact h.1.symm
theorem lab_round {shf : Operand → Bool} {c : Code} {an : List (List Nat)} {l : Nat} {s s1 s' : St} {o1 o : Out} {rd : Option Nat} {C : IC → Code → Prop} {gl : Nat → Option (List PV)} {en : Nat} {g0 g : G} {a : Act} {w0 w : World} {Q : Exit → Act → World → Prop} {m : Nat}
  (hc : CodeR P C gl (fun rd => noR c = true ∨ rd = none) (fun rd Q => c.wpIn (FW rd) 0 P Q) s o1 s1) (hro : noR c = true ∨ rd = none) (hs : SR P C gl en s g a w) (he : Ext g0 w0 g w)
  (hj : labO l o1 = .norm → ∀ a' w' g', Ext g0 w0 g' w' → SR P C gl en s1 g' a' w' → JR (FW rd) P l c Q m a' w')
  (hQ : labO l o1 ≠ .norm → o = labO l o1 → s' = s1 → ∀ e a' w' g', ExitR (outX l o) e → Ext g0 w0 g' w' → SR P C gl en s' g' a' w' → Q e a' w')
  (hoo : labO l o1 ≠ .norm → o = labO l o1 ∧ s' = s1) : c.wpIn (FW rd) 0 P (Exit.jumpT l (JR (FW rd) P l c Q m) Q) a w := by
 refine hc rd en g0 g a w0 w hro hs he _ ?_
 intro e a' w' g' k1 k2 k3
 cases o1 with
 | norm =>
  rw [exitR_norm k1]
  have hne : labO l .norm ≠ .norm := by simp [labO]
  obtain ⟨rfl, rfl⟩ := hoo hne
  exact hQ hne rfl rfl .normal a' w' g' (by simp [labO, outX, ExitR]) k2 k3
 | ret =>
  rw [exitR_ret k1]
  have hne : labO l .ret ≠ .norm := by simp [labO]
  obtain ⟨rfl, rfl⟩ := hoo hne
  exact hQ hne rfl rfl .ret a' w' g' (by simp [labO, outX, ExitR]) k2 k3
 | brk i =>
  rcases exitR_brk k1 with ⟨rfl, hi⟩ | ⟨l', rfl, rfl, hl'⟩
  ·have h1 : labO l (.brk i) = .brk i := by simp only [labO]; rw [if_neg (by omega)]
   have hne : labO l (.brk i) ≠ .norm := by rw [h1]; simp
   obtain ⟨rfl, rfl⟩ := hoo hne
   refine hQ hne rfl rfl (.exit i) a' w' g' ?_ k2 k3
   rw [h1]
   simp only [outX]
   rw [if_neg (by omega)]
   exact exitR_x hi
  ·simp only [Exit.jumpT]
   split
   ·rename_i e; subst e
    exact hj (by simp [labO]) a' w' g' k2 k3
   ·rename_i hl
    have h1 : labO l (.brk (1000000 + l')) = .brk (1000000 + l') := by simp only [labO]; rw [if_neg (by omega)]
    have hne : labO l (.brk (1000000 + l')) ≠ .norm := by rw [h1]; simp
    obtain ⟨rfl, rfl⟩ := hoo hne
    refine hQ hne rfl rfl (.goto l') a' w' g' ?_ k2 k3
    rw [h1]
    simp only [outX]
    rw [if_neg (by omega)]
    exact ⟨rfl, hl'⟩
theorem afterLoop_spec {f : List AV} {k : Nat} {h : List AB} {o : Out} {s' : St} (ha : afterLoop f k h = some (o, s')) :
  ∃ st pend ps f' ia ib, h[k]? = some (.loop st pend ps f' ia ib) ∧ st ≠ 1 ∧ s' = ⟨f, h.set k .dead⟩ ∧
   ((pend = none ∧ o = .norm) ∨ (pend = some none ∧ o = .ret) ∨ (∃ id, pend = some (some id) ∧ o = .brk id ∧ id < 1000000)) := by
 unfold afterLoop at ha
 split at ha
 ·rename_i e; simp only [oiq, piq] at ha; exact ⟨_, _, _, _, _, _, e, by omega, ha.2.symm, .inl ⟨rfl, ha.1.symm⟩⟩
 ·rename_i e; simp only [oiq, piq] at ha; exact ⟨_, _, _, _, _, _, e, by omega, ha.2.symm, .inr (.inl ⟨rfl, ha.1.symm⟩)⟩
 ·rename_i e
  split at ha
  ·rename_i hid
   simp only [oiq, piq] at ha; exact ⟨_, _, _, _, _, _, e, by omega, ha.2.symm, .inr (.inr ⟨_, rfl, ha.1.symm, hid⟩)⟩
  ·cases ha
 ·cases ha
theorem HR.kill {g : G} {h : List AB} {w w' : World} (hr : HR g h w) {b : Nat} {x : AB} (hb : h[b]? = some x) (hx : x ≠ .hole) (he : Ext g w g w') (hold : ∀ c, c < w.heap.size → cid g b x ≠ some c → w'.heap[c]? = w.heap[c]?) : HR g (h.set b .dead) w' :=
 HR.upd hr hb he rfl rfl rfl (fun _ _ => rfl) hold (by simp [BR]) (by intro c hc; simp [cid] at hc) rfl hx
theorem range_sound (hE : Sound P C E) {shf : Operand → Bool} (hC : C = Good P) {L : IC → St → Option (Out × St)} {f : Operand} {ps : Array Tmp} (x y : Code) (an : List (List Nat)) {s : St} {o : Out} {s' : St}
  (h : run E L (compC P shf (.rangeFunc f ps x y) an).1 s = some (o, s')) {g0 g : G} {a : Act} {w0 w : World} (hs : SR P C E.gl en s g a w) (he : Ext g0 w0 g w) {Q : Exit → Act → World → Prop}
  (hQ : ∀ e a' w' g', ExitR o e → Ext g0 w0 g' w' → SR P C E.gl en s' g' a' w' → Q e a' w') : (Code.rangeFunc f ps x y).wpIn (FW none) 0 P Q a w := by
 simp only [compC, inS_f] at h
 by_cases hn : (noL x && noL y) = true
 rotate_left
 ·rw [if_neg hn] at h; simp [run] at h
 rw [if_pos hn] at h
 simp only [aet] at hn
 simp only [run] at h
 split at h
 rotate_left
 ·cases h
 rename_i gf caps hf
 split at h
 rotate_left
 ·cases h
 rename_i r hcs
 obtain ⟨v, h1⟩ := r
 obtain ⟨st, pend, ps', f', ia', ib', hk, hst, rfl, ho⟩ := afterLoop_spec h
 obtain ⟨⟨fd, hfd, hbody, hname⟩, hcall⟩ := hE.s _ _ _ _ _ hcs
 have hv := hs.c.opd f
 rw [hf] at hv
 simp only [VR] at hv
 obtain ⟨cv, hv, hcv⟩ := hv
 have hr := hs.c.hr
 refine wpIn_rangeFunc ?_
 intro fn _
 obtain ⟨wA, hwA⟩ : ∃ wA, wA = w.alloc (.deferred (some [])) := ⟨_, rfl⟩
 obtain ⟨rec0, hrec0⟩ : ∃ rec0 : Loop, rec0 = { state := .ready, pending := none, fn, tmps := a.tmps, params := ps, assign := x, body := y, defers := w.heap.size } := ⟨_, rfl⟩
 have hszA : wA.heap.size = w.heap.size + 1 := by rw [hwA]; simp
 have holdA : ∀ c, c < w.heap.size → wA.heap[c]? = w.heap[c]? := fun c hc => by rw [hwA]; exact Below.heap_alloc w _ c hc
 have hnewA : wA.heap[w.heap.size]? = some (.deferred (some [])) := by rw [hwA]; exact World.alloc_heap_new w _
 have eA : Ext g w { g with Pr := fun c => g.Pr c ∨ c = w.heap.size } wA :=
  ⟨fun _ h => h, fun _ h => .inl h, fun c hc => holdA c (hr.prs c hc), Nat.le_refl _, fun _ h => h, fun _ _ => rfl, fun _ _ => Nat.le_refl _, fun _ _ _ _ => rfl, by omega, by rw [hwA]; rfl, by rw [hwA]; rfl, by rw [hwA]; rfl, fun _ h => .inl h, rfl, fun _ => by rw [hwA]; exact Nat.le_refl _⟩
 have hcidA : ∀ b x, cid { g with Pr := fun c => g.Pr c ∨ c = w.heap.size } b x = cid g b x := fun b x => by cases x <;> rfl
 have hrA : HR { g with Pr := fun c => g.Pr c ∨ c = w.heap.size } s.h wA := by
  refine ⟨hr.n, fun b x hb => BR_mono hr eA hb rfl (fun c hc => holdA c (cid_lt hr hb hc)), ?_, ?_, fun c hS => .inl (hr.spr c hS), ?_, hr.ho⟩
  ·intro b b' x x' c k1 k2 k3 k4
   rw [hcidA] at k3 k4
   exact hr.dis b b' x x' c k1 k2 k3 k4
  ·intro b x c k1 k2
   rw [hcidA] at k2
   rintro (k3 | k3)
   ·exact hr.own b x c k1 k2 k3
   ·have := cid_lt hr k1 k2; omega
  ·rintro c (k | k)
   ·have := hr.prs c k; omega
   ·omega
 obtain ⟨w1, hw1⟩ : ∃ w1, w1 = wA.alloc (.loop rec0) := ⟨_, rfl⟩
 have hold1 : ∀ c, c < wA.heap.size → w1.heap[c]? = wA.heap[c]? := fun c hc => by rw [hw1]; exact Below.heap_alloc wA _ c hc
 have hnew1 : w1.heap[wA.heap.size]? = some (.loop rec0) := by rw [hw1]; exact World.alloc_heap_new wA _
 have hsz1 : wA.heap.size ≤ w1.heap.size := by rw [hw1]; simp
 obtain ⟨gA, hgA⟩ : ∃ gA : G, gA = { g with Pr := fun c => g.Pr c ∨ c = w.heap.size } := ⟨_, rfl⟩
 rw [← hgA] at eA hrA
 have hgN : gA.N = g.N := by rw [hgA]
 have hgm : ∀ b, gA.m b = g.m b := fun b => by rw [hgA]
 have hgcr : gA.cr = C := by rw [hgA]; exact hs.cr
 have hgS : gA.S = g.S := by rw [hgA]
 have hgP : ∀ c, gA.Pr c ↔ (g.Pr c ∨ c = w.heap.size) := fun c => by rw [hgA]
 have eB : Ext gA wA (gCells gA wA.heap.size) w1 := Ext.push hrA rfl rfl rfl (fun b hb => by simp [gCells]; omega) (fun _ _ => rfl) (fun _ _ => rfl) hold1 hsz1 (by rw [hw1]; rfl) (by rw [hw1]; rfl) (by rw [hw1]; rfl) (hdr := by rw [hw1]; exact Nat.le_refl _)
 have hrB : HR (gCells gA wA.heap.size) (s.h ++ [.loop 0 none ps.toList s.f (compC P shf x an).1 (compC P shf y (compC P shf x an).2).1]) w1 := by
  refine (HR.push (g' := gCells gA wA.heap.size) hrA _ rfl rfl rfl (fun b hb => by simp [gCells]; omega) (fun _ _ => rfl) (fun _ _ => rfl) hold1 hsz1 (by rw [hw1]; rfl) (by rw [hw1]; rfl) (by rw [hw1]; rfl) ?_ ?_ (hdr := by rw [hw1]; exact Nat.le_refl _)).2
  ·simp only [BR]
   have hm : (gCells gA wA.heap.size).m gA.N = wA.heap.size := by simp [gCells]
   have hcr : (gCells gA wA.heap.size).cr = Good P := by show gA.cr = _; rw [hgcr, hC]
   refine ⟨rec0, by rw [hm]; exact hnew1, ⟨by rw [hrec0]; rfl, by rw [hrec0]; rfl, by rw [hrec0], ?_, ?_, ?_⟩⟩
   ·rw [hrec0]; exact VRs_mono eB hrA.spr _ _ (VRs_mono eA hr.spr _ _ hs.c.fr)
   ·rw [hcr, hrec0]; exact noL_good hn.1 ⟨_, _, rfl⟩
   ·rw [hcr, hrec0]; exact noL_good hn.2 ⟨_, _, rfl⟩
  ·intro c hc
   simp [cid, gCells] at hc
   omega
 have hkN : s.h.length = gA.N := by rw [hgN]; exact hr.n.symm
 have hml : (gCells gA wA.heap.size).m s.h.length = w.heap.size + 1 := by rw [hkN, ← hszA]; simp [gCells]
 have hargs : VRs (gCells gA wA.heap.size) w1 (.yl s.h.length :: caps) (.func (.yield (w.heap.size + 1)) #[] #[] :: cv.toList) := by
  simp only [VRs, VR]
  refine ⟨⟨by rw [hkN]; exact D_cells hrA _, by rw [hml]⟩, VRs_mono eB hrA.spr _ _ (VRs_mono eA hr.spr _ _ hcv)⟩
 have hgr1 : GR (gCells gA wA.heap.size) w1 E.gl := GR_mono eB hrA.spr (GR_mono eA hr.spr hs.c.gr)
 have hC1 := hcall (gCells gA wA.heap.size) w1 _ (by show gA.cr = C; exact hgcr) hgr1 hrB hargs
 have harr : (Value.func (.yield (w.heap.size + 1)) #[] #[] :: cv.toList).toArray = #[.func (.yield (w.heap.size + 1)) #[] #[]] ++ cv := by apply Array.ext'; simp
 refine ⟨w.heap.size + 1, [{ target := .collected w.heap.size, args := #[] }], w1, { target := .fn (.func gf) cv, args := #[.func (.yield (w.heap.size + 1)) #[] #[]] }, w1, gf,
  #[.func (.yield (w.heap.size + 1)) #[] #[]] ++ cv, w1, ?_, ?_, fun _ _ => trivial, ?_, fun h => absurd h (by simp [FW, Fence.wide]), ?_⟩
 ·rw [hw1, hwA, hrec0]; exact run_enterLoop_outer _ _ _ _ _
 ·simp only [resolve, hv]
  simp [go_sem]
 ·simp only [invoke, callFunc, run_program, Sem.run_bind, Result.andThen_ok, hfd, hname, fet, if_false, hbody, Sem.run_pure]
 ·rw [← harr]
  refine (calls_FW hC1).mono ?_
  rintro e w' ⟨xv, g', rfl, e1, r1, _⟩
  have hbr := r1.br _ _ hk
  simp only [BR] at hbr
  obtain ⟨rec, hrec, hl⟩ := hbr
  have hm' : g'.m s.h.length = w.heap.size + 1 := by rw [e1.m _ (by rw [hkN]; exact D_cells hrA _), hml]
  rw [hm'] at hrec
  have hnb : rec.state ≠ .busy := by
   rw [hl.st]
   match st, hst with
   | 0, _ => simp [stOf]
   | 1, h => exact absurd rfl h
   | n + 2, _ => simp [stOf]
  obtain ⟨w4, hw4⟩ : ∃ w4, w4 = w'.putObj (w.heap.size + 1) (.loop { rec with state := .exhausted }) := ⟨_, rfl⟩
  have hold4 : ∀ c, c ≠ w.heap.size + 1 → w4.heap[c]? = w'.heap[c]? := fun c hc => by rw [hw4]; exact World.putObj_heap_other hc
  have hcid : cid g' s.h.length (.loop st pend ps' f' ia' ib') = some (w.heap.size + 1) := by simp only [cid]; rw [hm']
  have e4 : Ext g' w' g' w4 :=
   ⟨fun _ h => h, fun _ h => h, fun c hc => hold4 c (fun e => r1.own _ _ _ hk hcid (e ▸ hc)), Nat.le_refl _, fun _ h => h, fun _ _ => rfl, fun _ _ => Nat.le_refl _, fun _ _ _ _ => rfl, by rw [hw4]; simp, by rw [hw4]; rfl, by rw [hw4]; rfl, by rw [hw4]; rfl, fun _ h => .inl h, rfl, fun _ => by rw [hw4]; exact Nat.le_refl _⟩
  have r4 : HR g' (h1.set s.h.length .dead) w4 := r1.kill hk (by simp) e4 (fun c _ hc => hold4 c (fun e => hc (by rw [hcid, e])))
  have eG : Ext g w g' w4 := (eA.trans eB).trans (e1.trans e4)
  have eAl : Ext gA wA g' w4 := eB.trans (e1.trans e4)
  have hmark : MarkR en g' w4 { target := .collected w.heap.size, args := #[] } := by
   have h0 : MarkR en gA wA { target := .collected w.heap.size, args := #[] } :=
    ⟨w.heap.size, rfl, hs.sz, (hgP _).2 (.inr rfl), fun hS => by rw [hgS] at hS; have := hr.prs _ (hr.spr _ hS); omega, hnewA⟩
   exact h0.ext eAl hrA.prs
  have hSR : SR P C E.gl en ⟨s.f, h1.set s.h.length .dead⟩ g' { a with defers := [{ target := .collected w.heap.size, args := #[] }] ++ a.defers } w4 := by
   refine ⟨⟨GR_mono eG hr.spr hs.c.gr, r4, VRs_mono eG hr.spr _ _ hs.c.fr⟩, ?_, ?_, Nat.le_trans hs.sz eG.size, eG.cr.trans hs.cr⟩
   ·intro d hd
    rcases List.mem_append.1 hd with hd | hd
    ·rw [List.mem_singleton.1 hd]; exact hmark
    ·exact (hs.d d hd).ext eG hr.prs
   ·refine List.nodup_cons.2 ⟨fun hd => ?_, hs.nd⟩
    obtain ⟨D, hD, _, hp, _⟩ := hs.d _ hd
    have := hr.prs D hp
    simp only [Deferred.mk.injEq, Target.collected.injEq, and_true] at hD
    omega
  refine ⟨rec.pending, w4, by rw [hw4]; exact run_endLoop hrec hnb, ?_⟩
  rw [hl.pend]
  rcases ho with ⟨rfl, rfl⟩ | ⟨rfl, rfl⟩ | ⟨id, rfl, rfl, hid⟩
  ·exact hQ .normal _ w4 g' trivial (he.trans eG) hSR
  ·exact wpIn_ret (hQ .ret _ w4 g' trivial (he.trans eG) hSR)
  ·exact wpIn_exit (hQ (.exit id) _ w4 g' (exitR_x hid) (he.trans eG) hSR)
mutual
theorem run_sound (hE : Sound P C E) {L : IC → St → Option (Out × St)} (hL : LoopS P C E.gl L) (hB : LabS P C E.gl L) (hC : C = Good P) {shf : Operand → Bool} : ∀ (c : Code) (an : List (List Nat)) (s : St) (o : Out) (s' : St),
  run E L (compC P shf c an).1 s = some (o, s') → CodeR P C E.gl (fun rd => noR c = true ∨ rd = none) (fun rd Q => c.wpIn (FW rd) 0 P Q) s o s'
 | .skip, an, s, o, s', h => by
  simp only [compC, inS_f, run, oiq, piq] at h
  obtain ⟨rfl, rfl⟩ := h
  intro rd en g0 g a w0 w hro hs he Q hQ
  exact wpIn_skip (hQ .normal a w g trivial he hs)
 | .region id ops draw, an, s, o, s', h => by
  simp only [compC, inS_f] at h
  split at h
  ·rename_i is hc
   cases draw with
   | false =>
    simp only [fet, if_false, run, mei, piq] at h
    obtain ⟨s1, h1, rfl, rfl⟩ := h
    intro rd en g0 g a w0 w hro hs he Q hQ
    refine wpIn_region ?_
    have := ops_sound (rd := rd) (ops := ops) hE (Q := Q) ops.toList is 0 s s1 g a w (by simp) hc h1 hs (fun a' w' g' k1 k2 => hQ .normal a' w' g' trivial (he.trans k1) k2)
    rw [List.range_eq_range']
    simpa using this
   | true =>
    simp only [if_true] at h
    split at h
    ·rename_i hok
     simp only [aet] at hok
     simp only [run, mei, piq] at h
     obtain ⟨s1, h1, rfl, rfl⟩ := h
     intro rd en g0 g a w0 w hro hs he Q hQ
     refine wpIn_region_any hok.2 ?_
     obtain ⟨e1, r1⟩ := HR.same hs.c.hr (w' := w.drew) rfl rfl rfl rfl
     have hs' : SR P C E.gl en s g a w.drew := ⟨⟨GR_mono e1 hs.c.hr.spr hs.c.gr, r1, VRs_mono e1 hs.c.hr.spr _ _ hs.c.fr⟩, hs.d, hs.nd, hs.sz, hs.cr⟩
     have hrem : remI (Array.replicate ops.size false) ops.size = List.range ops.size := by
      unfold remI
      rw [List.filter_eq_self.2]
      intro k hk
      simp at hk
      simp [Array.getD, hk]
     have hall : (List.range ops.size).filterMap (is[·]?) = is := by
      have hl : is.length = ops.size := (compOps_get hc).1
      rw [← hl]
      have := frm is []
      rw [List.range_eq_range']
      exact this
     refine any_sound hE hc hok.1 ops.size (Array.replicate ops.size false) s g a w.drew (by simp) (by rw [hrem]; simp) ?_ (by rw [hrem, hall]; exact h1) hs' (fun a' w' g' k1 k2 => hQ .normal a' w' g' trivial ((he.trans e1).trans k1) k2)
     intro k o' hk hl
     simp [Array.getD] at hl
    ·unfold compR at h
     split at h
     ·rename_i hok
      simp only [aet] at hok
      simp only [run, mei, piq] at h
      obtain ⟨s1, h1, rfl, rfl⟩ := h
      intro rd en g0 g a w0 w hro hs he Q hQ
      refine wpIn_region_any hok.2 ?_
      obtain ⟨e1, r1⟩ := HR.same hs.c.hr (w' := w.drew) rfl rfl rfl rfl
      have hs' : SR P C E.gl en s g a w.drew := ⟨⟨GR_mono e1 hs.c.hr.spr hs.c.gr, r1, VRs_mono e1 hs.c.hr.spr _ _ hs.c.fr⟩, hs.d, hs.nd, hs.sz, hs.cr⟩
      obtain ⟨g2, e2, hs2⟩ := reserve hs' (sumR (mkR (zOf shf) [] 0 is (ancs ops.toList [])))
      obtain ⟨ts, k1, k2, k3⟩ := runR_spec _ _ _ _ h1
      have hrem : remI (Array.replicate ops.size false) ops.size = List.range ops.size := by
       unfold remI
       rw [List.filter_eq_self.2]
       intro k hk
       simp at hk
       simp [Array.getD, hk]
      have hlen : ts.length = ops.size := by
       have hl : is.length = ops.size := (compOps_get hc).1
       rw [← hl, ← mkR_ops is [] 0 (ancs ops.toList []), List.length_map, ← k1, List.length_map]
      have hall : (List.range ops.size).filterMap (ts[·]?) = ts := by
       rw [← hlen, List.range_eq_range']
       have := frm ts []
       exact this
      refine any_soundR hE (by rw [mkR_ops]; exact hc) hok.1 k1 (fun k t ht => by simpa using k3 k t ht) ops.size (Array.replicate ops.size false) _ g2 a w.drew (by simp) (by rw [hrem]; simp) ?_ (by rw [hrem, hall]; exact k2) hs2 (fun a' w' g' q1 q2 => hQ .normal a' w' g' trivial (((he.trans e1).trans e2).trans q1) q2)
      intro k o' hk hl
      simp [Array.getD] at hl
     ·simp [run] at h
  ·simp [run] at h
 | .seq x y, an, s, o, s', h => by
  rw [compC_seqF] at h
  refine frzX_sound (x := .seq (compC P shf x (seqM an).2).1 (compC P shf y (compC P shf x (seqM an).2).2).1) ?_ s o s' h
  generalize (seqM an).2 = an
  clear h s' o s
  intro s o s' h
  simp only [run] at h
  intro rd en g0 g a w0 w hro hs he Q hQ
  split at h
  ·rename_i s1 h1
   refine wpIn_seq (run_sound hE hL hB hC x an s .norm s1 h1 rd en g0 g a w0 w (hro.imp_left fun h => by simp only [noR, aet] at h; exact h.1) hs he _ ?_)
   intro e a' w' g' k1 k2 k3
   rw [exitR_norm k1]
   exact run_sound hE hL hB hC y (compC P shf x an).2 s1 o s' h rd en g0 g' a' w0 w' (hro.imp_left fun h => by simp only [noR, aet] at h; exact h.2) k3 k2 Q hQ
  ·rename_i hne
   have hne' : o ≠ .norm := fun e => hne s' (by rw [h, e])
   refine wpIn_seq (run_sound hE hL hB hC x an s o s' h rd en g0 g a w0 w (hro.imp_left fun h => by simp only [noR, aet] at h; exact h.1) hs he _ ?_)
   intro e a' w' g' k1 k2 k3
   have := hQ e a' w' g' k1 k2 k3
   cases e with
   | normal => cases o <;> first | (exact absurd rfl hne') | (exact k1.elim)
   | _ => exact this
 | .cond c x y, an, s, o, s', h => by
  simp only [compC, inS_f, run] at h
  intro rd en g0 g a w0 w hro hs he Q hQ
  split at h
  ·rename_i b hb
   have hv := val_of (hs.c.opd c) hb
   refine wpIn_cond hv ?_
   cases b with
   | true => simp only [if_true] at h ⊢; exact run_sound hE hL hB hC x an s o s' h rd en g0 g a w0 w (hro.imp_left fun h => by simp only [noR, aet] at h; exact h.1) hs he Q hQ
   | false => simp only [fet, if_false] at h ⊢; exact run_sound hE hL hB hC y _ s o s' h rd en g0 g a w0 w (hro.imp_left fun h => by simp only [noR, aet] at h; exact h.2) hs he Q hQ
  ·cases h
 | .block id b, an, s, o, s', h => by
  simp only [compC, inS_f] at h
  split at h
  rotate_left
  ·simp [run] at h
  rename_i hid
  refine frzW_sound (x := .block id (compC P shf b an).1) ?_ s o s' h
  clear h s' o s
  intro s o s' h
  simp only [run] at h
  intro rd en g0 g a w0 w hro hs he Q hQ
  split at h
  ·rename_i i s1 h1
   refine wpIn_block (run_sound hE hL hB hC b an s (.brk i) s1 h1 rd en g0 g a w0 w (hro.imp_left fun h => by simpa only [noR] using h) hs he _ ?_)
   intro e a' w' g' k1 k2 k3
   rcases exitR_brk k1 with ⟨rfl, hi6⟩ | ⟨l, rfl, rfl, hl⟩
   ·simp only [Exit.inBlock]
    split at h
    ·rename_i hi
     simp only [oiq, piq] at h
     obtain ⟨rfl, rfl⟩ := h
     rw [if_pos hi]
     exact hQ .normal a' w' g' trivial k2 k3
    ·rename_i hi
     simp only [oiq, piq] at h
     obtain ⟨rfl, rfl⟩ := h
     rw [if_neg hi]
     exact hQ (.exit i) a' w' g' (exitR_x hi6) k2 k3
   ·rw [if_neg (by omega)] at h
    simp only [oiq, piq] at h
    obtain ⟨rfl, rfl⟩ := h
    exact hQ (.goto l) a' w' g' ⟨rfl, hl⟩ k2 k3
  ·rename_i hne
   refine wpIn_block (run_sound hE hL hB hC b an s o s' h rd en g0 g a w0 w (hro.imp_left fun h => by simpa only [noR] using h) hs he _ ?_)
   intro e a' w' g' k1 k2 k3
   have := hQ e a' w' g' k1 k2 k3
   cases e with
   | exit i =>
    cases o with
    | brk j => exact absurd (by rw [h] : run E L (compC P shf b an).1 s = some (.brk j, s')) (hne j s')
    | norm => exact k1.elim
    | ret => exact k1.elim
   | _ => exact this
 | .loop b, an, s, o, s', h => by
  intro rd en g0 g a w0 w hro hs he Q hQ
  cases an with
  | nil => simp [compC, inS_f, run] at h
  | cons live an =>
   simp only [compC, inS_f, run] at h
   obtain ⟨g1, hs1, he1⟩ := trim_sound hs (Ext.refl g w) s.h.length (Nat.le_of_eq hs.c.hr.n) live
   split at h
   ·rename_i s1 h1
    obtain ⟨m, hm⟩ := hL _ _ _ _ _ _ h shf b an (compC P shf b an).2 rfl
    refine wpIn_loop_rounds (m + 1) ?_
    rw [roundsIn_succ]
    refine run_sound hE hL hB hC b an _ .norm s1 h1 rd en g g1 a w w (hro.imp_left fun h => by simpa only [noR] using h) hs1 he1 _ ?_
    intro e a' w' g' k1 k2 k3
    rw [exitR_norm k1]
    exact hm rd en g g' a' w w' (hro.imp_left fun h => by simpa only [noR] using h) k3 k2 (Nat.le_of_eq hs.c.hr.n) Q (fun e a2 w2 g2 l1 l2 l3 => hQ e a2 w2 g2 l1 (he.trans l2) l3)
   ·rename_i hne
    have hne' : o ≠ .norm := fun e => hne s' (by rw [h, e])
    refine wpIn_loop_rounds 1 ?_
    rw [roundsIn_succ]
    refine run_sound hE hL hB hC b an _ o s' h rd en g g1 a w w (hro.imp_left fun h => by simpa only [noR] using h) hs1 he1 _ ?_
    intro e a' w' g' k1 k2 k3
    have := hQ e a' w' g' k1 (he.trans k2) k3
    cases e with
    | normal => cases o <;> first | (exact absurd rfl hne') | (exact k1.elim)
    | _ => exact this
 | .exit id, an, s, o, s', h => by
  simp only [compC, inS_f] at h
  split at h
  rotate_left
  ·simp [run] at h
  rename_i hid
  simp only [run, oiq, piq] at h
  obtain ⟨rfl, rfl⟩ := h
  intro rd en g0 g a w0 w hro hs he Q hQ
  exact wpIn_exit (hQ (.exit id) a w g (exitR_x hid) he hs)
 | .ret, an, s, o, s', h => by
  simp only [compC, inS_f, run, oiq, piq] at h
  obtain ⟨rfl, rfl⟩ := h
  intro rd en g0 g a w0 w hro hs he Q hQ
  exact wpIn_ret (hQ .ret a w g trivial he hs)
 | .rangeFunc f ps x y, an, s, o, s', h => by
  intro rd en g0 g a w0 w hro hs he Q hQ
  have hrd : rd = none := hro.resolve_left (by simp [noR])
  subst hrd
  exact range_sound hE hC x y an h hs he hQ
 | .scope b, an, s, o, s', h => by
  intro rd en g0 g a w0 w hro hs he Q hQ
  simp only [compC, inS_f] at h
  cases hg : (!noLab b && noG b) with
  | true =>
   rw [hg, if_pos rfl] at h
   simp only [run] at h
   refine wpIn_scope_no ?_
   split at h
   ·rename_i i s1 h1
    split at h
    ·rename_i hi
     simp only [oiq, piq] at h
     obtain ⟨rfl, rfl⟩ := h
     refine run_sound hE hL hB hC b an s (.brk i) s1 h1 rd en g0 g a w0 w (hro.imp_left fun h => by simpa only [noR] using h) hs he _ ?_
     intro e a' w' g' k1 k2 k3
     rcases exitR_brk k1 with ⟨rfl, hi6⟩ | ⟨l, rfl, rfl, hl⟩
     ·exact hQ _ a' w' g' k1 k2 k3
     ·omega
    ·cases h
   ·rename_i hne
    refine run_sound hE hL hB hC b an s o s' h rd en g0 g a w0 w (hro.imp_left fun h => by simpa only [noR] using h) hs he _ ?_
    intro e a' w' g' k1 k2 k3
    cases o with
    | norm => rw [exitR_norm k1] at *; exact hQ _ a' w' g' trivial k2 k3
    | ret => rw [exitR_ret k1] at *; exact hQ _ a' w' g' trivial k2 k3
    | brk i => exact (hne i s' h).elim
  | false =>
  rw [hg, if_neg (by decide)] at h
  cases hn : noLab b with
  | true =>
   rw [hn] at h
   exact wpIn_scope' hn (run_sound hE hL hB hC b an s o s' h rd en g0 g a w0 w (hro.imp_left fun h => by simpa only [noR] using h) hs he Q hQ)
  | false =>
   rw [hn] at h
   obtain ⟨l, rest, hf, hno, m, hm⟩ := run_soundS hE hL hB hC b an s o s' h
   exact wpIn_scope_jump hf hno (hm rd en g0 g a w0 w (hro.imp_left fun h => by simpa only [noR] using h) hs he Q hQ)
 | .label l, an, s, o, s', h => by
  simp only [compC, inS_f, fet, if_false, run, oiq, piq] at h
  obtain ⟨rfl, rfl⟩ := h
  intro rd en g0 g a w0 w _ hs he Q hQ
  exact wpIn_label (hQ .normal a w g trivial he hs)
 | .goto l, an, s, o, s', h => by
  simp only [compC, inS_f] at h
  split at h
  rotate_left
  ·simp [run] at h
  rename_i hl
  simp only [run, oiq, piq] at h
  obtain ⟨rfl, rfl⟩ := h
  intro rd en g0 g a w0 w hro hs he Q hQ
  exact wpIn_goto (hQ (.goto l) a w g ⟨rfl, hl⟩ he hs)
 | .refuse .., an, s, o, s', h => by simp [compC, inS_f, run] at h
theorem run_soundS (hE : Sound P C E) {L : IC → St → Option (Out × St)} (hL : LoopS P C E.gl L) (hB : LabS P C E.gl L) (hC : C = Good P) {shf : Operand → Bool} : ∀ (c : Code) (an : List (List Nat)) (s : St) (o : Out) (s' : St),
  run E L (compC P shf c an true).1 s = some (o, s') → ∃ l rest, findLabel c l = some (.seq .skip rest) ∧ (∀ l', l' ≠ l → findLabel c l' = none) ∧
   ∃ m, ∀ (rd : Option Nat) (en : Nat) (g0 g : G) (a : Act) (w0 w : World), (noR c = true ∨ rd = none) → SR P C E.gl en s g a w → Ext g0 w0 g w → ∀ Q : Exit → Act → World → Prop, (∀ e a' w' g', ExitR o e → Ext g0 w0 g' w' → SR P C E.gl en s' g' a' w' → Q e a' w') →
    c.wpIn (FW rd) 0 P (Exit.jumpT l (JR (FW rd) P l rest Q m) Q) a w
 | .seq x y, an, s, o, s', h => by
  by_cases hlab : ∃ l live an', x = .label l ∧ an = live :: an'
  ·obtain ⟨l, live, an2, rfl, rfl⟩ := hlab
   rw [compC_seqL] at h
   split at h
   rotate_left
   ·simp [run] at h
   rename_i hl
   refine ⟨l, y, by simp [findLabel], fun l' hl' => by simp [findLabel, noLab_find hl.2, Ne.symm hl'], ?_⟩
   simp only [labI, run] at h
   have hnum := hl.1
   generalize hd : (match run E L (labB l (compC P shf y an2).1) (trim s.h.length live s) with
    | some (.norm, s1) => L (.loopAt s.h.length live (labB l (compC P shf y an2).1)) s1
    | r => r) = d at h
   have hd' : ∃ o', d = some (o', s') ∧ o = outX l o' := by
    cases d with
    | none => cases h
    | some r =>
     obtain ⟨o', s2⟩ := r
     cases o' with
     | norm => simp only [oiq, piq] at h; exact ⟨.norm, by rw [h.2], h.1.symm⟩
     | ret => simp only [oiq, piq] at h; exact ⟨.ret, by rw [h.2], h.1.symm⟩
     | brk i =>
      simp only at h
      refine ⟨.brk i, ?_, ?_⟩
      ·split at h <;> (simp only [oiq, piq] at h; rw [h.2])
      ·simp only [outX]
       split at h <;> rename_i e <;> simp only [oiq, piq] at h
       ·rw [if_pos e]; exact h.1.symm
       ·rw [if_neg e]; exact h.1.symm
   obtain ⟨o', rfl, rfl⟩ := hd'
   split at hd
   ·rename_i s1 h1
    obtain ⟨o1, h2, h3⟩ := labB_run h1
    obtain ⟨m, hm⟩ := hB _ _ _ _ _ _ _ hd shf y an2 (compC P shf y an2).2 rfl
    refine ⟨m, fun rd en g0 g a w0 w hro hs he Q hQ => wpIn_seq (wpIn_label ?_)⟩
    have hro' : noR y = true ∨ rd = none := hro.imp_left fun h => by simp only [noR, aet] at h; exact h.2
    obtain ⟨g1, hs1, he1⟩ := trim_sound hs (Ext.refl g w) s.h.length (Nat.le_of_eq hs.c.hr.n) live
    show y.wpIn (FW rd) 0 P (Exit.jumpT l (JR (FW rd) P l y Q m) Q) a w
    refine lab_round (shf := shf) (an := an2) (l := l) (o := o') (s' := s') (g0 := g) (w0 := w) (run_sound hE hL hB hC y an2 _ o1 s1 h2) hro' hs1 he1 ?_ (fun hne => absurd h3.symm hne) (fun hne => absurd h3.symm hne)
    intro _ a' w' g' k2 k3
    exact hm rd en g g' a' w w' hro' k3 k2 (Nat.le_of_eq hs.c.hr.n) Q (fun e a2 w2 g2 l1 l2 l3 => hQ e a2 w2 g2 l1 (he.trans l2) l3)
   ·rename_i hne
    refine ⟨0, fun rd en g0 g a w0 w hro hs he Q hQ => wpIn_seq (wpIn_label ?_)⟩
    have hro' : noR y = true ∨ rd = none := hro.imp_left fun h => by simp only [noR, aet] at h; exact h.2
    obtain ⟨g1, hs1, he1⟩ := trim_sound hs (Ext.refl g w) s.h.length (Nat.le_of_eq hs.c.hr.n) live
    obtain ⟨o1, h2, h3⟩ := labB_run hd
    have hno : labO l o1 ≠ .norm := fun e => hne s' (by rw [hd, h3, e])
    show y.wpIn (FW rd) 0 P (Exit.jumpT l (JR (FW rd) P l y Q 0) Q) a w
    exact lab_round (shf := shf) (an := an2) (l := l) (o := o') (s' := s') (g0 := g) (w0 := w) (run_sound hE hL hB hC y an2 _ o1 s' h2) hro' hs1 he1 (fun e => absurd e hno) (fun _ _ _ e a2 w2 g2 l1 l2 l3 => hQ e a2 w2 g2 l1 (he.trans l2) l3) (fun _ => ⟨h3, rfl⟩)
  ·cases hreg : isReg x with
   | false =>
    rw [compC_seqN hreg (fun l live an' e => hlab ⟨l, live, an', e⟩)] at h
    simp [run] at h
   | true =>
   rw [compC_seqR hreg] at h
   simp only [run] at h
   split at h
   ·rename_i s1 h1
    obtain ⟨l, rest, hf, hno, m, hm⟩ := run_soundS hE hL hB hC y _ s1 o s' h
    have hfx : ∀ l, findLabel x l = none := by
     intro l
     cases x <;> first | rfl | (simp [isReg] at hreg)
    refine ⟨l, rest, by simp [findLabel, hfx, hf], fun l' hl' => by simp [findLabel, hfx, hno l' hl'], m, fun rd en g0 g a w0 w hro hs he Q hQ => ?_⟩
    refine wpIn_seq (run_sound hE hL hB hC x an s .norm s1 h1 rd en g0 g a w0 w (hro.imp_left fun h => by simp only [noR, aet] at h; exact h.1) hs he _ ?_)
    intro e a' w' g' k1 k2 k3
    rw [exitR_norm k1]
    exact hm rd en g0 g' a' w0 w' (hro.imp_left fun h => by simp only [noR, aet] at h; exact h.2) k3 k2 Q hQ
   ·rename_i hne
    exfalso
    have hnorm : ∀ o2 s2, run E L (compC P shf x an).1 s = some (o2, s2) → o2 = .norm := by
     intro o2 s2 h2
     cases x <;> simp only [isReg, fet] at hreg
     case skip => simp only [compC, inS_f, run, oiq, piq] at h2; exact h2.1.symm
     case region id ops draw =>
      simp only [compC, inS_f] at h2
      split at h2
      ·split at h2
       ·split at h2
        ·simp only [run, mei, piq] at h2; obtain ⟨_, _, e, _⟩ := h2; exact e.symm
        ·unfold compR at h2
         split at h2
         ·simp only [run, mei, piq] at h2; obtain ⟨_, _, e, _⟩ := h2; exact e.symm
         ·simp [run] at h2
       ·simp only [run, mei, piq] at h2; obtain ⟨_, _, e, _⟩ := h2; exact e.symm
      ·simp [run] at h2
    have := hnorm o s' h
    subst this
    exact hne s' h
 | .skip, an, s, o, s', h => by simp [compC, inS_t, run] at h
 | .region .., an, s, o, s', h => by simp [compC, inS_t, run] at h
 | .cond .., an, s, o, s', h => by simp [compC, inS_t, run] at h
 | .block .., an, s, o, s', h => by simp [compC, inS_t, run] at h
 | .loop .., an, s, o, s', h => by simp [compC, inS_t, run] at h
 | .rangeFunc .., an, s, o, s', h => by simp [compC, inS_t, run] at h
 | .scope _, an, s, o, s', h => by simp [compC, inS_t, run] at h
 | .label _, an, s, o, s', h => by simp [compC, inS_t, run] at h
 | .goto _, an, s, o, s', h => by simp [compC, inS_t, run] at h
 | .exit _, an, s, o, s', h => by simp [compC, inS_t, run] at h
 | .ret, an, s, o, s', h => by simp [compC, inS_t, run] at h
 | .refuse _, an, s, o, s', h => by simp [compC, inS_t, run] at h
end
theorem loopS_run (hE : Sound P C E) {L : IC → St → Option (Out × St)} (hL : LoopS P C E.gl L) (hB : LabS P C E.gl L) (hC : C = Good P) : LoopS P C E.gl (run E L) := by
 intro n live b s o s' h shf c an an' hc
 simp only [run] at h
 have hb : b = (compC P shf c an).1 := by rw [hc]
 split at h
 ·rename_i s1 h1
  obtain ⟨m, hm⟩ := hL _ _ _ _ _ _ h shf c an an' hc
  refine ⟨m + 1, fun rd en g0 g a w0 w hro hs he hn Q hQ => ?_⟩
  obtain ⟨g1, hs1, he1⟩ := trim_sound hs he n hn live
  rw [roundsIn_succ]
  rw [hb] at h1
  refine run_sound hE hL hB hC c an _ .norm s1 h1 rd en g0 g1 a w0 w hro hs1 he1 _ ?_
  intro e a' w' g' k1 k2 k3
  rw [exitR_norm k1]
  exact hm rd en g0 g' a' w0 w' hro k3 k2 hn Q hQ
 ·rename_i hne
  have hne' : o ≠ .norm := fun e => hne s' (by rw [h, e])
  refine ⟨1, fun rd en g0 g a w0 w hro hs he hn Q hQ => ?_⟩
  obtain ⟨g1, hs1, he1⟩ := trim_sound hs he n hn live
  rw [roundsIn_succ]
  rw [hb] at h
  refine run_sound hE hL hB hC c an _ o s' h rd en g0 g1 a w0 w hro hs1 he1 _ ?_
  intro e a' w' g' k1 k2 k3
  have := hQ e a' w' g' k1 k2 k3
  cases e with
  | normal => cases o <;> first | (exact absurd rfl hne') | (exact k1.elim)
  | _ => exact this
theorem labS_run (hE : Sound P C E) {L : IC → St → Option (Out × St)} (hL : LoopS P C E.gl L) (hB : LabS P C E.gl L) (hC : C = Good P) : LabS P C E.gl (run E L) := by
 intro n live l x s o s' h shf c an an' hc
 simp only [run] at h
 have hb : x = (compC P shf c an).1 := by rw [hc]
 split at h
 ·rename_i s1 h1
  obtain ⟨o1, h2, h3⟩ := labB_run h1
  obtain ⟨m, hm⟩ := hB _ _ _ _ _ _ _ h shf c an an' hc
  refine ⟨m + 1, fun rd en g0 g a w0 w hro hs he hn Q hQ => ?_⟩
  obtain ⟨g1, hs1, he1⟩ := trim_sound hs he n hn live
  rw [hb] at h2
  show c.wpIn (FW rd) 0 P (Exit.jumpT l (JR (FW rd) P l c Q m) Q) a w
  refine lab_round (shf := shf) (an := an) (l := l) (o := o) (s' := s') (g0 := g0) (w0 := w0) (run_sound hE hL hB hC c an _ o1 s1 h2) hro hs1 he1 ?_ (fun hne => absurd h3.symm hne) (fun hne => absurd h3.symm hne)
  intro _ a' w' g' k2 k3
  exact hm rd en g0 g' a' w0 w' hro k3 k2 hn Q hQ
 ·rename_i hne
  obtain ⟨o1, h2, h3⟩ := labB_run h
  have hno : labO l o1 ≠ .norm := fun e => hne s' (by rw [h, h3, e])
  refine ⟨1, fun rd en g0 g a w0 w hro hs he hn Q hQ => ?_⟩
  obtain ⟨g1, hs1, he1⟩ := trim_sound hs he n hn live
  rw [hb] at h2
  show c.wpIn (FW rd) 0 P (Exit.jumpT l (JR (FW rd) P l c Q 0) Q) a w
  exact lab_round (shf := shf) (an := an) (l := l) (o := o) (s' := s') (g0 := g0) (w0 := w0) (run_sound hE hL hB hC c an _ o1 s' h2) hro hs1 he1 (fun e => absurd e hno) (fun _ _ _ e a2 w2 g2 l1 l2 l3 => hQ e a2 w2 g2 l1 l2 l3) (fun _ => ⟨h3, rfl⟩)
end
mutual
def purA (h : List AB) : AV → Option AV
 | .p x => some (.p x)
 | .ro xs => some (.ro xs)
 | .anye => some .anye
 | .agg xs => (purAs h xs).map .agg
 | .tup xs => (purAs h xs).map .tup
 | .fn f xs => (purAs h xs).map (.fn f)
 | .ptr b off => match h[b]? with
  | some (.cells _ xs) => (mapO (purP h 20000) (xs.drop off)).map .ro
  | _ => none
 | .sl b g s o l => (purP h 20000 (.sl b g s o l)).map .p
 | _ => none
def purAs (h : List AB) : List AV → Option (List AV)
 | [] => some []
 | x :: xs => match purA h x, purAs h xs with
  | some y, some ys => some (y :: ys)
  | _, _ => none
end
mutual
def flat : AV → Bool
 | .p (.val _) => true
 | .agg xs => flats xs
 | .tup xs => flats xs
 | .fn _ xs => flats xs
 | _ => false
def flats : List AV → Bool
 | [] => true
 | x :: xs => flat x && flats xs
end
mutual
def nols : AV → Bool
 | .p (.val _) => true
 | .p (.lst _ []) => true
 | .p (.lst _ (_ :: _)) => false
 | .p (.lsx _ _ _) => false
 | .ro _ => false
 | .agg xs => nolss xs
 | .tup xs => nolss xs
 | .fn _ xs => nolss xs
 | _ => true
def nolss : List AV → Bool
 | [] => true
 | x :: xs => nols x && nolss xs
end
def nolsB : AB → Bool
 | .cells _ xs => nolss xs
 | .row _ _ _ rows => rows.all nolss
 | .dead => true
 | .hole => true
 | _ => false
def qH (h : List AB) : List AB := h.map fun b => if nolsB b then b else .dead
def resOf (s : St) : List IRes → Option (List AV)
 | [] => some []
 | .tmp t :: rs => (resOf s rs).map (getT s.f t :: ·)
 | .cell t b n :: rs => match (loadA s.h n (getT s.f t)).bind (oneOr b), resOf s rs with
  | some v, some vs => some (v :: vs)
  | _, _ => none
def packR : List AV → AV
 | [v] => v
 | vs => .tup vs
structure Prg where
 fn : Nat → Option IFun
 gl : Nat → Option (List PV)
 prim : Nat → List AV → List AB → Option (AV × List AB)
 fr : Nat → Bool
def callB (ev : IC → St → Option (Out × St)) (F : IFun) (args : List AV) (h : List AB) : Option (AV × List AB) :=
 match ev F.code ⟨args ++ List.replicate (F.ntmps - args.length) ud, h⟩ with
 | some (.ret, s) => (resOf s F.results).map fun vs => (packR vs, s.h)
 | some (.norm, s) => (resOf s F.results).map fun vs => (packR vs, s.h)
 | _ => none
def frmR (m : Nat) (args : List AV) (h : List AB) (r : AV × List AB) : Option (AV × List AB) := if okF m args h r = true then some (r.1, r.2.take m ++ h.drop m) else none
def callS (p : Prg) (ev : IC → St → Option (Out × St)) (fn : Nat) (args : List AV) (h : List AB) : Option (AV × List AB) :=
 match p.fn fn with
 | none => p.prim fn args h
 | some F => match p.fr fn with
  | false => callB ev F args h
  | true => (callB ev F args (h.take (topB args))).bind (frmR (topB args) args h)
def callP (p : Prg) (ev : IC → St → Option (Out × St)) (fn : Nat) (args : List AV) (h : List AB) : Option AV :=
 if AV.pure.pures args then
  match callS p ev fn args [] with
  | some (v, h') => purA h' v
  | none => none
 else
  match purAs h args with
  | some args' => match callS p ev fn args' [] with
   | some (v, h') => if flat v then some v else if nols v then purA (qH h') v else none
   | none => none
  | none => none
def setPs (f : List AV) : List Nat → List AV → List AV
 | p :: ps, x :: xs => setPs (f.set p x) ps xs
 | _, _ => f
def endY (o : Out) (b : Nat) (h : List AB) : Option (AV × List AB) :=
 match h[b]? with
 | some (.loop _ _ ps f ia ib) => match o with
  | .norm => some (vb true, h.set b (.loop 0 none ps f ia ib))
  | .ret => some (vb false, h.set b (.loop 2 (some none) ps f ia ib))
  | .brk id => if id < 1000000 then some (vb false, h.set b (.loop 2 (some (some id)) ps f ia ib)) else none
 | _ => none
def callY (ev : IC → St → Option (Out × St)) (b : Nat) (args : List AV) (h : List AB) : Option (AV × List AB) :=
 match h[b]? with
 | some (.loop 0 none ps f ia ib) =>
  if args.length = ps.length then
   match ev ia ⟨setPs f ps args, h⟩ with
   | some (.norm, s1) => match s1.h[b]? with
    | some (.loop 0 none ps1 f1 ia1 ib1) => match ev ib ⟨s1.f, s1.h.set b (.loop 1 none ps1 f1 ia1 ib1)⟩ with
     | some r => endY r.1 b r.2.h
     | none => none
    | _ => none
   | _ => none
  else none
 | _ => none
theorem callP_pureI (p : Prg) (ev : IC → St → Option (Out × St)) (fn : Nat) (args : List AV) (h h2 : List AB) (hp : AV.pure.pures args = true) : callP p ev fn args h = callP p ev fn args h2 := by
 unfold callP
 rw [if_pos hp, if_pos hp]
def envOf (p : Prg) (ev : IC → St → Option (Out × St)) : Env := ⟨p.gl, callP p ev, callS p ev, callY ev, callP_pureI p ev⟩
def evalN (p : Prg) : Nat → IC → St → Option (Out × St)
 | 0 => fun _ _ => none
 | n + 1 => run (envOf p (evalN p n)) (evalN p n)
def compRes (P : Program) : List ResultVar → Option (List IRes)
 | [] => some []
 | .tmp t :: rs => (compRes P rs).map (.tmp t :: ·)
 | .cell a t :: rs => match aggT P t, szT P t, compRes P rs with
  | some b, some s, some l => some (.cell a b (if b then s else 1) :: l)
  | _, _, _ => none
def compFn (P : Program) (shf : Operand → Bool) (ann : List (List Nat)) (fd : Func) : Option IFun :=
 match fd.body, compRes P fd.results.toList with
 | some c, some rs => if fd.name == "runtime.NumGoroutine" then none else some ⟨fd.ntmps, rs, (compC P shf c ann).1⟩
 | _, _ => none
structure PrgOk (P : Program) (p : Prg) : Prop where
 fn : ∀ f F, p.fn f = some F → ∃ shf fd ann, P.funcs[f]? = some fd ∧ compFn P shf ann fd = some F
 prim : ∀ f args h v h', p.prim f args h = some (v, h') → CallR P (Good P) p.gl f args h v h'
section
variable {P : Program} {C : IC → Code → Prop} {gl : Nat → Option (List PV)} {en : Nat}
theorem loadA_rel' {s : St} {g : G} {a : Act} {w : World} (hs : SR P C gl en s g a w) {t n : Nat} {cs : List AV} (hx : loadA s.h n (getT s.f t) = some cs) :
  ∃ b off vs, a.tmps.getD t undef = .pointer (some ⟨b, off, none⟩) ∧ (∀ j v, vs[j]? = some v → w.cell? ⟨b, off + j, none⟩ = some v) ∧ vs.length = n ∧ VRs g w cs vs := by
 obtain ⟨b, off, vs, h1, h2, h3, h4⟩ := loadA_rel hs.c (x := .tmp t) (n := n) (cs := cs) (by simpa [opd, Opd.ev] using hx)
 exact ⟨b, off, vs, by simpa [Act.eval] using h1, h2, h3, h4⟩
def resSem (tmps : Array Value) : ResultVar → Sem Value
 | .tmp t => pure (tmps.getD t undef)
 | .cell b t => do loadVar t (← asAddr (tmps.getD b undef))
theorem results_eq (fd : Func) (tmps : Array Value) : results fd tmps = (fd.results.mapM (resSem tmps) >>= fun vs => pure (if h : vs.size = 1 then vs[0] else .tuple vs)) := by
 unfold results
 have : (fun x : ResultVar => (match x with
  | .tmp t => pure (tmps.getD t undef)
  | .cell b t => do loadVar t (← asAddr (tmps.getD b undef)) : Sem Value)) = resSem tmps := by
  funext x
  cases x <;> rfl
 rw [← this]
 rfl
theorem res_rel {s : St} {g : G} {a : Act} {w : World} (hs : SR P C gl en s g a w) : ∀ (rvs : List ResultVar) (rs : List IRes) (vs : List AV), compRes P rvs = some rs → resOf s rs = some vs →
  ∃ us : List Value, (rvs.mapM (resSem a.tmps)).run P w = .ok us w ∧ VRs g w vs us
 | [], rs, vs, hc, hr => by
  simp only [compRes, oiq] at hc
  subst hc
  simp only [resOf, oiq] at hr
  subst hr
  exact ⟨[], by simp, by simp [VRs]⟩
 | .tmp t :: rvs, rs, vs, hc, hr => by
  simp only [compRes, mei] at hc
  obtain ⟨l, hl, rfl⟩ := hc
  simp only [resOf, mei] at hr
  obtain ⟨us', hu, rfl⟩ := hr
  obtain ⟨us, h1, h2⟩ := res_rel hs rvs l us' hl hu
  refine ⟨a.tmps.getD t undef :: us, ?_, ?_⟩
  ·simp only [List.mapM_cons, resSem, Sem.run_bind, Sem.run_pure, Result.andThen_ok]
   rw [h1]
   rfl
  ·simp only [VRs]
   exact ⟨by have := hs.c.opd (.tmp t); simpa [opd, Opd.ev, Act.eval] using this, h2⟩
 | .cell b t :: rvs, rs, vs, hc, hr => by
  simp only [compRes] at hc
  split at hc
  ·rename_i ag n l hag hn hl
   simp only [oiq] at hc
   subst hc
   simp only [resOf] at hr
   split at hr
   ·rename_i v us' hv hu
    simp only [oiq] at hr
    subst hr
    obtain ⟨us, h1, h2⟩ := res_rel hs rvs l us' hl hu
    simp only [bei] at hv
    obtain ⟨cs, hcs, hone⟩ := hv
    obtain ⟨bb, off, xs, k1, k2, k3, k4⟩ := loadA_rel' hs hcs
    have hload : ∃ u, (loadVar t ⟨bb, off, none⟩).run P w = .ok u w ∧ VR g w v u := by
     rcases oneOr_rel k4 hone with ⟨rfl, hr⟩ | ⟨rfl, u, rfl, hr⟩
     ·refine ⟨.agg xs.toArray, ?_, hr⟩
      have h2' := run_cells (P := P) k2
      rw [k3] at h2'
      simp only [if_true] at h2'
      simp [loadVar, run_aggT hag, run_szT hn, h2']
     ·refine ⟨u, ?_, hr⟩
      have hcell : w.cell? ⟨bb, off, none⟩ = some u := k2 0 u rfl
      simp [loadVar, run_aggT hag, hcell]
    obtain ⟨u, hu1, hu2⟩ := hload
    refine ⟨u :: us, ?_, ?_⟩
    ·have hA : (asAddr (a.tmps.getD b undef)).run P w = .ok ⟨bb, off, none⟩ w := by rw [k1]; rfl
     simp only [List.mapM_cons, resSem, Sem.run_bind, hA, Sem.run_pure, Result.andThen_ok, hu1]
     rw [h1]
     rfl
    ·simp only [VRs]
     exact ⟨hu2, h2⟩
   ·cases hr
  ·cases hc
theorem results_rel {s : St} {g : G} {a : Act} {w : World} (hs : SR P C gl en s g a w) {fd : Func} {rs : List IRes} {vs : List AV} (hc : compRes P fd.results.toList = some rs) (hr : resOf s rs = some vs) :
  ∃ x, (results fd a.tmps).run P w = .ok x w ∧ VR g w (packR vs) x := by
 obtain ⟨us, h1, h2⟩ := res_rel hs fd.results.toList rs vs hc hr
 have hrun : (results fd a.tmps).run P w = .ok (if h : us.toArray.size = 1 then us.toArray[0] else .tuple us.toArray) w := by
  rw [results_eq, Array.mapM_eq_mapM_toList]
  simp only [Sem.run_bind, Sem.run_map, h1, Result.andThen_ok, Sem.run_pure]
 refine ⟨_, hrun, ?_⟩
 cases vs with
 | nil =>
  cases us with
  | nil => simp only [packR, VR]; exact ⟨#[], by simp, by simp [VRs]⟩
  | cons _ _ => simp [VRs] at h2
 | cons v vs =>
  cases us with
  | nil => simp [VRs] at h2
  | cons u us =>
   cases vs with
   | nil =>
    cases us with
    | nil => simp only [VRs] at h2; simpa [packR] using h2.1
    | cons _ _ => simp [VRs] at h2
   | cons v2 vs =>
    cases us with
    | nil => simp [VRs] at h2
    | cons u2 us => simp only [packR, VR]; exact ⟨(u :: u2 :: us).toArray, by simp, by simpa using h2⟩
theorem marks_leave {fd : Func} {tmps : Array Value} {rs : List IRes} {vs : List AV} {g : G} {w : World} {en : Nat} (hen : ∀ c, g.Pr c → c < en) {s : St} (hc : compRes P fd.results.toList = some rs) (hr : resOf s rs = some vs) :
  ∀ (ds : List Deferred) (g' : G) (w' : World) (a : Act), a.tmps = tmps → Ext g w g' w' → Ctx P gl a s.f g' s.h w' → (∀ d ∈ ds, MarkR en g' w' d) → ds.Nodup →
   LeavesInM (FW none) 0 P fd tmps (fun e w' => ∃ x g', e = .returned x ∧ Ext g w g' w' ∧ HR g' s.h w' ∧ VR g' w' (packR vs) x) ds .returning w'
 | [], g', w', a, ha, he, hx, _, _ => by
  obtain ⟨x, hx1, hx2⟩ := results_rel (en := 0) (g := g') (a := { a with defers := [] }) (w := w') ⟨⟨hx.gr, hx.hr, hx.fr⟩, by simp, by simp, Nat.zero_le _, rfl⟩ hc hr
  subst ha
  exact ⟨x, hx1, x, g', rfl, he, hx.hr, hx2⟩
 | d :: ds, g', w', a, ha, he, hx, hm, hn => by
  obtain ⟨D, rfl, m1, m2, m3, m4⟩ := hm d (by simp)
  refine ⟨by simp, .inl ⟨D, w'.putObj D (.deferred none), rfl, run_takeDeferred m4, ?_⟩⟩
  have hh := hx.hr
  have hold : ∀ c, c ≠ D → (w'.putObj D (.deferred none)).heap[c]? = w'.heap[c]? := fun c hc => World.putObj_heap_other hc
  have hr1 : HR { g' with Pr := fun c => g'.Pr c ∧ c ≠ D } s.h w' :=
   ⟨hh.n, fun b x hb => BR_pr (hh.br b x hb), hh.dis, fun b x c h1 h2 h3 => hh.own b x c h1 h2 h3.1, fun c hS => ⟨hh.spr c hS, fun e => m3 (e ▸ hS)⟩, fun c h => hh.prs c h.1, hh.ho⟩
  have e1 : Ext { g' with Pr := fun c => g'.Pr c ∧ c ≠ D } w' { g' with Pr := fun c => g'.Pr c ∧ c ≠ D } (w'.putObj D (.deferred none)) :=
   ⟨fun _ h => h, fun _ h => h, fun c hc => hold c hc.2, Nat.le_refl _, fun _ h => h, fun _ _ => rfl, fun _ _ => Nat.le_refl _, fun _ _ _ _ => rfl, by simp, rfl, rfl, rfl, fun _ h => .inl h, rfl, by first | assumption | exact fun _ => (by first | assumption | exact Nat.le_refl _ | exact Nat.le_succ _)⟩
  have hr2 : HR { g' with Pr := fun c => g'.Pr c ∧ c ≠ D } s.h (w'.putObj D (.deferred none)) :=
   ⟨hr1.n, fun b x hb => BR_mono hr1 e1 hb rfl (fun c hc => hold c (fun e => hh.own b x c hb (by cases x <;> exact hc) (e ▸ m2))), hr1.dis, hr1.own, hr1.spr, fun c hc => by have := hr1.prs c hc; simpa using this, hr1.ho⟩
  have hf1 : VRs { g' with Pr := fun c => g'.Pr c ∧ c ≠ D } w' s.f a.tmps.toList := VRs_pr _ _ hx.fr
  refine marks_leave hen hc hr ds { g' with Pr := fun c => g'.Pr c ∧ c ≠ D } _ a ha ?_ ⟨GR_mono e1 hr1.spr hx.gr, hr2, VRs_mono e1 hr1.spr _ _ hf1⟩ ?_ (List.nodup_cons.1 hn).2
  ·exact ⟨he.S, fun c hc => ⟨he.Pr c hc, fun e => by have := hen c hc; omega⟩, fun c hc => (hold c (fun e => by have := hen c hc; omega)).trans (he.pr c hc), he.N, he.D, he.m, he.gen, he.hd, by simpa using he.size, he.os, he.tape, he.output, he.Sn, he.cr, he.drawn⟩
  ·intro d' hd'
   obtain ⟨D', rfl, n1, n2, n3, n4⟩ := hm d' (by simp [hd'])
   have hne : D' ≠ D := fun e => by subst e; exact (List.nodup_cons.1 hn).1 hd'
   exact ⟨D', rfl, n1, ⟨n2, hne⟩, n3, (hold D' hne).trans n4⟩
theorem callB_sound {p : Prg} (hp : PrgOk P p) {ev : IC → St → Option (Out × St)}
  (hev : ∀ (shf : Operand → Bool) (c : Code) (an : List (List Nat)) (s : St) (o : Out) (s' : St), ev (compC P shf c an).1 s = some (o, s') → CodeR P (Good P) p.gl (fun rd => noR c = true ∨ rd = none) (fun rd Q => c.wpIn (FW rd) 0 P Q) s o s')
  {fn : Nat} {F : IFun} (hF : p.fn fn = some F) {args : List AV} {h : List AB} {v : AV} {h' : List AB} (hc : callB ev F args h = some (v, h')) : CallR P (Good P) p.gl fn args h v h' := by
  unfold callB at hc
  obtain ⟨shf, fd, ann, hfd, hcomp⟩ := hp.fn fn F hF
  unfold compFn at hcomp
  split at hcomp
  ·rename_i c rs hbody hres
   split at hcomp
   ·cases hcomp
   ·rename_i hname
    simp only [oiq] at hcomp
    subst hcomp
    refine ⟨⟨fd, hfd, by simp [hbody], by simpa using hname⟩, ?_⟩
    intro g w vals hcr hgr hhr hvs
    have hlen := hvs.len
    have hfr : VRs g w (args ++ List.replicate (fd.ntmps - args.length) ud) (vals.toArray ++ Array.replicate (fd.ntmps - vals.toArray.size) undef).toList := by
     simp only [Array.toList_append, Array.toList_replicate, List.size_toArray, ← hlen]
     exact hvs.append (VRs.replicate _ VR_ud)
    have hsr : SR P (Good P) p.gl w.heap.size ⟨args ++ List.replicate (fd.ntmps - args.length) ud, h⟩ g { tmps := vals.toArray ++ Array.replicate (fd.ntmps - vals.toArray.size) undef, defers := [] } w :=
     ⟨⟨hgr, hhr, hfr⟩, by simp, by simp, Nat.le_refl _, hcr⟩
    have fin : ∀ (o : Out) (s' : St), ev (compC P shf c ann).1 ⟨args ++ List.replicate (fd.ntmps - args.length) ud, h⟩ = some (o, s') → (o = .ret ∨ o = .norm) → (resOf s' rs).map (fun vs => (packR vs, s'.h)) = some (v, h') →
      Calls P fn vals.toArray w fun e w' => ∃ x g', e = .returned x ∧ Ext g w g' w' ∧ HR g' h' w' ∧ VR g' w' v x := by
     intro o s' hev' ho hr
     simp only [mei, piq] at hr
     obtain ⟨vs, hvs', rfl, rfl⟩ := hr
     refine (callsIn_wide (n := 0)).1 (callsIn_of_wp_marks (F := FW none) hfd hbody trivial (hev shf c ann _ o s' hev' none w.heap.size g g _ w w (.inr rfl) hsr (Ext.refl g w) _ ?_) rfl)
     intro e a' w' g' k1 k2 k3
     have := marks_leave (en := w.heap.size) hhr.prs hres hvs' a'.defers g' w' a' rfl k2 k3.c k3.d k3.nd
     rcases ho with rfl | rfl
     ·rw [exitR_ret k1]; exact this
     ·rw [exitR_norm k1]; exact this
    split at hc
    ·rename_i s' he; exact fin _ _ he (.inl rfl) hc
    ·rename_i s' he; exact fin _ _ he (.inr rfl) hc
    ·cases hc
  ·cases hcomp
theorem callS_sound {p : Prg} (hp : PrgOk P p) {ev : IC → St → Option (Out × St)}
  (hev : ∀ (shf : Operand → Bool) (c : Code) (an : List (List Nat)) (s : St) (o : Out) (s' : St), ev (compC P shf c an).1 s = some (o, s') → CodeR P (Good P) p.gl (fun rd => noR c = true ∨ rd = none) (fun rd Q => c.wpIn (FW rd) 0 P Q) s o s')
  {fn : Nat} {args : List AV} {h : List AB} {v : AV} {h' : List AB} (hc : callS p ev fn args h = some (v, h')) : CallR P (Good P) p.gl fn args h v h' := by
 unfold callS at hc
 cases hF : p.fn fn with
 | none => simp only [hF] at hc; exact hp.prim fn args h v h' hc
 | some F =>
  simp only [hF] at hc
  cases hm : p.fr fn with
  | false => simp only [hm] at hc; exact callB_sound hp hev hF hc
  | true =>
   simp only [hm] at hc
   obtain ⟨r, h1, h2⟩ := bei.1 hc
   obtain ⟨v1, h1'⟩ := r
   unfold frmR at h2
   split at h2
   ·rename_i hk
    simp only [oiq, piq] at h2
    obtain ⟨rfl, rfl⟩ := h2
    exact callR_frame hk (callB_sound hp hev hF h1)
   ·cases h2
mutual
theorem VR_flat {g g' : G} {w w' : World} : ∀ (x : AV) (v : Value), flat x = true → VR g w x v → VR g' w' x v
 | .p (.val u), v, _, h => by simpa only [VR, PR] using h
 | .p (.lst _ _), v, hp, h => by simp [flat] at hp
 | .p (.lsx _ _ _), v, hp, h => by simp [flat] at hp
 | .agg xs, v, hp, h => by
  simp only [VR] at h ⊢
  obtain ⟨cs, rfl, h⟩ := h
  exact ⟨cs, rfl, VRs_flat xs _ (by simpa only [flat] using hp) h⟩
 | .tup xs, v, hp, h => by
  simp only [VR] at h ⊢
  obtain ⟨cs, rfl, h⟩ := h
  exact ⟨cs, rfl, VRs_flat xs _ (by simpa only [flat] using hp) h⟩
 | .fn f xs, v, hp, h => by
  simp only [VR] at h ⊢
  obtain ⟨cs, rfl, h⟩ := h
  exact ⟨cs, rfl, VRs_flat xs _ (by simpa only [flat] using hp) h⟩
 | .ro _, _, hp, _ => by simp [flat] at hp
 | .ptr _ _, _, hp, _ => by simp [flat] at hp
 | .rp _ _ _ _ _, _, hp, _ => by simp [flat] at hp
 | .sl _ _ _ _ _, _, hp, _ => by simp [flat] at hp
 | .mp _, _, hp, _ => by simp [flat] at hp
 | .yl _, _, hp, _ => by simp [flat] at hp
 | .anyp, _, hp, _ => by simp [flat] at hp
 | .anye, _, hp, _ => by simp [flat] at hp
 | .und, _, hp, _ => by simp [flat] at hp
theorem VRs_flat {g g' : G} {w w' : World} : ∀ (xs : List AV) (vs : List Value), flats xs = true → VRs g w xs vs → VRs g' w' xs vs
 | [], [], _, _ => by simp [VRs]
 | x :: xs, v :: vs, hp, h => by
  simp only [flats, aet] at hp
  simp only [VRs] at h ⊢
  exact ⟨VR_flat x v hp.1 h.1, VRs_flat xs vs hp.2 h.2⟩
 | [], _ :: _, _, h => by simp [VRs] at h
 | _ :: _, [], _, h => by simp [VRs] at h
end
mutual
theorem purA_rel {g : G} {h : List AB} {w : World} (hr : HR g h w) {g' : G} (hS : ∀ c, g.S c → g'.S c) (hO : ∀ c, c < w.heap.size → ¬ g.Pr c → g'.S c) : ∀ (x : AV) (v : Value) (y : AV), purA h x = some y → VR g w x v → VR g' w y v
 | .p x, v, y, hp, hv => by
  simp only [purA, oiq] at hp; subst hp
  exact VR_pure hS _ v rfl hv
 | .ro xs, v, y, hp, hv => by
  simp only [purA, oiq] at hp; subst hp
  exact VR_pure hS _ v rfl hv
 | .agg xs, v, y, hp, hv => by
  simp only [purA, mei] at hp
  obtain ⟨ys, hm, rfl⟩ := hp
  simp only [VR] at hv ⊢
  obtain ⟨cs, rfl, hv⟩ := hv
  exact ⟨cs, rfl, purAs_rel hr hS hO xs _ ys hm hv⟩
 | .tup xs, v, y, hp, hv => by
  simp only [purA, mei] at hp
  obtain ⟨ys, hm, rfl⟩ := hp
  simp only [VR] at hv ⊢
  obtain ⟨cs, rfl, hv⟩ := hv
  exact ⟨cs, rfl, purAs_rel hr hS hO xs _ ys hm hv⟩
 | .fn f xs, v, y, hp, hv => by
  simp only [purA, mei] at hp
  obtain ⟨ys, hm, rfl⟩ := hp
  simp only [VR] at hv ⊢
  obtain ⟨cs, rfl, hv⟩ := hv
  exact ⟨cs, rfl, purAs_rel hr hS hO xs _ ys hm hv⟩
 | .ptr b off, v, y, hp, hv => by
  simp only [purA] at hp
  split at hp
  ·rename_i xs hb
   simp only [mei] at hp
   obtain ⟨ys, hm, rfl⟩ := hp
   simp only [VR] at hv ⊢
   obtain ⟨_, rfl⟩ := hv
   have hbr := hr.br b _ hb
   simp only [BR] at hbr
   obtain ⟨cs, fz, k1, _, k3⟩ := hbr
   have hvc : VRc g w (xs.drop off) (cs.toList.drop off) := ⟨k3.1.drop off, fun u hu => k3.2 u (List.mem_of_mem_drop hu)⟩
   obtain ⟨n1, _⟩ := purS (fun x v y => purP_rel hr hS hO 20000 x v y) (c := g.m b) _ ys _ off hm hvc (fun j u hj => by
    rw [List.getElem?_drop] at hj
    simp only [World.cell?, k1]
    simpa using hj)
   exact ⟨g.m b, off, rfl, hO _ (cid_lt hr hb rfl) (hr.own b _ _ hb rfl), n1⟩
  ·cases hp
 | .sl b ge s o l, v, y, hp, hv => by
  simp only [purA, mei] at hp
  obtain ⟨z, hm, rfl⟩ := hp
  have := purP_rel hr hS hO 20000 _ v z hm hv
  simpa only [VR] using this
 | .rp _ _ _ _ _, _, _, hp, _ => by simp [purA] at hp
 | .mp _, _, _, hp, _ => by simp [purA] at hp
 | .yl _, _, _, hp, _ => by simp [purA] at hp
 | .anyp, _, _, hp, _ => by simp [purA] at hp
 | .anye, v, y, hp, hv => by
  simp only [purA, oiq] at hp; subst hp
  simpa only [VR] using hv
 | .und, _, _, hp, _ => by simp [purA] at hp
theorem purAs_rel {g : G} {h : List AB} {w : World} (hr : HR g h w) {g' : G} (hS : ∀ c, g.S c → g'.S c) (hO : ∀ c, c < w.heap.size → ¬ g.Pr c → g'.S c) : ∀ (xs : List AV) (vs : List Value) (ys : List AV), purAs h xs = some ys → VRs g w xs vs → VRs g' w ys vs
 | [], vs, ys, hp, hv => by
  simp only [purAs, oiq] at hp; subst hp
  cases vs with
  | nil => simp [VRs]
  | cons _ _ => simp [VRs] at hv
 | x :: xs, vs, ys, hp, hv => by
  simp only [purAs] at hp
  split at hp
  ·rename_i y ys' h1 h2
   simp only [oiq] at hp; subst hp
   cases vs with
   | nil => simp [VRs] at hv
   | cons v vs =>
    simp only [VRs] at hv ⊢
    exact ⟨purA_rel hr hS hO x v y h1 hv.1, purAs_rel hr hS hO xs vs ys' h2 hv.2⟩
  ·cases hp
end
theorem HR.after {g g1 : G} {h : List AB} {w w1 : World} (hr : HR g h w) {S0 : Nat → Prop} (h1 : Ext { g with S := S0, Pr := fun c => c < w.heap.size, N := 0, Ho := fun _ => False } w g1 w1) (Sx : Nat → Prop) (hSx : ∀ c, Sx c → w.heap.size ≤ c ∧ c < w1.heap.size) :
  Ext g w { g with S := fun c => g.S c ∨ Sx c, Pr := fun c => g.Pr c ∨ Sx c } w1 ∧ HR { g with S := fun c => g.S c ∨ Sx c, Pr := fun c => g.Pr c ∨ Sx c } h w1 := by
 have hold : ∀ c, c < w.heap.size → w1.heap[c]? = w.heap[c]? := fun c hc => h1.pr c hc
 have he : Ext g w { g with S := fun c => g.S c ∨ Sx c, Pr := fun c => g.Pr c ∨ Sx c } w1 :=
  ⟨fun c hc => .inl hc, fun c hc => .inl hc, fun c hc => hold c (hr.prs c hc), Nat.le_refl _, fun _ h => h, fun _ _ => rfl, fun _ _ => Nat.le_refl _, fun _ _ _ _ => rfl, h1.size, h1.os, h1.tape, h1.output,
    fun c hc => hc.elim .inl (fun h => .inr (fun hp => by have := (hSx c h).1; have := hr.prs c hp; omega)), rfl, h1.drawn⟩
 have hcid : ∀ b x, cid { g with S := fun c => g.S c ∨ Sx c, Pr := fun c => g.Pr c ∨ Sx c } b x = cid g b x := fun b x => by cases x <;> rfl
 refine ⟨he, ⟨hr.n, fun b x hb => BR_mono hr he hb rfl (fun c hc => hold c (cid_lt hr hb hc)), ?_, ?_, ?_, ?_, hr.ho⟩⟩
 ·intro b b' x x' c k1 k2 k3 k4
  rw [hcid] at k3 k4
  exact hr.dis b b' x x' c k1 k2 k3 k4
 ·intro b x c k1 k2
  rw [hcid] at k2
  rintro (k3 | k3)
  ·exact hr.own b x c k1 k2 k3
  ·have := cid_lt hr k1 k2
   have := (hSx c k3).1
   omega
 ·rintro c (k | k)
  ·exact .inl (hr.spr c k)
  ·exact .inr k
 ·rintro c (k | k)
  ·exact Nat.lt_of_lt_of_le (hr.prs c k) h1.size
  ·exact (hSx c k).2
mutual
theorem VR_nols {g : G} {w : World} : ∀ (x : AV) (v : Value), nols x = true → VR g w x v → VR { g with S := fun _ => False } w x v
 | .p (.val u), v, _, h => by simpa only [VR, PR] using h
 | .p (.lst _ []), v, _, h => by
  simp only [VR, PR] at h ⊢
  obtain ⟨A, cap, h1, h2, h3, _⟩ := h
  exact ⟨A, cap, h1, h2, h3, .inl rfl⟩
 | .p (.lst _ (_ :: _)), v, hp, h => by simp [nols] at hp
 | .p (.lsx _ _ _), v, hp, h => by simp [nols] at hp
 | .ro _, _, hp, _ => by simp [nols] at hp
 | .agg xs, v, hp, h => by
  simp only [VR] at h ⊢
  obtain ⟨cs, rfl, h⟩ := h
  exact ⟨cs, rfl, VRs_nols xs _ (by simpa only [nols] using hp) h⟩
 | .tup xs, v, hp, h => by
  simp only [VR] at h ⊢
  obtain ⟨cs, rfl, h⟩ := h
  exact ⟨cs, rfl, VRs_nols xs _ (by simpa only [nols] using hp) h⟩
 | .fn f xs, v, hp, h => by
  simp only [VR] at h ⊢
  obtain ⟨cs, rfl, h⟩ := h
  exact ⟨cs, rfl, VRs_nols xs _ (by simpa only [nols] using hp) h⟩
 | .ptr _ _, _, _, h => h
 | .rp _ _ _ _ _, _, _, h => h
 | .sl _ _ _ _ _, _, _, h => h
 | .mp _, _, _, h => h
 | .yl _, _, _, h => h
 | .anyp, _, _, h => h
 | .anye, _, _, h => h
 | .und, _, _, h => h
theorem VRs_nols {g : G} {w : World} : ∀ (xs : List AV) (vs : List Value), nolss xs = true → VRs g w xs vs → VRs { g with S := fun _ => False } w xs vs
 | [], [], _, _ => by simp [VRs]
 | x :: xs, v :: vs, hp, h => by
  simp only [nolss, aet] at hp
  simp only [VRs] at h ⊢
  exact ⟨VR_nols x v hp.1 h.1, VRs_nols xs vs hp.2 h.2⟩
 | [], _ :: _, _, h => by simp [VRs] at h
 | _ :: _, [], _, h => by simp [VRs] at h
end
theorem nolss_flat : ∀ (rows : List (List AV)), rows.all nolss = true → nolss rows.flatten = true
 | [], _ => rfl
 | r :: rs, h => by
  simp only [List.all_cons, aet] at h
  have app : ∀ (xs ys : List AV), nolss xs = true → nolss ys = true → nolss (xs ++ ys) = true := by
   intro xs
   induction xs with
   | nil => intro ys _ h; exact h
   | cons x xs ih => intro ys h1 h2; simp only [nolss, aet, List.cons_append] at h1 ⊢; exact ⟨h1.1, ih ys h1.2 h2⟩
  exact app r _ h.1 (nolss_flat rs h.2)
theorem HR_nols {g : G} {h : List AB} {w : World} (hr : HR g h w) : HR { g with S := fun _ => False } (qH h) w := by
 have hget : ∀ (b : Nat) (x : AB), (qH h)[b]? = some x → (h[b]? = some x ∧ nolsB x = true) ∨ x = .dead := by
  intro b x hb
  unfold qH at hb
  rw [List.getElem?_map, mei] at hb
  obtain ⟨y, h1, h2⟩ := hb
  split at h2
  ·rename_i hn; subst h2; exact .inl ⟨h1, hn⟩
  ·exact .inr h2.symm
 have hcid : ∀ b x, cid { g with S := fun _ => False } b x = cid g b x := fun b x => by cases x <;> rfl
 refine ⟨by show g.N = _; rw [hr.n]; unfold qH; simp, ?_, ?_, ?_, fun c hc => hc.elim, hr.prs, ?_⟩
 ·intro b x hb
  rcases hget b x hb with ⟨h1, h2⟩ | rfl
  ·have hbr := hr.br b x h1
   cases x with
   | cells t xs =>
    simp only [nolsB] at h2
    simp only [BR] at hbr ⊢
    obtain ⟨cs, fz, k1, k2, k3⟩ := hbr
    exact ⟨cs, fz, k1, k2, VRs_nols _ _ h2 k3.1, k3.2⟩
   | row ty size gen rows =>
    simp only [nolsB] at h2
    simp only [BR] at hbr ⊢
    refine ⟨hbr.1, hbr.2.1, ?_⟩
    have hrow := hbr.2.2
    cases hd : g.hd b gen with
    | none => rw [hd] at hrow; exact hrow
    | some p =>
     obtain ⟨c, cap⟩ := p
     rw [hd] at hrow
     simp only [RowR] at hrow ⊢
     obtain ⟨cs, fz, k1, k2, k3, k4, k5, k6⟩ := hrow
     exact ⟨cs, fz, k1, k2, k3, k4, k5, VRs_nols _ _ (nolss_flat _ h2) k6.1, k6.2⟩
   | loop => simp [nolsB] at h2
   | map => simp [nolsB] at h2
   | frz => simp [nolsB] at h2
   | dead => simp only [BR]
   | hole => simp only [BR]
  ·simp only [BR]
 ·intro b b' x x' c hb hb' hc hc'
  rw [hcid] at hc hc'
  rcases hget b x hb with ⟨h1, _⟩ | rfl
  ·rcases hget b' x' hb' with ⟨h1', _⟩ | rfl
   ·exact hr.dis b b' x x' c h1 h1' hc hc'
   ·simp [cid] at hc'
  ·simp [cid] at hc
 ·intro b x c hb hc
  rw [hcid] at hc
  rcases hget b x hb with ⟨h1, _⟩ | rfl
  ·exact hr.own b x c h1 hc
  ·simp [cid] at hc
 ·intro b
  constructor
  ·intro hb
   have := (hr.ho b).1 hb
   unfold qH
   rw [List.getElem?_map, this]
   rfl
  ·intro hb
   rcases hget b _ hb with ⟨h1, _⟩ | h
   ·exact (hr.ho b).2 h1
   ·cases h
theorem callP_sound {p : Prg} (hp : PrgOk P p) {ev : IC → St → Option (Out × St)}
  (hev : ∀ (shf : Operand → Bool) (c : Code) (an : List (List Nat)) (s : St) (o : Out) (s' : St), ev (compC P shf c an).1 s = some (o, s') → CodeR P (Good P) p.gl (fun rd => noR c = true ∨ rd = none) (fun rd Q => c.wpIn (FW rd) 0 P Q) s o s')
  {fn : Nat} {args : List AV} {h : List AB} {v : AV} (hc : callP p ev fn args h = some v) : CallR P (Good P) p.gl fn args h v h := by
 unfold callP at hc
 split at hc
 ·rename_i hpure
  split at hc
  ·rename_i v0 h0 hcs
   obtain ⟨hfd, hcall⟩ := callS_sound hp hev hcs
   refine ⟨hfd, ?_⟩
   intro g w vals hcr hgr hhr hvs
   have hr0 : HR { g with Pr := fun c => c < w.heap.size, N := 0, Ho := fun _ => False } [] w := ⟨rfl, by simp, by simp, by simp, fun c hc => hhr.prs c (hhr.spr c hc), fun c hc => hc, by simp⟩
   have hv0 := VRs_pure (g := g) (g' := { g with Pr := fun c => c < w.heap.size, N := 0, Ho := fun _ => False }) (fun c hc => hc) args vals hpure hvs
   refine (hcall { g with Pr := fun c => c < w.heap.size, N := 0, Ho := fun _ => False } w vals hcr hgr hr0 hv0).mono ?_
   rintro e w1 ⟨x, g1, rfl, e1, r1, v1⟩
   obtain ⟨e2, r2⟩ := HR.after hhr e1 (fun c => w.heap.size ≤ c ∧ c < w1.heap.size) (fun c hc => hc)
   refine ⟨x, _, rfl, e2, r2, ?_⟩
   refine purA_rel r1 ?_ ?_ v0 x v hc v1
   ·intro c hc1
    rcases e1.Sn c hc1 with h | h
    ·exact .inl h
    ·exact .inr ⟨Nat.le_of_not_lt h, r1.prs c (r1.spr c hc1)⟩
   ·intro c hlt hnp
    rcases Nat.lt_or_ge c w.heap.size with h | h
    ·exact absurd (e1.Pr c h) hnp
    ·exact .inr ⟨h, hlt⟩
  ·cases hc
 ·split at hc
  ·rename_i args' hpa
   split at hc
   ·rename_i v0 h0 hcs
    split at hc
    ·rename_i hflat
     simp only [oiq] at hc
     subst hc
     obtain ⟨hfd, hcall⟩ := callS_sound hp hev hcs
     refine ⟨hfd, ?_⟩
     intro g w vals hcr hgr hhr hvs
     have hr0 : HR { g with S := fun c => c < w.heap.size, Pr := fun c => c < w.heap.size, N := 0, Ho := fun _ => False } [] w := ⟨rfl, by simp, by simp, by simp, fun c hc => hc, fun c hc => hc, by simp⟩
     have hS : ∀ c, g.S c → c < w.heap.size := fun c hc => hhr.prs c (hhr.spr c hc)
     have hv0 := purAs_rel hhr (g' := { g with S := fun c => c < w.heap.size, Pr := fun c => c < w.heap.size, N := 0, Ho := fun _ => False }) hS (fun c hc _ => hc) args vals args' hpa hvs
     have hgr0 : GR { g with S := fun c => c < w.heap.size, Pr := fun c => c < w.heap.size, N := 0, Ho := fun _ => False } w p.gl := fun n xs hx => ⟨hS n (hgr n xs hx).1, PRs_mono hS (fun _ _ => rfl) n (hgr n xs hx).1 0 xs (hgr n xs hx).2.1, (hgr n xs hx).2.2⟩
     refine (hcall { g with S := fun c => c < w.heap.size, Pr := fun c => c < w.heap.size, N := 0, Ho := fun _ => False } w vals hcr hgr0 hr0 hv0).mono ?_
     rintro e w1 ⟨x, g1, rfl, e1, r1, v1⟩
     obtain ⟨e2, r2⟩ := HR.after hhr e1 (fun _ => False) (fun c hc => hc.elim)
     exact ⟨x, _, rfl, e2, r2, VR_flat _ x hflat v1⟩
    split at hc
    ·rename_i hnols
     obtain ⟨hfd, hcall⟩ := callS_sound hp hev hcs
     refine ⟨hfd, ?_⟩
     intro g w vals hcr hgr hhr hvs
     have hr0 : HR { g with S := fun c => c < w.heap.size, Pr := fun c => c < w.heap.size, N := 0, Ho := fun _ => False } [] w := ⟨rfl, by simp, by simp, by simp, fun c hc => hc, fun c hc => hc, by simp⟩
     have hS : ∀ c, g.S c → c < w.heap.size := fun c hc => hhr.prs c (hhr.spr c hc)
     have hv0 := purAs_rel hhr (g' := { g with S := fun c => c < w.heap.size, Pr := fun c => c < w.heap.size, N := 0, Ho := fun _ => False }) hS (fun c hc _ => hc) args vals args' hpa hvs
     have hgr0 : GR { g with S := fun c => c < w.heap.size, Pr := fun c => c < w.heap.size, N := 0, Ho := fun _ => False } w p.gl := fun n xs hx => ⟨hS n (hgr n xs hx).1, PRs_mono hS (fun _ _ => rfl) n (hgr n xs hx).1 0 xs (hgr n xs hx).2.1, (hgr n xs hx).2.2⟩
     refine (hcall { g with S := fun c => c < w.heap.size, Pr := fun c => c < w.heap.size, N := 0, Ho := fun _ => False } w vals hcr hgr0 hr0 hv0).mono ?_
     rintro e w1 ⟨x, g1, rfl, e1, r1, v1⟩
     obtain ⟨e2, r2⟩ := HR.after hhr e1 (fun c => w.heap.size ≤ c ∧ c < w1.heap.size) (fun c hc => hc)
     refine ⟨x, _, rfl, e2, r2, ?_⟩
     refine purA_rel (HR_nols r1) (fun c hc => hc.elim) ?_ v0 x v hc (VR_nols v0 x hnols v1)
     intro c hlt hnp
     rcases Nat.lt_or_ge c w.heap.size with h | h
     ·exact absurd (e1.Pr c h) hnp
     ·exact .inr ⟨h, hlt⟩
    ·cases hc
   ·cases hc
  ·cases hc
theorem setPs_rel {g : G} {w : World} : ∀ (ps : List Nat) (f args : List AV) (tmps vals : List Value), VRs g w f tmps → VRs g w args vals → args.length = ps.length →
  VRs g w (setPs f ps args) ((ps.zip vals).foldl (fun tmps (t, a) => tmps.set t a) tmps)
 | [], f, args, tmps, vals, h1, _, _ => by cases args <;> simpa [setPs] using h1
 | p :: ps, f, [], tmps, vals, _, _, hl => by simp at hl
 | p :: ps, f, x :: xs, tmps, [], _, h2, _ => by simp [VRs] at h2
 | p :: ps, f, x :: xs, tmps, v :: vs, h1, h2, hl => by
  simp only [VRs] at h2
  simp only [setPs, List.zip_cons_cons, List.foldl_cons]
  exact setPs_rel ps _ xs _ vs (h1.set h2.1) h2.2 (by simpa using hl)
theorem foldl_setIf : ∀ (l : List (Nat × Value)) (t : Array Value), (l.foldl (fun tmps (t, a) => tmps.setIfInBounds t a) t).toList = l.foldl (fun tmps (t, a) => tmps.set t a) t.toList
 | [], _ => rfl
 | (i, x) :: l, t => by simp only [List.foldl_cons]; rw [foldl_setIf l]; simp [Array.toList_setIfInBounds]
theorem HR.reloop {g : G} {h : List AB} {w : World} (hr : HR g h w) {b st : Nat} {pend : Option (Option Nat)} {ps : List Nat} {f : List AV} {ia ib : IC} (hb : h[b]? = some (.loop st pend ps f ia ib)) {rec : Loop} (hrec : w.heap[g.m b]? = some (.loop rec))
  (st' : Nat) (pend' : Option (Option Nat)) :
  Ext g w g (w.putObj (g.m b) (.loop { rec with state := stOf st', pending := pendOf pend' })) ∧ HR g (h.set b (.loop st' pend' ps f ia ib)) (w.putObj (g.m b) (.loop { rec with state := stOf st', pending := pendOf pend' })) := by
 have hcid : cid g b (.loop st pend ps f ia ib) = some (g.m b) := rfl
 have hold : ∀ c, c ≠ g.m b → (w.putObj (g.m b) (.loop { rec with state := stOf st', pending := pendOf pend' })).heap[c]? = w.heap[c]? := fun c hc => World.putObj_heap_other hc
 have e : Ext g w g (w.putObj (g.m b) (.loop { rec with state := stOf st', pending := pendOf pend' })) :=
  ⟨fun _ h => h, fun _ h => h, fun c hc => hold c (fun e => hr.own _ _ _ hb hcid (e ▸ hc)), Nat.le_refl _, fun _ h => h, fun _ _ => rfl, fun _ _ => Nat.le_refl _, fun _ _ _ _ => rfl, by simp, rfl, rfl, rfl, fun _ h => .inl h, rfl, by first | assumption | exact fun _ => (by first | assumption | exact Nat.le_refl _ | exact Nat.le_succ _)⟩
 have hl : LoopR g w st pend ps f ia ib rec := by
  have := hr.br b _ hb
  simp only [BR] at this
  obtain ⟨rec', h1, h2⟩ := this
  rw [hrec] at h1
  simp only [oiq, Obj.loop.injEq] at h1
  rw [h1]; exact h2
 refine ⟨e, HR.upd hr hb e rfl rfl rfl (fun _ _ => rfl) (fun c _ hc => hold c (fun e => hc (by rw [hcid, e]))) ?_ (fun c hc => .inl hc)⟩
 simp only [BR]
 exact ⟨_, World.putObj_heap_same (heap_lt hrec), ⟨rfl, rfl, hl.ps, VRs_mono e hr.spr _ _ hl.f, hl.ia, hl.ib⟩⟩
theorem loopR_of {g : G} {h : List AB} {w : World} (hr : HR g h w) {b st : Nat} {pend : Option (Option Nat)} {ps : List Nat} {f : List AV} {ia ib : IC} (hb : h[b]? = some (.loop st pend ps f ia ib)) : ∃ rec, w.heap[g.m b]? = some (.loop rec) ∧ LoopR g w st pend ps f ia ib rec := by
 have := hr.br b _ hb
 simpa only [BR] using this
theorem endY_spec {o : Out} {b : Nat} {h h' : List AB} {v : AV} (he : endY o b h = some (v, h')) :
  ∃ st pend ps f ia ib st' pend', h[b]? = some (.loop st pend ps f ia ib) ∧ h' = h.set b (.loop st' pend' ps f ia ib) ∧ v = vb pend'.isNone ∧ st' = (if pend'.isNone then 0 else 2) ∧
   ((o = .norm ∧ pend' = none) ∨ (o = .ret ∧ pend' = some none) ∨ (∃ id, o = .brk id ∧ id < 1000000 ∧ pend' = some (some id))) := by
 unfold endY at he
 split at he
 ·rename_i e
  split at he
  ·simp only [oiq, piq] at he
   obtain ⟨rfl, rfl⟩ := he
   refine ⟨_, _, _, _, _, _, _, _, e, rfl, rfl, rfl, ?_⟩
   simp
  ·simp only [oiq, piq] at he
   obtain ⟨rfl, rfl⟩ := he
   refine ⟨_, _, _, _, _, _, _, _, e, rfl, rfl, rfl, ?_⟩
   simp
  ·split at he
   ·rename_i hid
    simp only [oiq, piq] at he
    obtain ⟨rfl, rfl⟩ := he
    refine ⟨_, _, _, _, _, _, _, _, e, rfl, rfl, rfl, ?_⟩
    simp [hid]
   ·cases he
 ·cases he
theorem callY_sound {gl : Nat → Option (List PV)} {ev : IC → St → Option (Out × St)}
  (hev : ∀ (shf : Operand → Bool) (c : Code) (an : List (List Nat)) (s : St) (o : Out) (s' : St), ev (compC P shf c an).1 s = some (o, s') → CodeR P (Good P) gl (fun rd => noR c = true ∨ rd = none) (fun rd Q => c.wpIn (FW rd) 0 P Q) s o s')
  {b : Nat} {args : List AV} {h : List AB} {v : AV} {h' : List AB} (hc : callY ev b args h = some (v, h')) : YieldR P (Good P) gl b args h v h' := by
 unfold callY at hc
 split at hc
 rotate_left
 ·cases hc
 rename_i ps f ia ib hb
 split at hc
 rotate_left
 ·cases hc
 rename_i hlen
 split at hc
 rotate_left
 ·cases hc
 rename_i s1 hev1
 split at hc
 rotate_left
 ·cases hc
 rename_i ps1 f1 ia1 ib1 hb1
 split at hc
 rotate_left
 ·cases hc
 rename_i r hev2
 obtain ⟨o, s2⟩ := r
 obtain ⟨st3, pend3, ps3, f3, ia3, ib3, st', pend', hb3, rfl, rfl, hst', ho⟩ := endY_spec hc
 refine ⟨0, none, ps, f, ia, ib, hb, hlen, ?_⟩
 intro rd g w vals rec hcr hgr hr hvs hrec
 obtain ⟨rec', hrec', hl⟩ := loopR_of hr hb
 rw [hrec] at hrec'
 simp only [oiq, Obj.loop.injEq] at hrec'
 subst hrec'
 have hia := hl.ia
 have hib := hl.ib
 rw [hcr] at hia hib
 obtain ⟨⟨⟨sh1, an1, c1⟩, n1⟩, _⟩ := hia
 obtain ⟨⟨⟨sh2, an2, c2⟩, n2⟩, _⟩ := hib
 have hbN : g.D b := hr.d hb (by simp)
 refine roundIn_of_wpIn trivial ?_
 have hsr : SR P (Good P) gl 0 ⟨setPs f ps args, h⟩ g { tmps := (rec.params.zip vals.toArray).foldl (fun tmps (t, a) => tmps.setIfInBounds t a) rec.tmps, defers := [] } w := by
  refine ⟨⟨hgr, hr, ?_⟩, by simp, by simp, Nat.zero_le _, hcr⟩
  have h1 := setPs_rel ps f args rec.tmps.toList vals hl.f hvs hlen
  have h2 : ((rec.params.zip vals.toArray).foldl (fun tmps (t, a) => tmps.setIfInBounds t a) rec.tmps).toList = (ps.zip vals).foldl (fun tmps (t, a) => tmps.set t a) rec.tmps.toList := by
   rw [← Array.foldl_toList, foldl_setIf]
   congr 1
   rw [Array.toList_zip, hl.ps]
  show VRs g w _ _
  rw [h2]
  exact h1
 rw [← c1] at hev1
 refine hev sh1 rec.assign an1 _ .norm s1 hev1 (some (g.m b)) 0 g g _ w w (.inl n1) hsr (Ext.refl g w) _ ?_
 intro e a1 w1 g1 k1 k2 k3
 rw [exitR_norm k1]
 obtain ⟨rec1, hrec1, hl1⟩ := loopR_of k3.c.hr hb1
 have hm1 : g1.m b = g.m b := k2.m b hbN
 obtain ⟨e2, r2⟩ := k3.c.hr.reloop hb1 hrec1 1 none
 have hbusy : ({ rec1 with state := stOf 1, pending := pendOf none } : Loop) = { rec1 with state := .busy } := by
  have hp := hl1.pend
  cases rec1
  simp only [pendOf] at hp
  simp [stOf, pendOf, hp]
 have hsr2 : SR P (Good P) gl 0 ⟨s1.f, s1.h.set b (.loop 1 none ps1 f1 ia1 ib1)⟩ g1 a1 (w1.putObj (g1.m b) (.loop { rec1 with state := stOf 1, pending := pendOf none })) :=
  ⟨⟨GR_mono e2 k3.c.hr.spr k3.c.gr, r2, VRs_mono e2 k3.c.hr.spr _ _ k3.c.fr⟩, fun d hd => (k3.d d hd).ext e2 k3.c.hr.prs, k3.nd, Nat.zero_le _, k3.cr⟩
 have hrec1' : w1.heap[g.m b]? = some (.loop rec1) := by rw [← hm1]; exact hrec1
 refine ⟨_, run_beginRound hrec1' hl1.st, ?_⟩
 rw [← c2] at hev2
 rw [hbusy, hm1] at hsr2
 rw [hbusy, hm1] at e2
 refine hev sh2 rec.body an2 _ o s2 hev2 (some (g.m b)) 0 g g1 a1 w _ (.inl n2) hsr2 (k2.trans e2) _ ?_
 intro e a2 w2 g2 m1 m2 m3
 obtain ⟨rec2, hrec2, hl2⟩ := loopR_of m3.c.hr hb3
 have hm2 : g2.m b = g.m b := m2.m b hbN
 obtain ⟨e4, r4⟩ := m3.c.hr.reloop hb3 hrec2 st' pend'
 have hend : (Instr.endRound (g.m b) (pendOf pend')).run P w2 = .ok (.bool pend'.isNone) (w2.putObj (g2.m b) (.loop { rec2 with state := stOf st', pending := pendOf pend' })) := by
  rw [← hm2, run_endRound _ hrec2]
  have h1 : (pendOf pend').isNone = pend'.isNone := by rcases pend' with _ | _ | _ <;> rfl
  have h2 : stOf st' = if (pendOf pend').isNone then .ready else .done := by rw [hst', h1]; rcases pend' with _ | _ | _ <;> rfl
  rw [h1, h2, h1]
 have hfin : ∃ x g', Ending.returned (Value.bool pend'.isNone) = .returned x ∧ Ext g w g' (w2.putObj (g2.m b) (.loop { rec2 with state := stOf st', pending := pendOf pend' })) ∧
   HR g' (s2.h.set b (.loop st' pend' ps3 f3 ia3 ib3)) (w2.putObj (g2.m b) (.loop { rec2 with state := stOf st', pending := pendOf pend' })) ∧
   VR g' (w2.putObj (g2.m b) (.loop { rec2 with state := stOf st', pending := pendOf pend' })) (vb pend'.isNone) x := ⟨_, g2, rfl, m2.trans e4, r4, by simp [VR, PR]⟩
 rcases ho with ⟨rfl, rfl⟩ | ⟨rfl, rfl⟩ | ⟨id, rfl, hid, rfl⟩
 ·rw [exitR_norm m1]; exact ⟨_, _, hend, hfin⟩
 ·rw [exitR_ret m1]; exact ⟨_, _, hend, hfin⟩
 ·rcases exitR_brk m1 with ⟨rfl, _⟩ | ⟨l, _, e, _⟩
  ·exact ⟨_, _, hend, hfin⟩
  ·omega
theorem eval_sound {p : Prg} (hp : PrgOk P p) : ∀ (n : Nat),
  (∀ (shf : Operand → Bool) (c : Code) (an : List (List Nat)) (s : St) (o : Out) (s' : St), evalN p n (compC P shf c an).1 s = some (o, s') → CodeR P (Good P) p.gl (fun rd => noR c = true ∨ rd = none) (fun rd Q => c.wpIn (FW rd) 0 P Q) s o s') ∧ LoopS P (Good P) p.gl (evalN p n) ∧ LabS P (Good P) p.gl (evalN p n)
 | 0 => ⟨by intro shf c an s o s' h; simp [evalN] at h, by intro n live b s o s' h; simp [evalN] at h, by intro n live l x s o s' h; simp [evalN] at h⟩
 | n + 1 => by
  obtain ⟨h1, h2, h3⟩ := eval_sound hp n
  have hE : Sound P (Good P) (envOf p (evalN p n)) := ⟨fun fn args h v hc => callP_sound hp h1 hc, fun fn args h v h' hc => callS_sound hp h1 hc, fun b args h v h' hc => callY_sound h1 hc⟩
  exact ⟨fun shf c an s o s' h => run_sound hE h2 h3 rfl c an s o s' h, loopS_run hE h2 h3 rfl, labS_run hE h2 h3 rfl⟩
theorem call_sound_all {p : Prg} (hp : PrgOk P p) {n fn : Nat} {args : List AV} {h h' : List AB} {v : AV} (hc : callS p (evalN p n) fn args h = some (v, h')) : CallR P (Good P) p.gl fn args h v h' :=
 callS_sound hp (eval_sound hp n).1 hc
theorem callP_sound_all {p : Prg} (hp : PrgOk P p) {n fn : Nat} {args : List AV} {h : List AB} {v : AV} (hc : callP p (evalN p n) fn args h = some v) : CallR P (Good P) p.gl fn args h v h :=
 callP_sound hp (eval_sound hp n).1 hc
end
abbrev Ev := IC → St → Option (Out × St)
def LeE (a b : Ev) : Prop := ∀ c s r, a c s = some r → b c s = some r
theorem callB_mono {a b : Ev} (h : LeE a b) {F : IFun} {args : List AV} {hp : List AB} {r : AV × List AB} (hc : callB a F args hp = some r) : callB b F args hp = some r := by
 unfold callB at hc ⊢
 split at hc
 ·rename_i s he; simp only [h _ _ _ he]; exact hc
 ·rename_i s he; simp only [h _ _ _ he]; exact hc
 ·cases hc
theorem callS_mono {p : Prg} {a b : Ev} (h : LeE a b) {fn : Nat} {args : List AV} {hp : List AB} {r : AV × List AB} (hc : callS p a fn args hp = some r) : callS p b fn args hp = some r := by
 unfold callS at hc ⊢
 cases hF : p.fn fn with
 | none => simpa only [hF] using hc
 | some F =>
  simp only [hF] at hc ⊢
  cases hm : p.fr fn with
  | false => simp only [hm] at hc ⊢; exact callB_mono h hc
  | true =>
   simp only [hm] at hc ⊢
   obtain ⟨q, h1, h2⟩ := bei.1 hc
   rw [callB_mono h h1]
   exact h2
theorem callP_mono {p : Prg} {a b : Ev} (h : LeE a b) {fn : Nat} {args : List AV} {hp : List AB} {r : AV} (hc : callP p a fn args hp = some r) : callP p b fn args hp = some r := by
 unfold callP at hc ⊢
 split at hc
 ·rename_i hpu
  rw [if_pos hpu]
  split at hc
  ·rename_i v h' he
   simp only [callS_mono h he]; exact hc
  ·cases hc
 ·rename_i hpu
  rw [if_neg hpu]
  split at hc
  ·rename_i args' ha
   split at hc
   ·rename_i v h' he
    simp only [callS_mono h he]; exact hc
   ·cases hc
  ·cases hc
theorem callY_mono {a b : Ev} (h : LeE a b) {k : Nat} {args : List AV} {hp : List AB} {r : AV × List AB} (hc : callY a k args hp = some r) : callY b k args hp = some r := by
 unfold callY at hc ⊢
 split at hc
 rotate_left
 ·cases hc
 split at hc
 rotate_left
 ·cases hc
 rename_i hl
 rw [if_pos hl]
 split at hc
 rotate_left
 ·cases hc
 rename_i s1 h1
 simp only [h _ _ _ h1]
 split at hc
 rotate_left
 ·cases hc
 split at hc
 rotate_left
 ·cases hc
 rename_i h2
 simp only [h _ _ _ h2]
 exact hc
theorem evX_mono {p : Prg} {a b : Ev} (h : LeE a b) {f : List AV} {q : Nat} {i : Ins} {r : AV × List AB} (hc : evX (envOf p a) f q i = some r) : evX (envOf p b) f q i = some r := by
 unfold evX at hc ⊢
 split at hc
 ·simp only [envOf] at hc ⊢
  split at hc
  ·rename_i g caps hf
   try simp only [hf]
   simp only [mei] at hc ⊢
   obtain ⟨v, h1, rfl⟩ := hc
   refine ⟨v, ?_, rfl⟩
   unfold xRes at h1 ⊢
   split at h1
   ·rename_i hp
    rw [if_pos hp]
    split at h1
    ·rename_i h2
     simp only [callS_mono h h2]
     exact h1
    ·cases h1
   ·cases h1
  ·cases hc
 ·cases hc
theorem evM_mono {p : Prg} {a b : Ev} (h : LeE a b) {f : List AV} {q : Nat} {i : Ins} {r : AV × List AB} (hc : evM (envOf p a) f q i = some r) : evM (envOf p b) f q i = some r := by
 unfold evM at hc ⊢
 split at hc
 ·exact hc
 ·split at hc
  ·rename_i h5; simp only [h5, if_true]; exact evX_mono h hc
  ·rename_i h5; simp only [h5, if_false]; exact hc
theorem stepI_mono {p : Prg} {a b : Ev} (h : LeE a b) {i : Ins} {s : St} {r : AV × List AB} (hc : stepI (envOf p a) i s = some r) : stepI (envOf p b) i s = some r := by
 unfold stepI at hc ⊢
 split at hc
 ·simp only [envOf] at hc ⊢
  split at hc
  ·rename_i g caps hf
   simp only [mei] at hc ⊢
   obtain ⟨v, h1, rfl⟩ := hc
   exact ⟨v, callP_mono h h1, rfl⟩
  ·cases hc
 ·simp only [envOf] at hc ⊢
  split at hc
  ·rename_i g caps hf
   try simp only [hf]
   exact callS_mono h hc
  ·exact callY_mono h hc
  ·cases hc
 ·simp only [mei] at hc ⊢
  obtain ⟨v, h1, rfl⟩ := hc
  exact ⟨v, evX_mono h h1, rfl⟩
 ·exact hc
theorem stepO_mono {p : Prg} {a b : Ev} (h : LeE a b) {o : IOp} {s r : St} (hc : stepO (envOf p a) o s = some r) : stepO (envOf p b) o s = some r := by
 unfold stepO at hc ⊢
 split at hc
 ·cases hc
 ·rename_i hw; try simp only [hw]
  exact hc
 ·rename_i hw
  try simp only [hw]
  simp only [mei] at hc ⊢
  obtain ⟨x, h1, rfl⟩ := hc
  exact ⟨x, stepI_mono h h1, rfl⟩
theorem runOps_mono {p : Prg} {a b : Ev} (h : LeE a b) : ∀ (l : List IOp) (s r : St), runOps (envOf p a) l s = some r → runOps (envOf p b) l s = some r
 | [], s, r, hc => hc
 | o :: os, s, r, hc => by
  simp only [runOps, bei] at hc ⊢
  obtain ⟨s1, h1, h2⟩ := hc
  exact ⟨s1, stepO_mono h h1, runOps_mono h os s1 r h2⟩
theorem actF_mono {p : Prg} {a b : Ev} (h : LeE a b) {base : Nat} {o : ROp} {f : List AV} {g : List AB} {r : AV × List AB} (hc : actF (envOf p a) base o f g = some r) : actF (envOf p b) base o f g = some r := by
 unfold actF at hc ⊢
 split at hc
 ·simp only [envOf] at hc ⊢
  split at hc
  ·rename_i fn caps hf
   simp only [bei] at hc ⊢
   obtain ⟨q, h1, h2⟩ := hc
   exact ⟨q, callS_mono h h1, h2⟩
  ·cases hc
 ·cases hc
theorem stepR_mono {p : Prg} {a b : Ev} (h : LeE a b) {base : Nat} {o : ROp} {s r : St} (hc : stepR (envOf p a) base o s = some r) : stepR (envOf p b) base o s = some r := by
 unfold stepR actR at hc ⊢
 split at hc
 ·cases hc
 ·rename_i hw; try simp only [hw]
  exact hc
 ·rename_i hw
  try simp only [hw]
  split at hc
  ·rename_i hz; rw [if_pos hz]
   simp only [mei] at hc ⊢
   obtain ⟨x, h1, rfl⟩ := hc
   exact ⟨x, actF_mono h h1, rfl⟩
  rename_i hz
  rw [if_neg hz]
  split at hc
  ·rename_i h2; rw [if_pos h2]
   simp only [mei, bei] at hc ⊢
   obtain ⟨x, ⟨y, h1, h3⟩, rfl⟩ := hc
   exact ⟨x, ⟨y, evM_mono h h1, h3⟩, rfl⟩
  ·rename_i h2; rw [if_neg h2]
   simp only [mei] at hc ⊢
   obtain ⟨x, h1, rfl⟩ := hc
   exact ⟨x, stepI_mono h h1, rfl⟩
theorem runR_mono {p : Prg} {a b : Ev} (h : LeE a b) {base : Nat} : ∀ (l : List ROp) (acc : List TR) (s r : St), runR (envOf p a) base l acc s = some r → runR (envOf p b) base l acc s = some r
 | [], acc, s, r, hc => hc
 | o :: os, acc, s, r, hc => by
  simp only [runR] at hc ⊢
  split at hc
  ·rename_i hok
   rw [if_pos (by exact hok)]
   simp only [bei] at hc ⊢
   obtain ⟨s1, h1, h2⟩ := hc
   exact ⟨s1, stepR_mono h h1, runR_mono h os _ s1 r h2⟩
  ·cases hc
theorem run_mono {p : Prg} {a b : Ev} (h : LeE a b) : ∀ (c : IC) (s : St) (r : Out × St), run (envOf p a) a c s = some r → run (envOf p b) b c s = some r
 | .skip, s, r, hc => hc
 | .ops l, s, r, hc => by
  simp only [run, mei] at hc ⊢
  obtain ⟨s1, h1, rfl⟩ := hc
  exact ⟨s1, runOps_mono h l s s1 h1, rfl⟩
 | .opsR K l, s, r, hc => by
  simp only [run, mei] at hc ⊢
  obtain ⟨s1, h1, rfl⟩ := hc
  exact ⟨s1, runR_mono h l _ _ s1 h1, rfl⟩
 | .seq x y, s, r, hc => by
  simp only [run] at hc ⊢
  split at hc
  ·rename_i s1 he
   simp only [run_mono h x s _ he]
   exact run_mono h y s1 r hc
  ·rename_i hne
   rw [run_mono h x s r hc]
   obtain ⟨o, s1⟩ := r
   cases o with
   | norm => exact (hne s1 hc).elim
   | brk i => rfl
   | ret => rfl
 | .cond c x y, s, r, hc => by
  simp only [run] at hc ⊢
  have e : (envOf p b).gl = (envOf p a).gl := rfl
  rw [e]
  split at hc
  ·rename_i t hb
   try simp only [hb]
   cases t with
   | true => exact run_mono h x s r (by simpa using hc)
   | false => exact run_mono h y s r (by simpa using hc)
  ·cases hc
 | .block id x, s, r, hc => by
  simp only [run] at hc ⊢
  split at hc
  ·rename_i i s1 he
   simp only [run_mono h x s _ he]
   exact hc
  ·rename_i hne
   rw [run_mono h x s r hc]
   obtain ⟨o, s1⟩ := r
   cases o with
   | norm => rfl
   | brk i => exact (hne i s1 hc).elim
   | ret => rfl
 | .noGo x, s, r, hc => by
  simp only [run] at hc ⊢
  split at hc
  ·rename_i i s1 he
   simp only [run_mono h x s _ he]
   exact hc
  ·rename_i hne
   rw [run_mono h x s r hc]
   obtain ⟨o, s1⟩ := r
   cases o with
   | norm => rfl
   | brk i => exact (hne i s1 hc).elim
   | ret => rfl
 | .loop live x, s, r, hc => by
  simp only [run] at hc ⊢
  split at hc
  ·rename_i s1 he
   simp only [run_mono h x _ _ he]
   exact h _ _ _ hc
  ·rename_i hne
   rw [run_mono h x _ r hc]
   obtain ⟨o, s1⟩ := r
   cases o with
   | norm => exact (hne s1 hc).elim
   | brk i => rfl
   | ret => rfl
 | .loopAt n live x, s, r, hc => by
  simp only [run] at hc ⊢
  split at hc
  ·rename_i s1 he
   simp only [run_mono h x _ _ he]
   exact h _ _ _ hc
  ·rename_i hne
   rw [run_mono h x _ r hc]
   obtain ⟨o, s1⟩ := r
   cases o with
   | norm => exact (hne s1 hc).elim
   | brk i => rfl
   | ret => rfl
 | .rangeF fo ps ia ib, s, r, hc => by
  simp only [run] at hc ⊢
  have e : (envOf p b).gl = (envOf p a).gl := rfl
  rw [e]
  split at hc
  ·rename_i g caps hf
   split at hc
   ·rename_i q hq
    have : (envOf p b).callS g (.yl s.h.length :: caps) (s.h ++ [.loop 0 none ps s.f ia ib]) = some q := callS_mono h hq
    simp only [this]
    exact hc
   ·cases hc
  ·cases hc
 | .exit id, s, r, hc => hc
 | .frzS sl cs gs, s, r, hc => hc
 | .ret, s, r, hc => hc
 | .bad, s, r, hc => hc
theorem evalN_succ (p : Prg) : ∀ n, LeE (evalN p n) (evalN p (n + 1))
 | 0 => fun c s r h => by simp [evalN] at h
 | n + 1 => fun c s r h => run_mono (evalN_succ p n) c s r h
theorem evalN_le (p : Prg) {n m : Nat} (h : n ≤ m) : LeE (evalN p n) (evalN p m) := by
 induction h with
 | refl => exact fun _ _ _ h => h
 | step _ ih => exact fun c s r h => evalN_succ p _ c s r (ih c s r h)
open Classical in
noncomputable def ev (p : Prg) : Ev := fun c s => if h : ∃ r, ∃ n, evalN p n c s = some r then some h.choose else none
theorem ev_iff {p : Prg} {c : IC} {s : St} {r : Out × St} : ev p c s = some r ↔ ∃ n, evalN p n c s = some r := by
 unfold ev
 constructor
 ·intro h
  split at h
  ·rename_i hx
   simp only [oiq] at h
   rw [← h]
   exact hx.choose_spec
  ·cases h
 ·rintro ⟨n, h⟩
  have hx : ∃ r, ∃ n, evalN p n c s = some r := ⟨r, n, h⟩
  rw [dif_pos hx]
  obtain ⟨m, hm⟩ := hx.choose_spec
  have h1 := evalN_le p (Nat.le_max_left n m) _ _ _ h
  have h2 := evalN_le p (Nat.le_max_right n m) _ _ _ hm
  rw [h1] at h2
  exact h2.symm
theorem evalN_ev (p : Prg) (n : Nat) : LeE (evalN p n) (ev p) := fun _ _ _ h => ev_iff.2 ⟨n, h⟩
theorem callB_cont {p : Prg} {F : IFun} {args : List AV} {hp : List AB} {r : AV × List AB} (hc : callB (ev p) F args hp = some r) : ∃ n, callB (evalN p n) F args hp = some r := by
 unfold callB at hc ⊢
 split at hc
 ·rename_i s he; obtain ⟨n, hn⟩ := ev_iff.1 he; exact ⟨n, by simp only [hn]; exact hc⟩
 ·rename_i s he; obtain ⟨n, hn⟩ := ev_iff.1 he; exact ⟨n, by simp only [hn]; exact hc⟩
 ·cases hc
theorem callS_cont {p : Prg} {fn : Nat} {args : List AV} {hp : List AB} {r : AV × List AB} (hc : callS p (ev p) fn args hp = some r) : ∃ n, callS p (evalN p n) fn args hp = some r := by
 unfold callS at hc ⊢
 cases hF : p.fn fn with
 | none => exact ⟨0, by simpa only [hF] using hc⟩
 | some F =>
  simp only [hF] at hc ⊢
  cases hm : p.fr fn with
  | false => simp only [hm] at hc ⊢; exact callB_cont hc
  | true =>
   simp only [hm] at hc ⊢
   obtain ⟨q, h1, h2⟩ := bei.1 hc
   obtain ⟨n, hn⟩ := callB_cont h1
   exact ⟨n, by rw [hn]; exact h2⟩
theorem callP_cont {p : Prg} {fn : Nat} {args : List AV} {hp : List AB} {r : AV} (hc : callP p (ev p) fn args hp = some r) : ∃ n, callP p (evalN p n) fn args hp = some r := by
 unfold callP at hc ⊢
 split at hc
 ·rename_i hpu
  split at hc
  ·rename_i v h' he
   obtain ⟨n, hn⟩ := callS_cont he
   exact ⟨n, by rw [if_pos hpu]; simp only [hn]; exact hc⟩
  ·cases hc
 ·rename_i hpu
  split at hc
  ·rename_i args' ha
   split at hc
   ·rename_i v h' he
    obtain ⟨n, hn⟩ := callS_cont he
    exact ⟨n, by rw [if_neg hpu]; simp only [ha, hn]; exact hc⟩
   ·cases hc
  ·cases hc
theorem callY_cont {p : Prg} {k : Nat} {args : List AV} {hp : List AB} {r : AV × List AB} (hc : callY (ev p) k args hp = some r) : ∃ n, callY (evalN p n) k args hp = some r := by
 unfold callY at hc ⊢
 split at hc
 rotate_left
 ·cases hc
 split at hc
 rotate_left
 ·cases hc
 rename_i hl
 split at hc
 rotate_left
 ·cases hc
 rename_i s1 h1
 split at hc
 rotate_left
 ·cases hc
 rename_i hb1
 split at hc
 rotate_left
 ·cases hc
 rename_i h2
 obtain ⟨n, hn⟩ := ev_iff.1 h1
 obtain ⟨m, hm⟩ := ev_iff.1 h2
 refine ⟨max n m, ?_⟩
 rw [if_pos hl]
 simp only [evalN_le p (Nat.le_max_left n m) _ _ _ hn, hb1, evalN_le p (Nat.le_max_right n m) _ _ _ hm]
 exact hc
theorem evX_cont {p : Prg} {f : List AV} {q : Nat} {i : Ins} {r : AV × List AB} (hc : evX (envOf p (ev p)) f q i = some r) : ∃ n, evX (envOf p (evalN p n)) f q i = some r := by
 unfold evX at hc ⊢
 split at hc
 ·simp only [envOf] at hc ⊢
  split at hc
  ·rename_i g caps hf
   simp only [mei] at hc
   obtain ⟨v, h1, rfl⟩ := hc
   unfold xRes at h1
   split at h1
   ·rename_i hp
    split at h1
    ·rename_i h2
     obtain ⟨n, hn⟩ := callS_cont h2
     refine ⟨n, ?_⟩
     simp only [hf, mei]
     refine ⟨v, ?_, rfl⟩
     unfold xRes
     rw [if_pos hp]
     simp only [hn]
     exact h1
    ·cases h1
   ·cases h1
  ·cases hc
 ·cases hc
theorem evM_cont {p : Prg} {f : List AV} {q : Nat} {i : Ins} {r : AV × List AB} (hc : evM (envOf p (ev p)) f q i = some r) : ∃ n, evM (envOf p (evalN p n)) f q i = some r := by
 unfold evM at hc ⊢
 split at hc
 ·exact ⟨0, hc⟩
 ·split at hc
  ·rename_i h5; simp only [h5, if_true]; exact evX_cont hc
  ·rename_i h5; exact ⟨0, by simp only [h5, if_false]; exact hc⟩
theorem stepI_cont {p : Prg} {i : Ins} {s : St} {x : AV × List AB} (h1 : stepI (envOf p (ev p)) i s = some x) : ∃ n, stepI (envOf p (evalN p n)) i s = some x := by
 unfold stepI at h1 ⊢
 split at h1
 ·simp only [envOf] at h1 ⊢
  split at h1
  ·rename_i g caps hf
   simp only [mei] at h1
   obtain ⟨v, h2, rfl⟩ := h1
   obtain ⟨n, hn⟩ := callP_cont h2
   exact ⟨n, by simp only [hf, hn]; rfl⟩
  ·cases h1
 ·simp only [envOf] at h1 ⊢
  split at h1
  ·rename_i g caps hf
   obtain ⟨n, hn⟩ := callS_cont h1
   exact ⟨n, by simp only [hf, hn]⟩
  ·rename_i b hf
   obtain ⟨n, hn⟩ := callY_cont h1
   exact ⟨n, by simp only [hf, hn]⟩
  ·cases h1
 ·simp only [mei] at h1
  obtain ⟨v, h2, rfl⟩ := h1
  obtain ⟨n, hn⟩ := evX_cont h2
  exact ⟨n, by simp only [hn]; rfl⟩
 ·exact ⟨0, h1⟩
theorem stepO_cont {p : Prg} {o : IOp} {s r : St} (hc : stepO (envOf p (ev p)) o s = some r) : ∃ n, stepO (envOf p (evalN p n)) o s = some r := by
 unfold stepO at hc ⊢
 split at hc
 ·cases hc
 ·rename_i hw; exact ⟨0, by (try simp only [hw]); exact hc⟩
 ·rename_i hw
  simp only [mei] at hc
  obtain ⟨x, h1, rfl⟩ := hc
  obtain ⟨n, hn⟩ := stepI_cont h1
  exact ⟨n, by simp only [hw, hn]; rfl⟩
theorem actF_cont {p : Prg} {base : Nat} {o : ROp} {f : List AV} {g : List AB} {r : AV × List AB} (hc : actF (envOf p (ev p)) base o f g = some r) : ∃ n, actF (envOf p (evalN p n)) base o f g = some r := by
 unfold actF at hc ⊢
 split at hc
 ·simp only [envOf] at hc ⊢
  split at hc
  ·rename_i fn caps hf
   simp only [bei] at hc
   obtain ⟨q, h1, h2⟩ := hc
   obtain ⟨n, hn⟩ := callS_cont h1
   exact ⟨n, by simp only [hf, hn, Option.bind_some, h2]⟩
  ·cases hc
 ·cases hc
theorem stepR_cont {p : Prg} {base : Nat} {o : ROp} {s r : St} (hc : stepR (envOf p (ev p)) base o s = some r) : ∃ n, stepR (envOf p (evalN p n)) base o s = some r := by
 unfold stepR actR at hc
 split at hc
 ·cases hc
 ·rename_i hw; exact ⟨0, by unfold stepR actR; rw [hw]; exact hc⟩
 ·rename_i hw
  split at hc
  ·rename_i hz
   simp only [mei] at hc
   obtain ⟨x, h1, rfl⟩ := hc
   obtain ⟨n, hn⟩ := actF_cont h1
   exact ⟨n, by unfold stepR actR; rw [hw]; simp only; rw [if_pos hz, hn]; rfl⟩
  rename_i hz
  split at hc
  ·rename_i h2
   simp only [mei, bei] at hc
   obtain ⟨x, ⟨y, h1, h3⟩, rfl⟩ := hc
   obtain ⟨n, hn⟩ := evM_cont h1
   exact ⟨n, by unfold stepR actR; rw [hw]; simp only; rw [if_neg hz, if_pos h2, hn, Option.bind_some, h3]; rfl⟩
  ·rename_i h2
   simp only [mei] at hc
   obtain ⟨x, h1, rfl⟩ := hc
   obtain ⟨n, hn⟩ := stepI_cont h1
   exact ⟨n, by unfold stepR actR; rw [hw]; simp only; rw [if_neg hz, if_neg h2, hn]; rfl⟩
theorem runOps_cont {p : Prg} : ∀ (l : List IOp) (s r : St), runOps (envOf p (ev p)) l s = some r → ∃ n, runOps (envOf p (evalN p n)) l s = some r
 | [], s, r, hc => ⟨0, hc⟩
 | o :: os, s, r, hc => by
  simp only [runOps, bei] at hc ⊢
  obtain ⟨s1, h1, h2⟩ := hc
  obtain ⟨n, hn⟩ := stepO_cont h1
  obtain ⟨m, hm⟩ := runOps_cont os s1 r h2
  exact ⟨max n m, s1, stepO_mono (evalN_le p (Nat.le_max_left n m)) hn, runOps_mono (evalN_le p (Nat.le_max_right n m)) os s1 r hm⟩
theorem runR_cont {p : Prg} {base : Nat} : ∀ (l : List ROp) (acc : List TR) (s r : St), runR (envOf p (ev p)) base l acc s = some r → ∃ n, runR (envOf p (evalN p n)) base l acc s = some r
 | [], acc, s, r, hc => ⟨0, hc⟩
 | o :: os, acc, s, r, hc => by
  simp only [runR] at hc ⊢
  split at hc
  ·rename_i hok
   simp only [bei] at hc ⊢
   obtain ⟨s1, h1, h2⟩ := hc
   obtain ⟨n, hn⟩ := stepR_cont h1
   obtain ⟨m, hm⟩ := runR_cont os _ s1 r h2
   refine ⟨max n m, ?_⟩
   rw [if_pos (by exact hok), stepR_mono (evalN_le p (Nat.le_max_left n m)) hn, Option.bind_some]
   exact runR_mono (evalN_le p (Nat.le_max_right n m)) os _ s1 r hm
  ·cases hc
theorem run_cont {p : Prg} : ∀ (c : IC) (s : St) (r : Out × St), run (envOf p (ev p)) (ev p) c s = some r → ∃ n, run (envOf p (evalN p n)) (evalN p n) c s = some r
 | .skip, s, r, hc => ⟨0, hc⟩
 | .ops l, s, r, hc => by
  simp only [run, mei] at hc ⊢
  obtain ⟨s1, h1, rfl⟩ := hc
  obtain ⟨n, hn⟩ := runOps_cont l s s1 h1
  exact ⟨n, s1, hn, rfl⟩
 | .opsR K l, s, r, hc => by
  simp only [run, mei] at hc ⊢
  obtain ⟨s1, h1, rfl⟩ := hc
  obtain ⟨n, hn⟩ := runR_cont l _ _ s1 h1
  exact ⟨n, s1, hn, rfl⟩
 | .seq x y, s, r, hc => by
  simp only [run] at hc ⊢
  split at hc
  ·rename_i s1 he
   obtain ⟨n, hn⟩ := run_cont x s _ he
   obtain ⟨m, hm⟩ := run_cont y s1 r hc
   refine ⟨max n m, ?_⟩
   simp only [run_mono (evalN_le p (Nat.le_max_left n m)) x s _ hn]
   exact run_mono (evalN_le p (Nat.le_max_right n m)) y s1 r hm
  ·rename_i hne
   obtain ⟨n, hn⟩ := run_cont x s r hc
   refine ⟨n, ?_⟩
   rw [hn]
   obtain ⟨o, s1⟩ := r
   cases o with
   | norm => exact (hne s1 hc).elim
   | brk i => rfl
   | ret => rfl
 | .cond c x y, s, r, hc => by
  simp only [run] at hc ⊢
  split at hc
  ·rename_i t hb
   have hb' : ∀ n, c.ev s.f (envOf p (evalN p n)).gl = .p (.val (.bool t)) := fun n => hb
   cases t with
   | true =>
    obtain ⟨n, hn⟩ := run_cont x s r (by simpa using hc)
    exact ⟨n, by rw [hb' n]; simpa using hn⟩
   | false =>
    obtain ⟨n, hn⟩ := run_cont y s r (by simpa using hc)
    exact ⟨n, by rw [hb' n]; simpa using hn⟩
  ·cases hc
 | .block id x, s, r, hc => by
  simp only [run] at hc ⊢
  split at hc
  ·rename_i i s1 he
   obtain ⟨n, hn⟩ := run_cont x s _ he
   exact ⟨n, by simp only [hn]; exact hc⟩
  ·rename_i hne
   obtain ⟨n, hn⟩ := run_cont x s r hc
   refine ⟨n, ?_⟩
   rw [hn]
   obtain ⟨o, s1⟩ := r
   cases o with
   | norm => rfl
   | brk i => exact (hne i s1 hc).elim
   | ret => rfl
 | .noGo x, s, r, hc => by
  simp only [run] at hc ⊢
  split at hc
  ·rename_i i s1 he
   obtain ⟨n, hn⟩ := run_cont x s _ he
   exact ⟨n, by simp only [hn]; exact hc⟩
  ·rename_i hne
   obtain ⟨n, hn⟩ := run_cont x s r hc
   refine ⟨n, ?_⟩
   rw [hn]
   obtain ⟨o, s1⟩ := r
   cases o with
   | norm => rfl
   | brk i => exact (hne i s1 hc).elim
   | ret => rfl
 | .loop live x, s, r, hc => by
  simp only [run] at hc ⊢
  split at hc
  ·rename_i s1 he
   obtain ⟨n, hn⟩ := run_cont x _ _ he
   obtain ⟨m, hm⟩ := ev_iff.1 hc
   refine ⟨max n m, ?_⟩
   simp only [run_mono (evalN_le p (Nat.le_max_left n m)) x _ _ hn]
   exact evalN_le p (Nat.le_max_right n m) _ _ _ hm
  ·rename_i hne
   obtain ⟨n, hn⟩ := run_cont x _ r hc
   refine ⟨n, ?_⟩
   rw [hn]
   obtain ⟨o, s1⟩ := r
   cases o with
   | norm => exact (hne s1 hc).elim
   | brk i => rfl
   | ret => rfl
 | .loopAt k live x, s, r, hc => by
  simp only [run] at hc ⊢
  split at hc
  ·rename_i s1 he
   obtain ⟨n, hn⟩ := run_cont x _ _ he
   obtain ⟨m, hm⟩ := ev_iff.1 hc
   refine ⟨max n m, ?_⟩
   simp only [run_mono (evalN_le p (Nat.le_max_left n m)) x _ _ hn]
   exact evalN_le p (Nat.le_max_right n m) _ _ _ hm
  ·rename_i hne
   obtain ⟨n, hn⟩ := run_cont x _ r hc
   refine ⟨n, ?_⟩
   rw [hn]
   obtain ⟨o, s1⟩ := r
   cases o with
   | norm => exact (hne s1 hc).elim
   | brk i => rfl
   | ret => rfl
 | .rangeF fo ps ia ib, s, r, hc => by
  simp only [run] at hc ⊢
  split at hc
  ·rename_i g caps hf
   split at hc
   ·rename_i q hq
    obtain ⟨n, hn⟩ := callS_cont hq
    refine ⟨n, ?_⟩
    have e : fo.ev s.f (envOf p (evalN p n)).gl = .fn g caps := hf
    have : (envOf p (evalN p n)).callS g (.yl s.h.length :: caps) (s.h ++ [.loop 0 none ps s.f ia ib]) = some q := hn
    simp only [e, this]
    exact hc
   ·cases hc
  ·cases hc
 | .exit id, s, r, hc => ⟨0, hc⟩
 | .frzS sl cs gs, s, r, hc => ⟨0, hc⟩
 | .ret, s, r, hc => ⟨0, hc⟩
 | .bad, s, r, hc => ⟨0, hc⟩
theorem ev_eq (p : Prg) (c : IC) (s : St) : ev p c s = run (envOf p (ev p)) (ev p) c s := by
 cases h : run (envOf p (ev p)) (ev p) c s with
 | some r =>
  obtain ⟨n, hn⟩ := run_cont c s r h
  exact ev_iff.2 ⟨n + 1, hn⟩
 | none =>
  cases h2 : ev p c s with
  | none => rfl
  | some r =>
   obtain ⟨n, hn⟩ := ev_iff.1 h2
   have := evalN_le p (Nat.le_succ n) _ _ _ hn
   rw [run_mono (evalN_ev p n) c s r this] at h
   cases h
noncomputable def CS (p : Prg) (fn : Nat) (args : List AV) (h : List AB) : Option (AV × List AB) := callS p (ev p) fn args h
noncomputable def CP (p : Prg) (fn : Nat) (args : List AV) (h : List AB) : Option AV := callP p (ev p) fn args h
variable {P : Program}
theorem CS_sound {p : Prg} (hp : PrgOk P p) {fn : Nat} {args : List AV} {h h' : List AB} {v : AV} (hc : CS p fn args h = some (v, h')) : CallR P (Good P) p.gl fn args h v h' := by
 obtain ⟨n, hn⟩ := callS_cont hc
 exact call_sound_all hp hn
theorem CP_sound {p : Prg} (hp : PrgOk P p) {fn : Nat} {args : List AV} {h : List AB} {v : AV} (hc : CP p fn args h = some v) : CallR P (Good P) p.gl fn args h v h := by
 obtain ⟨n, hn⟩ := callP_cont hc
 exact callP_sound_all hp hn
theorem CP_of {p : Prg} {fn : Nat} {args : List AV} {h : List AB} {r : AV} (n : Nat) (hc : callP p (evalN p n) fn args h = some r) : CP p fn args h = some r := callP_mono (evalN_ev p n) hc
section
variable {E : Env} {L : Ev} {f : List AV} {h : List AB}
def seqK (E : Env) (L : Ev) (b : IC) : Option (Out × St) → Option (Out × St)
 | some (.norm, s) => run E L b s
 | r => r
def condK (E : Env) (L : Ev) (x y : IC) (s : St) : AV → Option (Out × St)
 | .p (.val (.bool b)) => if b = true then run E L x s else run E L y s
 | _ => none
def blockK (id : Nat) : Option (Out × St) → Option (Out × St)
 | some (.brk i, s) => if i = id then some (.norm, s) else some (.brk i, s)
 | r => r
def loopK (L : Ev) (n : Nat) (live : List Nat) (b : IC) : Option (Out × St) → Option (Out × St)
 | some (.norm, s) => L (.loopAt n live b) s
 | r => r
theorem run_seq (a b : IC) (s : St) : run E L (.seq a b) s = seqK E L b (run E L a s) := by
 simp only [run]; cases run E L a s with
 | none => rfl
 | some r => obtain ⟨o, s1⟩ := r; cases o <;> rfl
theorem run_cond (c : Opd) (x y : IC) : run E L (.cond c x y) ⟨f, h⟩ = condK E L x y ⟨f, h⟩ (c.ev f E.gl) := by
 simp only [run]; unfold condK; rfl
theorem run_block (id : Nat) (b : IC) (s : St) : run E L (.block id b) s = blockK id (run E L b s) := by
 simp only [run]; cases run E L b s with
 | none => rfl
 | some r => obtain ⟨o, s1⟩ := r; cases o <;> rfl
theorem run_loop (live : List Nat) (b : IC) : run E L (.loop live b) ⟨f, h⟩ = loopK L h.length live b (run E L b (trim h.length live ⟨f, h⟩)) := by
 simp only [run]; cases run E L b (trim h.length live ⟨f, h⟩) with
 | none => rfl
 | some r => obtain ⟨o, s1⟩ := r; cases o <;> rfl
theorem run_loopAt (n : Nat) (live : List Nat) (b : IC) (s : St) : run E L (.loopAt n live b) s = loopK L n live b (run E L b (trim n live s)) := by
 simp only [run]; cases run E L b (trim n live s) with
 | none => rfl
 | some r => obtain ⟨o, s1⟩ := r; cases o <;> rfl
theorem run_ret (s : St) : run E L .ret s = some (.ret, s) := rfl
theorem seqK_norm (b : IC) (s : St) : seqK E L b (some (.norm, s)) = run E L b s := rfl
theorem seqK_ret (b : IC) (s : St) : seqK E L b (some (.ret, s)) = some (.ret, s) := rfl
theorem seqK_brk (b : IC) (i : Nat) (s : St) : seqK E L b (some (.brk i, s)) = some (.brk i, s) := rfl
theorem seqK_none (b : IC) : seqK E L b none = none := rfl
theorem loopK_norm (n : Nat) (live : List Nat) (b : IC) (s : St) : loopK L n live b (some (.norm, s)) = L (.loopAt n live b) s := rfl
theorem ev_loopAt (p : Prg) (n : Nat) (live : List Nat) (b : IC) (s : St) : ev p (.loopAt n live b) s = loopK (ev p) n live b (run (envOf p (ev p)) (ev p) b (trim n live s)) := by
 rw [ev_eq, run_loopAt]
end
theorem envOf_callP (p : Prg) (fn : Nat) (args : List AV) (h : List AB) : (envOf p (ev p)).callP fn args h = CP p fn args h := rfl
theorem envOf_callS (p : Prg) (fn : Nat) (args : List AV) (h : List AB) : (envOf p (ev p)).callS fn args h = CS p fn args h := rfl
theorem envOf_gl (p : Prg) : (envOf p (ev p)).gl = p.gl := rfl
def after (rs : List IRes) : Option (Out × St) → Option (AV × List AB)
 | some (.ret, s) => (resOf s rs).map fun vs => (packR vs, s.h)
 | some (.norm, s) => (resOf s rs).map fun vs => (packR vs, s.h)
 | _ => none
noncomputable def CB (p : Prg) (F : IFun) (args : List AV) (h : List AB) : Option (AV × List AB) := callB (ev p) F args h
theorem CB_in {p : Prg} {F : IFun} (args : List AV) (h : List AB) :
  CB p F args h = after F.results (run (envOf p (ev p)) (ev p) F.code ⟨args ++ List.replicate (F.ntmps - args.length) ud, h⟩) := by
 unfold CB callB
 simp only [ev_eq]
 rfl
theorem CS_in {p : Prg} {fn : Nat} {F : IFun} (hF : p.fn fn = some F) (hm : p.fr fn = false) (args : List AV) (h : List AB) : CS p fn args h = CB p F args h := by
 unfold CS callS
 rw [hF]
 simp only [hm]
 rfl
theorem CS_fr {p : Prg} {fn m : Nat} {F : IFun} (hF : p.fn fn = some F) (hm : p.fr fn = true) {args : List AV} {h h' : List AB} {v : AV} (ht : topB args = m) (hc : CB p F args (h.take m) = some (v, h')) (hk : okF m args h (v, h') = true) : CS p fn args h = some (v, h'.take m ++ h.drop m) := by
 subst ht
 unfold CS callS
 rw [hF]
 simp only [hm]
 unfold CB at hc
 rw [hc]
 simp only [Option.bind_some, frmR]
 rw [if_pos hk]
theorem CP_in {p : Prg} {fn : Nat} (args : List AV) (h : List AB) (hp : AV.pure.pures args = true) : CP p fn args h = (CS p fn args []).bind fun r => purA r.2 r.1 := by
 unfold CP callP CS
 rw [if_pos hp]
 cases callS p (ev p) fn args [] <;> rfl
theorem after_ret (rs : List IRes) (s : St) : after rs (some (.ret, s)) = (resOf s rs).map fun vs => (packR vs, s.h) := rfl
theorem after_norm (rs : List IRes) (s : St) : after rs (some (.norm, s)) = (resOf s rs).map fun vs => (packR vs, s.h) := rfl
end Go.Vs
