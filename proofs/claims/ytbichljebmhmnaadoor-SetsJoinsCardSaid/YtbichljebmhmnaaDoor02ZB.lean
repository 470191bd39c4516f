/- 'SetsMakes': what the run leaves to be shown. -/
import Derived.Test.YtbichljebmhmnaaDoor02Z
namespace Go.Proofs.Tryd
set_option linter.unusedSimpArgs false
set_option linter.unusedVariables false
open Go Go.Vs
theorem sl_ok {h : List AB} {b g size len n : Nat} {t : TypeId} {rows : List (List AV)} {m : Int} (hb : h[b]? = some (.row t size g rows)) (h1 : len ≤ rows.length) (h2 : n ≤ rows.length) (hm : m = n) : slA h size (.sl b g size 0 len) (some 0) (some m) = some (.sl b g size 0 n) := by
  subst hm
  unfold slA
  simp only [if_true, Option.bind_some, hb]
  rw [if_pos ⟨trivial, by omega, by omega, by omega, by omega⟩]
  rfl
theorem idx_sl {b g size len i : Nat} {k : Int} (h : i < len) (hk : k = i) : idxA size (.sl b g size 0 len) (vi .i64 k) = some (.rp b g size i 0) := by
  subst hk
  simp only [idxA, idx, Option.bind_some]
  rw [if_pos ⟨trivial, by omega, by omega⟩]
  simp
theorem ld_row {h : List AB} {b g size k off n : Nat} {agg : Bool} {t : TypeId} {rows : List (List AV)} {r cs : List AV} (hb : h[b]? = some (.row t size g rows)) (hr : rows[k]? = some r) (hs : sub r off n = some cs) : ldA h agg n (.rp b g size k off) = oneOr agg cs := by
  simp only [ldA, loadA, hb, and_self, if_true, hr, Option.bind_some, hs]
theorem purP_vi (h : List AB) (n : Nat) (v : Value) : purP h (n + 1) (.p (.val v)) = some (.val v) := by simp [purP]
theorem pur_rg (h : List AB) (n : Nat) (l : List (Nat × Nat)) : mapO (mapO (purP h (n + 1))) (l.map rgA) = some (l.map rgRow) := by
  induction l with
  | nil => rfl
  | cons x l ih =>
    simp only [List.map_cons, mapO, ih, rgA, rgRow, purP_vi]
theorem pur_by (h : List AB) (n : Nat) (l : List Nat) : mapO (mapO (purP h (n + 1))) (l.map byA) = some (l.map byteRow) := by
  induction l with
  | nil => rfl
  | cons x l ih =>
    simp only [List.map_cons, mapO, ih, byA, byteRow, purP_vi]
theorem purA_sl {h : List AB} {b g size len : Nat} {t : TypeId} {rows : List (List AV)} {ps : List (List PV)} (hb : h[b]? = some (.row t size g rows)) (hl : len ≤ rows.length) (hp : mapO (mapO (purP h 49)) (rows.take len) = some ps) : purAs h [.sl b g size 0 len] = some [.p (.lst size ps)] := by
  simp only [purAs, purA, purP, hb]
  rw [if_pos ⟨trivial, trivial, by omega⟩]
  simp only [List.drop_zero, hp, Option.map_some]
def mkS (l : List (Nat × Nat)) : V4 := (mk l V0).getD V0
def mkE (l : List (Nat × Nat)) : Int := if (mk l V0).isSome then 0 else 4
theorem mkRes_eq (l : List (Nat × Nat)) : mkRes l = .tup [setI (ofV (mkS l)), vi .i64 (mkE l)] := by
  unfold mkRes mkS mkE
  cases mk l V0 with
  | none => rfl
  | some s => rfl
theorem bytesOf_by (l : List Nat) : bytesOf (l.map byA) = some (l.map fun b : Nat => UInt8.ofNat ((b : Int).toNat)) := by
  induction l with
  | nil => rfl
  | cons x l ih => simp only [List.map_cons, byA, bytesOf, ih, Option.map_some]
theorem belows_rg (n : Nat) (l : List (Nat × Nat)) : (l.map rgA).all (belows n) = true := by
  rw [List.all_eq_true]
  intro r hr
  obtain ⟨x, _, rfl⟩ := List.mem_map.1 hr
  rfl
theorem belows_by (n : Nat) (l : List Nat) : (l.map byA).all (belows n) = true := by
  rw [List.all_eq_true]
  intro r hr
  obtain ⟨x, _, rfl⟩ := List.mem_map.1 hr
  rfl
theorem okT_hM (gm gc : Nat) (l : List (Nat × Nat)) (b : List Nat) (x : List AV) (y : List AV) (hx : belows 7 x = true) (hy : belows 7 y = true) (s t o : I4) : okT 7 (hM gm gc (l.map rgA ++ [x]) (b.map byA ++ [y]) s t o) = true := by
  have e1 : (l.map rgA ++ [x]).all (belows 7) = true := by rw [List.all_append, belows_rg]; simp [hx]
  have e2 : (b.map byA ++ [y]).all (belows 7) = true := by rw [List.all_append, belows_by]; simp [hy]
  have e3 : ∀ u : I4, belows 7 (wds u) = true := fun u => rfl
  simp only [okT, hM, List.length_cons, List.length_nil, List.take_succ_cons, List.take_zero, List.all_cons, List.all_nil, AB.blw, e1, e2, e3]
  rfl

/-- The loop that looks whether the list is as it was. -/
theorem makes_loop (l : List (Nat × Nat)) (b : List Nat) (gm gc : Nat) (hm : gm = 1 ∨ gm = 2) (s t o : I4) (at' e : Int) (hn : l.length ≤ 300) : ∀ (n i : Nat), i + n = l.length →
    evH prg 7 lv3 ir3_l0 ⟨F3 gm gc (l.map rgRow) (b.map byteRow) at' e i, hM gm gc (l.map rgA ++ [[vi .u8 7, vi .u8 3]]) (b.map byA ++ [[vi .u8 165]]) s t o⟩ =
      some (.brk 0, ⟨E3 gm gc (l.map rgRow) (b.map byteRow) at' e l.length, hM gm gc (l.map rgA ++ [[vi .u8 7, vi .u8 3]]) (b.map byA ++ [[vi .u8 165]]) s t o⟩)
  | 0, i, h => by
    obtain rfl : i = l.length := by omega
    exact round_brk (makes_e gm gc (l.map rgRow) (b.map byteRow) _ _ s t o at' e l.length) (by simp [AllP])
  | n + 1, i, h => by
    have hi : i < l.length := by omega
    rw [← makes_loop l b gm gc hm s t o at' e hn n (i + 1) (by omega)]
    refine round_norm (makes_k gm gc hm (l.map rgRow) (b.map byteRow) _ _ s t o at' e i ((i + 1 : Nat) : Int) (l[i].1 : Nat) (l[i].2 : Nat) i) ?_
    simp only [AllP]
    refine ⟨by simp [hi], idx_sl (by simpa using hi) rfl, ?_, idx_rg (by simp [hi]), by simp, q_add _ (by omega), okT_hM _ _ _ _ _ _ rfl rfl _ _ _⟩
    rw [ld_row (r := rgA l[i]) (cs := rgA l[i]) rfl (by rw [List.getElem?_append_left (by simpa using hi)]; simp [hi]) rfl]
    rfl

def V1 : V4 := ⟨BitVec.allOnes 64, BitVec.allOnes 64, BitVec.allOnes 64, BitVec.allOnes 64⟩
theorem has_V1 (c : Nat) (hc : c < 256) : has V1 c = true := by
  unfold has V1
  have : c % 64 < 64 := by omega
  match c / 64 with
  | 0 => simp only [V4.get, BitVec.getLsbD_allOnes, this, decide_true]
  | 1 => simp only [V4.get, BitVec.getLsbD_allOnes, this, decide_true]
  | 2 => simp only [V4.get, BitVec.getLsbD_allOnes, this, decide_true]
  | _ + 3 => simp only [V4.get, BitVec.getLsbD_allOnes, this, decide_true]
theorem allI_eq : allI = ofV (build fun b => !has V0 b) := by
  rw [← build_of (s := V1) (fun c hc => by rw [has_V1 c hc, has_V0]; rfl)]
  rfl
theorem eq4_self (s : I4) : eq4 s s = true := by simp [eq4]

theorem makes (l : List (Nat × Nat)) (b : List Nat) (at' : Nat) (hl : ∀ x ∈ l, x.1 < 256 ∧ x.2 < 256) (hb : ∀ x ∈ b, x < 256) (ha : at' < 256) (hn : l.length ≤ 300) (hnb : b.length ≤ 1000) (h8 : ∀ h, CP prg 8 [] h = some (vb true)) (h : List AB) :
    CP prg 3 [.p (rgL l), .p (bytesL b), vi .u8 at'] h = some (vb true) := by
  have l47 : limit47 = 140737488355328 := rfl
  have glt : ∀ {α : Type} (q : List α), (gn q = 0 ∧ gn q + 1 = 1) ∨ (gn q = 1 ∧ gn q + 1 = 2) := by
    intro α q
    cases q with
    | nil => exact .inl ⟨rfl, rfl⟩
    | cons _ _ => exact .inr ⟨rfl, rfl⟩
  have hrun := makes_c (gn (l.map rgA)) (gn (l.map rgA) + 1) (gn (b.map byA)) (gn (b.map byA) + 1) (glt _) (glt _) (l.map rgRow) (b.map byteRow) (l.map rgA) (l.map rgA ++ [[vi .u8 7, vi .u8 3]]) (b.map byA) (b.map byA ++ [[vi .u8 165]])
    (ofV (mkS l)) (ofV (ofL b)) allI at' (mkE l) l.length ((l.length + 1 : Nat) : Int) ((b.length + 1 : Nat) : Int) (l.length + 1) (b.length + 1) ⟨(b.map fun b : Nat => UInt8.ofNat ((b : Int).toNat)).toArray⟩ (has (mkS l) at')
  refine CP_D hrun ?_ rfl h
  have gm12 : gn (l.map rgA) + 1 = 1 ∨ gn (l.map rgA) + 1 = 2 := (glt (l.map rgA)).imp (·.2) (·.2)
  simp only [AllP, List.length_map]
  have tk1 : (l.map rgA ++ [[vi .u8 7, vi .u8 3]]).take l.length = l.map rgA := by simp
  have tk2 : (b.map byA ++ [[vi .u8 165]]).take b.length = b.map byA := by simp
  refine ⟨?_, ?_, ?_, ?_, ?_, ?_, ?_, ?_, ?_, ?_, ?_, ?_, ?_, ?_, ?_, ?_, ?_, ?_, ?_, ?_, ?_, ?_, ?_, ?_, ?_, ?_, ?_, ?_, ?_, ?_, ?_, ?_, ?_, ?_, ?_, ?_, ?_⟩
  · rw [decide_eq_false (by omega)]
  · rw [decide_eq_false (by omega)]
  · have := app_first (t := 26) (size := 2) (bytes := 2) (h := [.row 26 2 0 []]) (b := 0) (y := .p (rgL l)) rfl (rows_rg l _) (by simp; omega)
    simpa [rgL, bytesL] using this
  · have := app_more (t := 26) (size := 2) (bytes := 2) (h := [.row 26 2 (gn (l.map rgA)) (l.map rgA), .row 26 2 0 [[vi .u8 7, vi .u8 3]]]) (b := 0) (y := .sl 1 0 2 0 1) (r := [vi .u8 7, vi .u8 3]) rfl rfl (by simp; omega)
    simpa [rgL, bytesL] using this
  · exact sl_ok rfl (by simp) (by simp) rfl
  · have := app_first (t := 5) (size := 1) (bytes := 1) (h := [.row 26 2 (gn (l.map rgA) + 1) (l.map rgA ++ [[vi .u8 7, vi .u8 3]]), .row 26 2 0 [[vi .u8 7, vi .u8 3]], .row 5 1 0 []]) (b := 2) (y := .p (bytesL b)) rfl (rows_by b _) (by simp; omega)
    simpa [rgL, bytesL] using this
  · have := app_more (t := 5) (size := 1) (bytes := 1) (h := [.row 26 2 (gn (l.map rgA) + 1) (l.map rgA ++ [[vi .u8 7, vi .u8 3]]), .row 26 2 0 [[vi .u8 7, vi .u8 3]], .row 5 1 (gn (b.map byA)) (b.map byA), .row 5 1 0 [[vi .u8 165]]]) (b := 2) (y := .sl 3 0 1 0 1) (r := [vi .u8 165]) rfl rfl (by simp; omega)
    simpa [rgL, bytesL] using this
  · exact sl_ok rfl (by simp) (by simp) rfl
  · obtain ⟨h', hc⟩ := mk9 l hl (by omega)
    rw [mkRes_eq] at hc
    exact CP_own rfl (purA_sl rfl (by simp) (by rw [tk1]; exact pur_rg _ _ _)) hc rfl
  · obtain ⟨h', hc⟩ := mk10 l hl (by omega)
    rw [mkRes_eq] at hc
    exact CP_pure rfl hc rfl _
  · obtain ⟨h', hc⟩ := of11 b hb (by omega)
    exact CP_own rfl (purA_sl rfl (by simp) (by rw [tk2]; exact pur_by _ _ _)) hc rfl
  · exact okT_hM _ _ _ _ _ _ rfl rfl _ _ _
  · have := makes_loop l b (gn (l.map rgA) + 1) (gn (b.map byA) + 1) gm12 (ofV (mkS l)) (ofV (mkS l)) (ofV (ofL b)) at' (mkE l) hn l.length 0 (by omega)
    exact this
  · exact q_add _ (by omega)
  · exact sl_ok rfl (by simp) (by simp) rfl
  · exact idx_sl (by simp) rfl
  · rw [ld_row (r := [vi .u8 7, vi .u8 3]) (cs := [vi .u8 3]) rfl (by simp) rfl]
    rfl
  · have hr : rowsOf (hM (gn (l.map rgA) + 1) (gn (b.map byA) + 1) (l.map rgA ++ [[vi .u8 7, vi .u8 3]]) (b.map byA ++ [[vi .u8 165]]) (ofV (mkS l)) (ofV (mkS l)) (ofV (ofL b))) 1 (.sl 2 (gn (b.map byA) + 1) 1 0 b.length) = some (b.map byA) := by
      have e : (hM (gn (l.map rgA) + 1) (gn (b.map byA) + 1) (l.map rgA ++ [[vi .u8 7, vi .u8 3]]) (b.map byA ++ [[vi .u8 165]]) (ofV (mkS l)) (ofV (mkS l)) (ofV (ofL b)))[2]? = some (.row 5 1 (gn (b.map byA) + 1) (b.map byA ++ [[vi .u8 165]])) := rfl
      simp only [rowsOf, if_true, e]
      rw [if_pos ⟨trivial, trivial, by simp⟩]
      rw [List.drop_zero, tk2]
    simp only [cvB, hr, Option.bind_some, bytesOf_by, Option.map_some]
  · simp only [cvB, show (PV.lst 1 (b.map byteRow)) = bytesL b from rfl, rows_by, Option.bind_some, bytesOf_by, Option.map_some]
  · simp
  · exact q_add _ (by omega)
  · exact sl_ok rfl (by simp) (by simp) rfl
  · exact idx_sl (by simp) rfl
  · rw [ld_row (r := [vi .u8 165]) (cs := [vi .u8 165]) rfl (by simp) rfl]
    rfl
  · simp only [T, eq4_self]
  · exact num12 _ _
  · simp [T]
  · obtain ⟨h', hc⟩ := of13 b hb (by omega)
    exact CP_pure rfl hc rfl _
  · simp only [T, eq4_self]
  · exact has14 _ _ ha _
  · exact q_conv _ _ ha
  · exact has15 _ _ ha _
  · simp [T]
  · exact all16 _
  · have := not17 V0 (hM (gn (l.map rgA) + 1) (gn (b.map byA) + 1) (l.map rgA ++ [[vi .u8 7, vi .u8 3]]) (b.map byA ++ [[vi .u8 165]]) (ofV (mkS l)) (ofV (mkS l)) (ofV (ofL b)))
    rw [← allI_eq] at this
    exact this
  · simp only [T, eq4_self]
  · exact h8 _
theorem big1 (rl rb : List (List PV)) (at' : Int) : callD prg 10 [(17, .d true), (23, .v (vb true))] 3 [.p (.lst 2 rl), .p (.lst 1 rb), vi .u8 at'] = some ([vb ((rl.length : Int) > 300) = vb true, CP prg 8 [] [] = some (vb true)], vb true) := by kernel_rfl
theorem big2 (rl rb : List (List PV)) (at' : Int) : callD prg 10 [(17, .d false), (21, .d true), (23, .v (vb true))] 3 [.p (.lst 2 rl), .p (.lst 1 rb), vi .u8 at'] = some ([vb ((rl.length : Int) > 300) = vb false, vb ((rb.length : Int) > 1000) = vb true, CP prg 8 [] [] = some (vb true)], vb true) := by kernel_rfl
theorem makesAll (l : List (Nat × Nat)) (b : List Nat) (at' : Nat) (hl : ∀ x ∈ l, x.1 < 256 ∧ x.2 < 256) (hb : ∀ x ∈ b, x < 256) (ha : at' < 256) (h8 : ∀ h, CP prg 8 [] h = some (vb true)) (h : List AB) :
    CP prg 3 [.p (rgL l), .p (bytesL b), vi .u8 at'] h = some (vb true) := by
  by_cases h1 : l.length ≤ 300
  · by_cases h2 : b.length ≤ 1000
    · exact makes l b at' hl hb ha h1 h2 h8 h
    · refine CP_D (big2 (l.map rgRow) (b.map byteRow) at') ?_ rfl h
      simp only [AllP, List.length_map]
      refine ⟨?_, ?_, h8 _⟩
      · rw [decide_eq_false (by omega)]
      · rw [decide_eq_true (by omega)]
  · refine CP_D (big1 (l.map rgRow) (b.map byteRow) at') ?_ rfl h
    simp only [AllP, List.length_map]
    refine ⟨?_, h8 _⟩
    rw [decide_eq_true (by omega)]
end Go.Proofs.Tryd
