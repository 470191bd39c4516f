/- 'SetsJoins': what the run leaves to be shown. -/
import Derived.Test.YtbichljebmhmnaaDoor02M
namespace Go.Proofs.Tryd
set_option linter.unusedSimpArgs false
set_option linter.unusedVariables false
open Go Go.Vs
def setRA (s : V4) : List AV := wds (ofV s)
theorem rows_set (l : List V4) (h : List AB) : rowsOf h 4 (.p (setsL l)) = some (l.map setRA) := by
  simp only [rowsOf, setsL, if_true, List.map_map]
  rfl
theorem pur_set (h : List AB) (n : Nat) (l : List V4) : mapO (mapO (purP h (n + 1))) (l.map setRA) = some (l.map setRow) := by
  induction l with
  | nil => rfl
  | cons x l ih =>
    simp only [List.map_cons, mapO, ih, setRA, setRow, wds, wdsP, purP_vi]
theorem belows_set (n : Nat) (l : List V4) : (l.map setRA).all (belows n) = true := by
  rw [List.all_eq_true]
  intro r hr
  obtain ⟨x, _, rfl⟩ := List.mem_map.1 hr
  rfl
theorem okT_h5 (a b u : I4) (gm : Nat) (l : List V4) : okT 5 (h5 a b u gm (l.map setRA ++ [wds allI])) = true := by
  have e1 : (l.map setRA ++ [wds allI]).all (belows 5) = true := by rw [List.all_append, belows_set]; rfl
  have e3 : ∀ u : I4, belows 5 (wds u) = true := fun u => rfl
  simp only [okT, h5, List.length_cons, List.length_nil, List.take_succ_cons, List.take_zero, List.all_cons, List.all_nil, AB.blw, e1, e3]
  rfl
theorem j5_loop (l : List V4) (gm : Nat) (hm : gm = 1 ∨ gm = 2) (a b u : I4) (hn : l.length ≤ 30) : ∀ (n i : Nat), i + n = l.length →
    evH prg 5 lv5 ir5_l1 ⟨F5 gm (l.map setRow) i, h5 a b u gm (l.map setRA ++ [wds allI])⟩ = some (.brk 0, ⟨E5 gm (l.map setRow) l.length, h5 a b u gm (l.map setRA ++ [wds allI])⟩)
  | 0, i, h => by
    obtain rfl : i = l.length := by omega
    exact round_brk (j5_e a b u gm _ (l.map setRow) l.length) (by simp [AllP])
  | n + 1, i, h => by
    have hi : i < l.length := by omega
    rw [← j5_loop l gm hm a b u hn n (i + 1) (by omega)]
    refine round_norm (j5_k a b u (ofV l[i]) gm hm _ (l.map setRow) i ((i + 1 : Nat) : Int) i) ?_
    simp only [AllP]
    refine ⟨by simp [hi], idx_sl (by simpa using hi) rfl, ?_, idx_set (by simp [hi]), by rw [eq4_self]; rfl, q_add _ (by omega), okT_h5 _ _ _ _ _⟩
    rw [ld_row (r := setRA l[i]) (cs := setRA l[i]) rfl (by rw [List.getElem?_append_left (by simpa using hi)]; simp [hi]) rfl]
    rfl
theorem k5_loop (R : List (Nat × Nat)) (hR : R.length < 4611686018427387904) (gm : Nat) (a b u : I4) (l : List V4) (rb : List (List PV)) (c : Int) : ∀ (n i : Nat), i + n = R.length →
    evH prg 5 lv5b ir5_l0 ⟨F5b rb (R.map rgRow) c i, h5 a b u gm (l.map setRA ++ [wds allI])⟩ = some (.brk 2, ⟨E5b rb (R.map rgRow) c R.length, h5 a b u gm (l.map setRA ++ [wds allI])⟩)
  | 0, i, h => by
    obtain rfl : i = R.length := by omega
    exact round_brk (k5_e a b u gm _ rb (R.map rgRow) c R.length) (by simp [AllP])
  | n + 1, i, h => by
    have hi : i < R.length := by omega
    rw [← k5_loop R hR gm a b u l rb c n (i + 1) (by omega)]
    refine round_norm (k5_k a b u gm _ rb (R.map rgRow) c i ((i + 1 : Nat) : Int) (R[i].1 : Nat) (R[i].2 : Nat)) ?_
    simp only [AllP]
    exact ⟨by simp [hi], idx_rg (by simp [hi]), idx_rg (by simp [hi]), by simp, q_add _ (by omega), okT_h5 _ _ _ _ _⟩
theorem rgs_len (l : List Nat) : ∀ R, (l.foldl rstep R).length ≤ R.length + l.length := by
  induction l with
  | nil => intro R; simp
  | cons c l ih =>
    intro R
    have h1 := ih (rstep R c)
    have h2 := rstep_len R c
    simp only [List.foldl_cons, List.length_cons]
    omega
theorem q_rem5 (b : Nat) : binA .rem (vi .i64 b) (vi .i64 5) = some (vi .i64 ((b % 5 : Nat) : Int)) := by
  have e : (b : Int).tmod 5 = ((b % 5 : Nat) : Int) := by
    rw [Int.tmod_eq_emod_of_nonneg (by omega)]
    rfl
  simp only [binA, binV, intOp, if_true]
  rw [if_neg (by omega), e]
  rfl
theorem N_build (x y : V4) : NV x y = build fun c => bk 2 (has x c) (has y c) := build_of fun c hc => has_N x y c hc
theorem M_build (x y : V4) : MV x y = build fun c => bk 0 (has x c) (has y c) := build_of fun c _ => has_M x y c
theorem X_build (x : V4) : XV x = build fun c => !has x c := build_of fun c hc => has_X x c hc
theorem joins (a b : V4) (l : List V4) (h8 : ∀ h, CP prg 8 [] h = some (vb true)) (h : List AB) : CP prg 5 [setI (ofV a), setI (ofV b), .p (setsL l)] h = some (vb true) := by
  by_cases hn : l.length ≤ 30
  · have l47 : limit47 = 140737488355328 := rfl
    have gg : (gn (l.map setRA) = 0 ∧ gn (l.map setRA) + 1 = 1) ∨ (gn (l.map setRA) = 1 ∧ gn (l.map setRA) + 1 = 2) := by
      cases l.map setRA with
      | nil => exact .inl ⟨rfl, rfl⟩
      | cons _ _ => exact .inr ⟨rfl, rfl⟩
    have gm12 := gg.imp (·.2) (·.2)
    have tk : (l.map setRA ++ [wds allI]).take l.length = l.map setRA := by simp
    have c1 : vb (((l.map setRow).length : Int) > 30) = vb false := by rw [decide_eq_false (by simp; omega)]
    have c2 : appA [.cells 29 (wds (ofV a)), .cells 29 (wds (ofV b)), .row 29 4 0 []] 29 4 32 (.sl 2 0 4 0 0) (.p (.lst 4 (l.map setRow))) = some (.sl 2 (gn (l.map setRA)) 4 0 (l.map setRow).length, [.cells 29 (wds (ofV a)), .cells 29 (wds (ofV b)), .row 29 4 (gn (l.map setRA)) (l.map setRA)]) := by
      have := app_first (t := 29) (size := 4) (bytes := 32) (h := [.cells 29 (wds (ofV a)), .cells 29 (wds (ofV b)), .row 29 4 0 []]) (b := 2) (y := .p (setsL l)) rfl (rows_set l _) (by simp; omega)
      simpa [setsL] using this
    have c3 : appA [.cells 29 (wds (ofV a)), .cells 29 (wds (ofV b)), .row 29 4 (gn (l.map setRA)) (l.map setRA), .row 29 4 0 [wds allI]] 29 4 32 (.sl 2 (gn (l.map setRA)) 4 0 (l.map setRow).length) (.sl 3 0 4 0 1) =
        some (.sl 2 (gn (l.map setRA) + 1) 4 0 (l.length + 1), [.cells 29 (wds (ofV a)), .cells 29 (wds (ofV b)), .row 29 4 (gn (l.map setRA) + 1) (l.map setRA ++ [wds allI]), .row 29 4 0 [wds allI]]) := by
      have := app_more (t := 29) (size := 4) (bytes := 32) (h := [.cells 29 (wds (ofV a)), .cells 29 (wds (ofV b)), .row 29 4 (gn (l.map setRA)) (l.map setRA), .row 29 4 0 [wds allI]]) (b := 2) (y := .sl 3 0 4 0 1) (r := wds allI) rfl rfl (by simp; omega)
      simpa using this
    have c4 : slA [.cells 29 (wds (ofV a)), .cells 29 (wds (ofV b)), .row 29 4 (gn (l.map setRA) + 1) (l.map setRA ++ [wds allI]), .row 29 4 0 [wds allI]] 4 (.sl 2 (gn (l.map setRA) + 1) 4 0 (l.length + 1)) (some 0) (some ((l.map setRow).length : Int)) = some (.sl 2 (gn (l.map setRA) + 1) 4 0 (l.map setRow).length) := sl_ok rfl (by simp) (by simp) rfl
    have c5 : CP prg 20 [.sl 2 (gn (l.map setRA) + 1) 4 0 (l.map setRow).length] [.cells 29 (wds (ofV a)), .cells 29 (wds (ofV b)), .row 29 4 (gn (l.map setRA) + 1) (l.map setRA ++ [wds allI]), .row 29 4 0 [wds allI]] = some (setI (ofV (unL l))) := by
      obtain ⟨h', hc⟩ := union20 l (by omega)
      exact CP_own rfl (purA_sl rfl (by simp) (by rw [List.length_map, tk]; exact pur_set _ _ _)) hc rfl
    have c6 := j5_loop l (gn (l.map setRA) + 1) gm12 (ofV a) (ofV b) (ofV (unL l)) hn l.length 0 (by omega)
    have hRl : (rgs (bytesS a)).length < 4611686018427387904 := by
      have h1 := rgs_len (bytesS a) []
      have h2 := bytesS_len a
      unfold rgs
      simp only [List.length_nil] at h1
      omega
    have c8 : vb (!((win (ofV a) (ofV b) == eq4 (ofV (NV a b)) zI) && true)) = vb false := by
      unfold win
      rw [N_v]
      simp
    have e8 : ∀ x : I4, vb (!(eq4 x x)) = vb false := fun x => by rw [eq4_self]; rfl
    have c9 : ∀ n : Int, vb (n != n) = vb false := fun n => by simp
    cases e : bytesS a with
    | nil =>
      have hrun := j5_f (ofV a) (ofV b) (ofV (unL l)) (ofV (MV a b)) (ofV (NV a b)) (ofV (XV a)) (gn (l.map setRA)) (gn (l.map setRA) + 1) gg (l.map setRA) (l.map setRA ++ [wds allI]) (l.map setRow) ((bytesS a).map byteRow) ((rgs (bytesS a)).map rgRow) l.length (rgs (bytesS a)).length ((bytesS a).length : Nat) 0 (l.length + 1) (win (ofV a) (ofV b))
      refine CP_D hrun ?_ rfl h
      have c7 := k5_loop (rgs (bytesS a)) hRl (gn (l.map setRA) + 1) (ofV a) (ofV b) (ofV (unL l)) l ((bytesS a).map byteRow) 0 (rgs (bytesS a)).length 0 (by omega)
      have cl := least a (h5 (ofV a) (ofV b) (ofV (unL l)) (gn (l.map setRA) + 1) (l.map setRA ++ [wds allI]))
      rw [e] at cl
      simp only [AllP]
      refine ⟨c1, c2, all16 _, c3, c4, c5, okT_h5 _ _ _ _ _, c6, bytes23 a _, cl, by rw [e]; rfl, ranges25 a _, ranges26 a _, c9 _, union27 l (by omega) _, e8 _, meet18 a b _, ?_, e8 _, without21 a b _, ?_, e8 _, not29 a _, ?_, e8 _, within22 a b _, ?_, c8, count30 a _, by rw [List.length_map]; exact c9 _, c9 _, rfl, okT_h5 _ _ _ _ _, c7, bytes31 _ _, q_conv .u8 0 (by omega), q_rem5 0, goes a 0 _, goes a 0 _, h8 _⟩
      · rw [M_build]; exact both28 a b 0 (by omega) _
      · rw [N_build]; exact both28 a b 2 (by omega) _
      · rw [X_build]; exact not17 a _
      · rw [N_build]; exact both28 a b 2 (by omega) _
    | cons c q =>
      have hc : c < 256 := bytesS_lt a c (by rw [e]; simp)
      have hrun := j5_t (ofV a) (ofV b) (ofV (unL l)) (ofV (MV a b)) (ofV (NV a b)) (ofV (XV a)) (gn (l.map setRA)) (gn (l.map setRA) + 1) gg (l.map setRA) (l.map setRA ++ [wds allI]) (l.map setRow) ((bytesS a).map byteRow) ((rgs (bytesS a)).map rgRow) c l.length (rgs (bytesS a)).length ((bytesS a).length : Nat) ((c % 5 : Nat) : Int) (l.length + 1) (win (ofV a) (ofV b))
      refine CP_D hrun ?_ rfl h
      have c7 := k5_loop (rgs (bytesS a)) hRl (gn (l.map setRA) + 1) (ofV a) (ofV b) (ofV (unL l)) l ((bytesS a).map byteRow) c (rgs (bytesS a)).length 0 (by omega)
      have cl := least a (h5 (ofV a) (ofV b) (ofV (unL l)) (gn (l.map setRA) + 1) (l.map setRA ++ [wds allI]))
      rw [e] at cl
      simp only [AllP]
      refine ⟨c1, c2, all16 _, c3, c4, c5, okT_h5 _ _ _ _ _, c6, bytes23 a _, cl, ?_, idx_byte (i := 0) (by rw [e]; rfl), ranges25 a _, ranges26 a _, c9 _, union27 l (by omega) _, e8 _, meet18 a b _, ?_, e8 _, without21 a b _, ?_, e8 _, not29 a _, ?_, e8 _, within22 a b _, ?_, c8, count30 a _, by rw [List.length_map]; exact c9 _, c9 _, rfl, okT_h5 _ _ _ _ _, c7, bytes31 _ _, q_conv .u8 c hc, q_rem5 c, goes a (c % 5) _, goes a 0 _, h8 _⟩
      · rw [e, decide_eq_true (by simp)]
      · rw [M_build]; exact both28 a b 0 (by omega) _
      · rw [N_build]; exact both28 a b 2 (by omega) _
      · rw [X_build]; exact not17 a _
      · rw [N_build]; exact both28 a b 2 (by omega) _
  · refine CP_D (j5_big (ofV a) (ofV b) (l.map setRow)) ?_ rfl h
    simp only [AllP, List.length_map]
    refine ⟨?_, h8 _⟩
    rw [decide_eq_true (by omega)]
end Go.Proofs.Tryd
