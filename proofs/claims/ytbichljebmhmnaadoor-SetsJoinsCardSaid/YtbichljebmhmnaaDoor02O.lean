/- Ranges of the program; Both and the unions; the other joins. -/
import Derived.Test.YtbichljebmhmnaaDoor02N
namespace Go.Proofs.Tryd
set_option linter.unusedSimpArgs false
set_option linter.unusedVariables false
open Go Go.Vs
theorem q_sub8 (c : Nat) (h : c < 256) : binA .sub (vi .u8 c) (vi .u8 1) = some (vi .u8 (((c + 255) % 256 : Nat) : Int)) := by
  have e : IntKind.u8.wrap ((c : Int) - 1) = (((c + 255) % 256 : Nat) : Int) := by
    rw [IntKind.wrap_u8]
    omega
  simp only [binA, binV, intOp, if_true]
  rw [e]
  rfl
theorem okT_25 (s : I4) (g n : Nat) (q : List (Nat × Nat)) (e : List AB) : okT 5 ((h25 s g n (q.map rgA) ++ [l25 s]) ++ e) = true := by
  have e3 : belows 5 (wds s) = true := rfl
  have e4 : (q.map rgA).all (belows 5) = true := belows_rg 5 q
  have e5 : belows 5 [AV.sl 2 g 2 0 n] = true := rfl
  have e6 : belows 5 (g25 s) = true := rfl
  simp only [okT, h25, l25, List.cons_append, List.nil_append, List.length_cons, List.take_succ_cons, List.take_zero, List.all_cons, List.all_nil, AB.blw, e3, e4, e5, e6, Bool.and_true, decide_eq_true_eq]
  simp
theorem y25 (s : I4) : ∀ (q : List Nat), (∀ c ∈ q, c < 256) → ∀ (g : Nat) (R : List (Nat × Nat)), R.length + q.length ≤ 256 → (∀ x ∈ R, x.1 < 256 ∧ x.2 < 256) → ∃ g2,
    YR 4 5 q (h25 s g R.length (R.map rgA) ++ [l25 s]) (h25 s g2 (q.foldl rstep R).length ((q.foldl rstep R).map rgA) ++ [l25 s]) false
  | [], _, g, R, _, _ => ⟨g, .nil _⟩
  | c :: q, hq, g, R, hR, hx => by
    have hc : c < 256 := hq c (List.mem_cons_self ..)
    have l47 : limit47 = 140737488355328 := rfl
    have hlt := rstep_lt R c hc hx
    have hlen := rstep_len R c
    simp only [List.length_cons] at hR
    rw [List.foldl_cons]
    have app : ∀ (R : List (Nat × Nat)) (g : Nat), R.length ≤ 256 → appA (h25 s g R.length (R.map rgA) ++ [l25' s, .row 26 2 0 [[vi .u8 (c : Nat), vi .u8 (c : Nat)]]]) 26 2 2 (.sl 2 g 2 0 R.length) (.sl 5 0 2 0 1) =
        some (.sl 2 (g + 1) 2 0 (R ++ [(c, c)]).length, [.cells 29 (wds s), .row 26 2 0 [], .row 26 2 (g + 1) ((R ++ [(c, c)]).map rgA), .cells 22 [.sl 2 g 2 0 R.length], l25' s, .row 26 2 0 [[vi .u8 (c : Nat), vi .u8 (c : Nat)]]]) := by
      intro R g hRl
      have := app_more (t := 26) (size := 2) (bytes := 2) (h := h25 s g R.length (R.map rgA) ++ [l25' s, .row 26 2 0 [[vi .u8 (c : Nat), vi .u8 (c : Nat)]]]) (b := 2) (y := .sl 5 0 2 0 1) (r := [vi .u8 (c : Nat), vi .u8 (c : Nat)]) (g := g) (rows := R.map rgA) rfl rfl (by simp; omega)
      simp only [List.length_map] at this
      simp only [List.length_append, List.length_cons, List.length_nil, List.map_append, List.map_cons, List.map_nil]
      exact this
    rcases snoc_or R with rfl | ⟨Q, x, rfl⟩
    · obtain ⟨g2, ih⟩ := y25 s q (fun d hd => hq d (List.mem_cons_of_mem _ hd)) (g + 1) (rstep [] c) (by simp [rstep_nil] at hR ⊢; omega) hlt
      refine ⟨g2, ?_⟩
      refine .go c q _ (h25 s (g + 1) 1 ([(c, c)].map rgA) ++ [l25 s]) [.row 26 2 0 [[vi .u8 (c : Nat), vi .u8 (c : Nat)]]] _ false (callY_D (y25_n s g 0 (g + 1) 1 [] ([(c, c)].map rgA) (c : Nat)) ?_) rfl (okT_25 _ _ _ _ _) ih
      simp only [AllP]
      exact ⟨by simp, app [] g (by simp)⟩
    · have hx1 := hx x (by simp)
      have hn1 : ((Q ++ [x]).length : Int) = ((Q.length + 1 : Nat) : Int) := by simp
      have c3 : vb (((Q ++ [x]).length : Int) > 0) = vb true := by rw [decide_eq_true (by simp)]
      have c4 : binA .sub (vi .i64 ((Q ++ [x]).length : Int)) (vi .i64 1) = some (vi .i64 Q.length) := by rw [hn1]; exact q_sub _ (by simp at hR; omega)
      have c5 : idxA 2 (.sl 2 g 2 0 (Q ++ [x]).length) (vi .i64 (Q.length : Nat)) = some (.rp 2 g 2 Q.length 0) := idx_sl (by simp) rfl
      have c6 : ldA (h25 s g (Q ++ [x]).length ((Q ++ [x]).map rgA) ++ [l25' s]) false 1 (.rp 2 g 2 Q.length 1) = some (vi .u8 x.2) := ld_last (t := 26) rfl
      by_cases he : x.2 + 1 = c
      · have er : rstep (Q ++ [x]) c = Q ++ [(x.1, c)] := by rw [rstep_snoc, if_pos he]
        obtain ⟨g2, ih⟩ := y25 s q (fun d hd => hq d (List.mem_cons_of_mem _ hd)) g (rstep (Q ++ [x]) c) (by rw [er]; simp at hR ⊢; omega) hlt
        refine ⟨g2, ?_⟩
        have e1 : (Q ++ [(x.1, c)]).length = (Q ++ [x]).length := by simp
        rw [er] at ih
        rw [er]
        rw [e1] at ih
        refine .go c q _ (h25 s g (Q ++ [x]).length ((Q ++ [(x.1, c)]).map rgA) ++ [l25 s]) [] _ false (callY_D (y25_x s g (Q ++ [x]).length Q.length ((Q ++ [x]).map rgA) ((Q ++ [(x.1, c)]).map rgA) (c : Nat) (Q.length : Nat) (x.2 : Nat) (((c + 255) % 256 : Nat) : Int)) ?_) rfl (okT_25 _ _ _ _ _) ih
        simp only [AllP]
        refine ⟨c3, c4, c5, c6, q_sub8 c hc, ?_, ?_, c4, c5, ⟨st_last (t := 26) rfl, trivial⟩⟩
        · have : (((x.2 : Nat) : Int) == (((c + 255) % 256 : Nat) : Int)) = true := by simp; omega
          rw [this]
        · rw [decide_eq_true (by omega)]
      · have er : rstep (Q ++ [x]) c = Q ++ [x] ++ [(c, c)] := by rw [rstep_snoc, if_neg he]
        obtain ⟨g2, ih⟩ := y25 s q (fun d hd => hq d (List.mem_cons_of_mem _ hd)) (g + 1) (rstep (Q ++ [x]) c) (by omega) hlt
        refine ⟨g2, ?_⟩
        rw [er] at ih
        rw [er]
        by_cases heq : x.2 = (c + 255) % 256
        · refine .go c q _ (h25 s (g + 1) (Q ++ [x] ++ [(c, c)]).length ((Q ++ [x] ++ [(c, c)]).map rgA) ++ [l25 s]) [.row 26 2 0 [[vi .u8 (c : Nat), vi .u8 (c : Nat)]]] _ false (callY_D (y25_b s g (Q ++ [x]).length (g + 1) (Q ++ [x] ++ [(c, c)]).length Q.length ((Q ++ [x]).map rgA) ((Q ++ [x] ++ [(c, c)]).map rgA) (c : Nat) (Q.length : Nat) (x.2 : Nat) (((c + 255) % 256 : Nat) : Int)) ?_) rfl (okT_25 _ _ _ _ _) ih
          simp only [AllP]
          refine ⟨c3, c4, c5, c6, q_sub8 c hc, ?_, ?_, app (Q ++ [x]) g (by omega)⟩
          · have : (((x.2 : Nat) : Int) == (((c + 255) % 256 : Nat) : Int)) = true := by simp; omega
            rw [this]
          · rw [decide_eq_false (by omega)]
        · refine .go c q _ (h25 s (g + 1) (Q ++ [x] ++ [(c, c)]).length ((Q ++ [x] ++ [(c, c)]).map rgA) ++ [l25 s]) [.row 26 2 0 [[vi .u8 (c : Nat), vi .u8 (c : Nat)]]] _ false (callY_D (y25_a s g (Q ++ [x]).length (g + 1) (Q ++ [x] ++ [(c, c)]).length Q.length ((Q ++ [x]).map rgA) ((Q ++ [x] ++ [(c, c)]).map rgA) (c : Nat) (Q.length : Nat) (x.2 : Nat) (((c + 255) % 256 : Nat) : Int)) ?_) rfl (okT_25 _ _ _ _ _) ih
          simp only [AllP]
          refine ⟨c3, c4, c5, c6, q_sub8 c hc, ?_, app (Q ++ [x]) g (by omega)⟩
          have : (((x.2 : Nat) : Int) == (((c + 255) % 256 : Nat) : Int)) = false := by simp; omega
          rw [this]
theorem r25_c (s : I4) (g n : Nat) (r : List (List AV)) (ps : List (List PV)) : callD prg 10 [(7, .v (itF s)), (2000, .l .norm ⟨g25 s, h25 s g n r ++ [.dead]⟩), (3000, .v (.p (.lst 2 ps)))] 25 [setI s] =
    some ([CP prg 31 [setI s] (h25 s 0 0 []) = some (itF s), ev prg (.rangeF (.t 7) [8] ir25_a0 ir25_b0) ⟨g25 s, h25 s 0 0 []⟩ = some (.norm, ⟨g25 s, h25 s g n r ++ [.dead]⟩), purA (h25 s g n r ++ [.dead]) (.sl 2 g 2 0 n) = some (.p (.lst 2 ps))], .p (.lst 2 ps)) := by kernel_rfl
theorem ranges25 (s : V4) (h : List AB) : CP prg 25 [setI (ofV s)] h = some (.p (rgL (rgs (bytesS s)))) := by
  obtain ⟨g2, hy⟩ := y25 (ofV s) (bytesS s) (bytesS_lt s) 0 [] (by simpa using bytesS_len s) (by simp)
  refine CP_D (r25_c (ofV s) g2 (rgs (bytesS s)).length ((rgs (bytesS s)).map rgA) ((rgs (bytesS s)).map rgRow)) ?_ rfl h
  simp only [AllP]
  refine ⟨bytes31 _ _, ?_, purA_rg (t := 26) rfl⟩
  exact ev_range (h' := h25 (ofV s) g2 (rgs (bytesS s)).length ((rgs (bytesS s)).map rgA) ++ [l25 (ofV s)]) (v := .tup []) rfl (it4 s _ _ false rfl (okT_25 (ofV s) 0 0 [] []) hy) rfl
end Go.Proofs.Tryd
