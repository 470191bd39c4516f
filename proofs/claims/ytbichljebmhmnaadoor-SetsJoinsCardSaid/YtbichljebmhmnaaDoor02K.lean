/- The document's Bytes; Ranges on both sides. -/
import Derived.Test.YtbichljebmhmnaaDoor02J
namespace Go.Proofs.Tryd
set_option linter.unusedSimpArgs false
set_option linter.unusedVariables false
open Go Go.Vs
/- ---------- the document's Bytes ---------- -/
def F23 (g n : Nat) (i : Int) : List AV := [.und, .ptr 0 0, .und, .sl 2 g 1 0 n, vi .i64 i, .und, .und, .und, .und, .und, .und, .und, .und, .und, .und, .und, .und, .und]
def E23 (g n : Nat) (i : Int) : List AV := [.und, .ptr 0 0, .und, .sl 2 g 1 0 n, vi .i64 i, vi .i64 i, vb false, .und, .und, .und, .und, .und, .und, .und, .und, .und, .und, .und]
def hp23 (s : I4) (g : Nat) (r : List (List AV)) : List AB := [.cells 29 (wds s), .row 5 1 0 [], .row 5 1 g r]
def lv23 : List Nat := [1, 3, 4]
theorem b23_t (s : I4) (g n g2 n2 : Nat) (r r2 : List (List AV)) (i i1 : Int) : roundD prg 10 [(6, .d true), (11, .v (vb true)), (14, .v (vi .u8 i)), (16, .r (.sl 2 g2 1 0 n2) (hp23 s g2 r2 ++ [.row 5 1 0 [[vi .u8 i]]])), (8, .v (vi .i64 i1)), (6000, .d true)] 3 lv23 ir23_l0 ⟨F23 g n i, hp23 s g r⟩ =
    some ([vb (i < 256) = vb true, CP prg 15 [setI s, vi .i64 i] (hp23 s g r) = some (vb true), convA .u8 (vi .i64 i) = some (vi .u8 i), appA (hp23 s g r ++ [.row 5 1 0 [[vi .u8 i]]]) 5 1 1 (.sl 2 g 1 0 n) (.sl 3 0 1 0 1) = some (.sl 2 g2 1 0 n2, hp23 s g2 r2 ++ [.row 5 1 0 [[vi .u8 i]]]), binA .add (vi .i64 i) (vi .i64 1) = some (vi .i64 i1),
      okT 3 (hp23 s g2 r2 ++ [.row 5 1 0 [[vi .u8 i]]]) = true], .norm, ⟨F23 g2 n2 i1, hp23 s g2 r2⟩) := by kernel_rfl
theorem b23_f (s : I4) (g n : Nat) (r : List (List AV)) (i i1 : Int) : roundD prg 10 [(6, .d true), (11, .v (vb false)), (8, .v (vi .i64 i1)), (6000, .d true)] 3 lv23 ir23_l0 ⟨F23 g n i, hp23 s g r⟩ =
    some ([vb (i < 256) = vb true, CP prg 15 [setI s, vi .i64 i] (hp23 s g r) = some (vb false), binA .add (vi .i64 i) (vi .i64 1) = some (vi .i64 i1), okT 3 (hp23 s g r) = true], .norm, ⟨F23 g n i1, hp23 s g r⟩) := by kernel_rfl
theorem b23_e (s : I4) (g n : Nat) (r : List (List AV)) (i : Int) : roundD prg 10 [(6, .d false)] 3 lv23 ir23_l0 ⟨F23 g n i, hp23 s g r⟩ = some ([vb (i < 256) = vb false], .brk 0, ⟨E23 g n i, hp23 s g r⟩) := by kernel_rfl
theorem okT_23 (s : I4) (g : Nat) (q : List Nat) (e : List AB) : okT 3 (hp23 s g (q.map byA) ++ e) = true := by
  have e3 : belows 3 (wds s) = true := rfl
  have e4 : (q.map byA).all (belows 3) = true := belows_by 3 q
  simp only [okT, hp23, List.cons_append, List.nil_append, List.length_cons, List.take_succ_cons, List.take_zero, List.all_cons, List.all_nil, AB.blw, e3, e4, Bool.and_true, decide_eq_true_eq]
  simp
theorem b23_loop (s : V4) : ∀ (n i : Nat) (g : Nat) (q : List Nat), i + n = 256 → q.length ≤ i → ∃ g2,
    evH prg 3 lv23 ir23_l0 ⟨F23 g q.length i, hp23 (ofV s) g (q.map byA)⟩ = some (.brk 0, ⟨E23 g2 (q ++ (List.range' i n).filter (has s)).length 256, hp23 (ofV s) g2 ((q ++ (List.range' i n).filter (has s)).map byA)⟩)
  | 0, i, g, q, h, hq => by
    obtain rfl : i = 256 := by omega
    refine ⟨g, ?_⟩
    have := round_brk (b23_e (ofV s) g q.length (q.map byA) 256) (by simp [AllP])
    simpa using this
  | n + 1, i, g, q, h, hq => by
    have hi : i < 256 := by omega
    have l47 : limit47 = 140737488355328 := rfl
    have c1 : vb (((i : Nat) : Int) < 256) = vb true := by rw [decide_eq_true (by omega)]
    rw [List.range'_succ, List.filter_cons]
    cases hh : has s i with
    | true =>
      obtain ⟨g2, ih⟩ := b23_loop s n (i + 1) (g + 1) (q ++ [i]) (by omega) (by simp; omega)
      refine ⟨g2, ?_⟩
      have hk := round_norm (b23_t (ofV s) g q.length (g + 1) (q ++ [i]).length (q.map byA) ((q ++ [i]).map byA) i ((i + 1 : Nat) : Int)) ?_
      · rw [hk]
        simpa using ih
      · simp only [AllP]
        refine ⟨c1, by rw [has15 s i hi, hh], q_conv8 _ hi, ?_, q_add _ (by omega), okT_23 _ _ _ _⟩
        have := app_more (t := 5) (size := 1) (bytes := 1) (h := hp23 (ofV s) g (q.map byA) ++ [.row 5 1 0 [[vi .u8 i]]]) (b := 2) (y := .sl 3 0 1 0 1) (r := [vi .u8 i]) (g := g) (rows := q.map byA) rfl rfl (by simp; omega)
        simp only [List.length_map] at this
        simp only [List.length_append, List.length_cons, List.length_nil, List.map_append, List.map_cons, List.map_nil]
        exact this
    | false =>
      obtain ⟨g2, ih⟩ := b23_loop s n (i + 1) g q (by omega) (by omega)
      refine ⟨g2, ?_⟩
      have hk := round_norm (b23_f (ofV s) g q.length (q.map byA) i ((i + 1 : Nat) : Int)) ?_
      · rw [hk]
        simpa using ih
      · simp only [AllP]
        refine ⟨c1, by rw [has15 s i hi, hh], q_add _ (by omega), ?_⟩
        have := okT_23 (ofV s) g q []
        simpa using this
theorem b23_c (s : I4) (g n : Nat) (r : List (List AV)) (ps : List (List PV)) : callD prg 10 [(2000, .l (.brk 0) ⟨E23 g n 256, hp23 s g r⟩), (3000, .v (.p (.lst 1 ps)))] 23 [setI s] =
    some ([evH prg 3 lv23 ir23_l0 ⟨F23 0 0 0, hp23 s 0 []⟩ = some (.brk 0, ⟨E23 g n 256, hp23 s g r⟩), purA (hp23 s g r) (.sl 2 g 1 0 n) = some (.p (.lst 1 ps))], .p (.lst 1 ps)) := by kernel_rfl
theorem filter_word (s : V4) (k : Nat) (hk : k < 4) : (List.range' (64 * k) 64).filter (has s) = bitsW (s.get k) k := by
  have e : List.range' (64 * k) 64 = (List.range' 0 64).map (64 * k + ·) := by
    rw [List.map_add_range', Nat.add_zero]
  unfold bitsW bits
  rw [e, List.filter_map]
  congr 1
  refine List.filter_congr (fun x hx => ?_)
  have hx' : x < 64 := by have := List.mem_range'_1.1 hx; omega
  simp only [Function.comp, has]
  rw [show (64 * k + x) / 64 = k from by omega, show (64 * k + x) % 64 = x from by omega]
theorem filter_has (s : V4) : (List.range' 0 256).filter (has s) = bytesS s := by
  have e : List.range' 0 256 = List.range' (64 * 0) 64 ++ (List.range' (64 * 1) 64 ++ (List.range' (64 * 2) 64 ++ List.range' (64 * 3) 64)) := by
    rw [show (64 * 2 : Nat) = 128 from rfl, show (64 * 3 : Nat) = 192 from rfl, show (64 * 1 : Nat) = 64 from rfl]
    rw [show (192 : Nat) = 128 + 64 from rfl, List.range'_append_1, show (128 : Nat) = 64 + 64 from rfl, List.range'_append_1, show List.range' 64 (64 + (64 + 64)) = List.range' (0 + 64) (64 + (64 + 64)) from rfl, List.range'_append_1]
  rw [e, List.filter_append, List.filter_append, List.filter_append, filter_word s 0 (by omega), filter_word s 1 (by omega), filter_word s 2 (by omega), filter_word s 3 (by omega)]
  rfl
theorem bytes23 (s : V4) (h : List AB) : CP prg 23 [setI (ofV s)] h = some (.p (bytesL (bytesS s))) := by
  obtain ⟨g2, hl⟩ := b23_loop s 256 0 0 [] (by omega) (by simp)
  rw [List.nil_append, filter_has] at hl
  refine CP_D (b23_c (ofV s) g2 (bytesS s).length ((bytesS s).map byA) ((bytesS s).map byteRow)) ?_ rfl h
  simp only [AllP]
  refine ⟨hl, ?_⟩
  have := purA_sl (h := hp23 (ofV s) g2 ((bytesS s).map byA)) (b := 2) (g := g2) (size := 1) (len := (bytesS s).length) (t := 5) (rows := (bytesS s).map byA) (ps := (bytesS s).map byteRow) rfl (by simp) (by rw [show (bytesS s).length = ((bytesS s).map byA).length from by simp, List.take_length]; exact pur_by _ _ _)
  simp only [purAs] at this
  split at this
  · rename_i y ys e1 e2
    simp only [Option.some.injEq, List.cons.injEq] at this e2
    rw [e1, this.1]
  · cases this
end Go.Proofs.Tryd
