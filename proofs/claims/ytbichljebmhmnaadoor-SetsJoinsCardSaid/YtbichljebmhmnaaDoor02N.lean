/- Ranges, on both sides. -/
import Derived.Test.YtbichljebmhmnaaDoor02K
namespace Go.Proofs.Tryd
set_option linter.unusedSimpArgs false
set_option linter.unusedVariables false
open Go Go.Vs
/-- One byte more, of rising ones. -/
def rstep (R : List (Nat × Nat)) (c : Nat) : List (Nat × Nat) :=
  match R.getLast? with
  | none => [(c, c)]
  | some x => if x.2 + 1 = c then R.dropLast ++ [(x.1, c)] else R ++ [(c, c)]
theorem rstep_nil (c : Nat) : rstep [] c = [(c, c)] := rfl
theorem rstep_snoc (Q : List (Nat × Nat)) (x : Nat × Nat) (c : Nat) : rstep (Q ++ [x]) c = if x.2 + 1 = c then Q ++ [(x.1, c)] else Q ++ [x] ++ [(c, c)] := by
  simp [rstep]
theorem snoc_or {α : Type} (R : List α) : R = [] ∨ ∃ Q x, R = Q ++ [x] := by
  rcases List.eq_nil_or_concat R with h | ⟨Q, x, h⟩
  · exact .inl h
  · exact .inr ⟨Q, x, by simpa using h⟩
theorem rstep_len (R : List (Nat × Nat)) (c : Nat) : (rstep R c).length ≤ R.length + 1 := by
  rcases snoc_or R with rfl | ⟨Q, x, rfl⟩
  · simp [rstep_nil]
  · rw [rstep_snoc]
    split <;> simp
theorem rstep_lt (R : List (Nat × Nat)) (c : Nat) (hc : c < 256) (h : ∀ x ∈ R, x.1 < 256 ∧ x.2 < 256) : ∀ x ∈ rstep R c, x.1 < 256 ∧ x.2 < 256 := by
  rcases snoc_or R with rfl | ⟨Q, x, rfl⟩
  · intro y hy
    simp [rstep_nil] at hy
    subst hy
    exact ⟨hc, hc⟩
  · rw [rstep_snoc]
    intro y hy
    split at hy
    · rcases List.mem_append.1 hy with hy | hy
      · exact h y (List.mem_append_left _ hy)
      · simp at hy; subst hy; exact ⟨(h x (by simp)).1, hc⟩
    · rcases List.mem_append.1 hy with hy | hy
      · exact h y hy
      · simp at hy; subst hy; exact ⟨hc, hc⟩
def hp26 (s : I4) (g : Nat) (r : List (List AV)) : List AB := [.cells 29 (wds s), .row 26 2 0 [], .row 26 2 g r]
def F26 (g n : Nat) (b : List (List PV)) (i : Int) : List AV := [.und, .und, .und, .sl 2 g 2 0 n, .p (.lst 1 b), vi .i64 i, .und, .und, .und, .und, .und, .und, .und, .und, .und, .und, .und, .und, .und, .und, .und, .und, .und, .und, .und, .und, .und, .und, .und, .und, .und, .und, .und, .und, .und, .und, .und, .und, .und, .und, .und, .und, .und, .und, .und, .und, .und, .und, .und, .und, .und, .und, .und, .und, .und, .und, .und]
def E26 (g n : Nat) (b : List (List PV)) (i : Int) : List AV := [.und, .und, .und, .sl 2 g 2 0 n, .p (.lst 1 b), vi .i64 i, .und, .und, .und, vi .i64 i, .p (.lst 1 b), vi .i64 (b.length : Int), vb false, .und, .und, .und, .und, .und, .und, .und, .und, .und, .und, .und, .und, .und, .und, .und, .und, .und, .und, .und, .und, .und, .und, .und, .und, .und, .und, .und, .und, .und, .und, .und, .und, .und, .und, .und, .und, .und, .und, .und, .und, .und, .und, .und, .und]
def lv26 : List Nat := [3, 4, 5]
theorem r26_n (s : I4) (g n g2 n2 : Nat) (r r2 : List (List AV)) (b : List (List PV)) (i i1 c : Int) : roundD prg 10 [(12, .d true), (18, .d false), (47, .v (.ro [.val (.int .u8 c)])), (51, .v (.ro [.val (.int .u8 c)])), (55, .r (.sl 2 g2 2 0 n2) (hp26 s g2 r2 ++ [.row 26 2 0 [[vi .u8 c, vi .u8 c]]])), (14, .v (vi .i64 i1)), (6000, .d true)] 3 lv26 ir26_l0 ⟨F26 g n b i, hp26 s g r⟩ =
    some ([vb (i < (b.length : Int)) = vb true, vb ((n : Int) > 0) = vb false, idxA 1 (.p (.lst 1 b)) (vi .i64 i) = some (.ro [.val (.int .u8 c)]), idxA 1 (.p (.lst 1 b)) (vi .i64 i) = some (.ro [.val (.int .u8 c)]),
      appA (hp26 s g r ++ [.row 26 2 0 [[vi .u8 c, vi .u8 c]]]) 26 2 2 (.sl 2 g 2 0 n) (.sl 3 0 2 0 1) = some (.sl 2 g2 2 0 n2, hp26 s g2 r2 ++ [.row 26 2 0 [[vi .u8 c, vi .u8 c]]]), binA .add (vi .i64 i) (vi .i64 1) = some (vi .i64 i1), okT 3 (hp26 s g2 r2 ++ [.row 26 2 0 [[vi .u8 c, vi .u8 c]]]) = true], .norm, ⟨F26 g2 n2 b i1, hp26 s g2 r2⟩) := by kernel_rfl
theorem r26_a (s : I4) (g n g2 n2 j : Nat) (r r2 : List (List AV)) (b : List (List PV)) (i i1 c n1 t t1 : Int) : roundD prg 10 [(12, .d true), (18, .d true), (22, .v (vi .i64 n1)), (23, .v (.rp 2 g 2 j 0)), (25, .v (vi .u8 t)), (26, .v (vi .i64 t)), (27, .v (vi .i64 t1)), (30, .v (.ro [.val (.int .u8 c)])), (32, .v (vi .i64 c)), (33, .d false), (47, .v (.ro [.val (.int .u8 c)])), (51, .v (.ro [.val (.int .u8 c)])), (55, .r (.sl 2 g2 2 0 n2) (hp26 s g2 r2 ++ [.row 26 2 0 [[vi .u8 c, vi .u8 c]]])), (14, .v (vi .i64 i1)), (6000, .d true)] 3 lv26 ir26_l0 ⟨F26 g n b i, hp26 s g r⟩ =
    some ([vb (i < (b.length : Int)) = vb true, vb ((n : Int) > 0) = vb true, binA .sub (vi .i64 (n : Int)) (vi .i64 1) = some (vi .i64 n1), idxA 2 (.sl 2 g 2 0 n) (vi .i64 n1) = some (.rp 2 g 2 j 0), ldA (hp26 s g r) false 1 (.rp 2 g 2 j 1) = some (vi .u8 t), convA .i64 (vi .u8 t) = some (vi .i64 t), binA .add (vi .i64 t) (vi .i64 1) = some (vi .i64 t1),
      idxA 1 (.p (.lst 1 b)) (vi .i64 i) = some (.ro [.val (.int .u8 c)]), convA .i64 (vi .u8 c) = some (vi .i64 c), vb (t1 == c) = vb false,
      idxA 1 (.p (.lst 1 b)) (vi .i64 i) = some (.ro [.val (.int .u8 c)]), idxA 1 (.p (.lst 1 b)) (vi .i64 i) = some (.ro [.val (.int .u8 c)]),
      appA (hp26 s g r ++ [.row 26 2 0 [[vi .u8 c, vi .u8 c]]]) 26 2 2 (.sl 2 g 2 0 n) (.sl 3 0 2 0 1) = some (.sl 2 g2 2 0 n2, hp26 s g2 r2 ++ [.row 26 2 0 [[vi .u8 c, vi .u8 c]]]), binA .add (vi .i64 i) (vi .i64 1) = some (vi .i64 i1), okT 3 (hp26 s g2 r2 ++ [.row 26 2 0 [[vi .u8 c, vi .u8 c]]]) = true], .norm, ⟨F26 g2 n2 b i1, hp26 s g2 r2⟩) := by kernel_rfl
theorem r26_x (s : I4) (g n j : Nat) (r r2 : List (List AV)) (b : List (List PV)) (i i1 c n1 t t1 : Int) : roundD prg 10 [(12, .d true), (18, .d true), (22, .v (vi .i64 n1)), (23, .v (.rp 2 g 2 j 0)), (25, .v (vi .u8 t)), (26, .v (vi .i64 t)), (27, .v (vi .i64 t1)), (30, .v (.ro [.val (.int .u8 c)])), (32, .v (vi .i64 c)), (33, .d true), (37, .v (vi .i64 n1)), (40, .v (.ro [.val (.int .u8 c)])), (42, .v (.rp 2 g 2 j 0)), (1043, .r ud (hp26 s g r2)), (14, .v (vi .i64 i1)), (6000, .d true)] 3 lv26 ir26_l0 ⟨F26 g n b i, hp26 s g r⟩ =
    some ([vb (i < (b.length : Int)) = vb true, vb ((n : Int) > 0) = vb true, binA .sub (vi .i64 (n : Int)) (vi .i64 1) = some (vi .i64 n1), idxA 2 (.sl 2 g 2 0 n) (vi .i64 n1) = some (.rp 2 g 2 j 0), ldA (hp26 s g r) false 1 (.rp 2 g 2 j 1) = some (vi .u8 t), convA .i64 (vi .u8 t) = some (vi .i64 t), binA .add (vi .i64 t) (vi .i64 1) = some (vi .i64 t1),
      idxA 1 (.p (.lst 1 b)) (vi .i64 i) = some (.ro [.val (.int .u8 c)]), convA .i64 (vi .u8 c) = some (vi .i64 c), vb (t1 == c) = vb true,
      binA .sub (vi .i64 (n : Int)) (vi .i64 1) = some (vi .i64 n1), idxA 1 (.p (.lst 1 b)) (vi .i64 i) = some (.ro [.val (.int .u8 c)]), idxA 2 (.sl 2 g 2 0 n) (vi .i64 n1) = some (.rp 2 g 2 j 0),
      stA (hp26 s g r) 1 (.rp 2 g 2 j 1) (vi .u8 c) = some (hp26 s g r2) ∧ ud = ud, binA .add (vi .i64 i) (vi .i64 1) = some (vi .i64 i1), okT 3 (hp26 s g r2) = true], .norm, ⟨F26 g n b i1, hp26 s g r2⟩) := by kernel_rfl
theorem r26_e (s : I4) (g n : Nat) (r : List (List AV)) (b : List (List PV)) (i : Int) : roundD prg 10 [(12, .d false)] 3 lv26 ir26_l0 ⟨F26 g n b i, hp26 s g r⟩ = some ([vb (i < (b.length : Int)) = vb false], .brk 0, ⟨E26 g n b i, hp26 s g r⟩) := by kernel_rfl
theorem okT_26 (s : I4) (g : Nat) (q : List (Nat × Nat)) (e : List AB) : okT 3 (hp26 s g (q.map rgA) ++ e) = true := by
  have e3 : belows 3 (wds s) = true := rfl
  have e4 : (q.map rgA).all (belows 3) = true := belows_rg 3 q
  simp only [okT, hp26, List.cons_append, List.nil_append, List.length_cons, List.take_succ_cons, List.take_zero, List.all_cons, List.all_nil, AB.blw, e3, e4, Bool.and_true, decide_eq_true_eq]
  simp
theorem q_sub (n : Nat) (h : n < 4611686018427387904) : binA .sub (vi .i64 ((n + 1 : Nat) : Int)) (vi .i64 1) = some (vi .i64 n) := by
  have e : IntKind.i64.wrap (((n + 1 : Nat) : Int) - 1) = (n : Int) := by
    rw [IntWalk.i64_in _ (by omega)]
    omega
  simp only [binA, binV, intOp, if_true]
  rw [e]
  rfl
/-- The last row's second cell is written. -/
theorem st_last {h : List AB} {b g : Nat} {t : TypeId} {Q : List (Nat × Nat)} {x : Nat × Nat} {c : Nat} (hb : h[b]? = some (.row t 2 g ((Q ++ [x]).map rgA))) :
    stA h 1 (.rp b g 2 Q.length 1) (vi .u8 c) = some (h.set b (.row t 2 g ((Q ++ [(x.1, c)]).map rgA))) := by
  have hr : ((Q ++ [x]).map rgA)[Q.length]? = some (rgA x) := by simp
  simp only [stA, cellsOf, AV.one, isOne, if_true, Option.bind_some, List.length_cons, List.length_nil, storeA, hb, and_self, hr]
  rw [if_pos (by simp [rgA])]
  congr 2
  simp [rgA, splice]
theorem ld_last {h : List AB} {b g : Nat} {t : TypeId} {Q : List (Nat × Nat)} {x : Nat × Nat} (hb : h[b]? = some (.row t 2 g ((Q ++ [x]).map rgA))) : ldA h false 1 (.rp b g 2 Q.length 1) = some (vi .u8 x.2) := by
  rw [ld_row (r := rgA x) (cs := [vi .u8 x.2]) hb (by simp) rfl]
  rfl
theorem r26_loop (s : I4) (l : List Nat) (hl : ∀ c ∈ l, c < 256) (hn : l.length ≤ 256) : ∀ (q : List Nat) (i g : Nat) (R : List (Nat × Nat)), l.drop i = q → i + q.length = l.length → R.length ≤ i → (∀ x ∈ R, x.1 < 256 ∧ x.2 < 256) → ∃ g2,
    evH prg 3 lv26 ir26_l0 ⟨F26 g R.length (l.map byteRow) i, hp26 s g (R.map rgA)⟩ = some (.brk 0, ⟨E26 g2 (q.foldl rstep R).length (l.map byteRow) l.length, hp26 s g2 ((q.foldl rstep R).map rgA)⟩)
  | [], i, g, R, hd, hi, hR, hx => by
    obtain rfl : i = l.length := by simpa using hi
    exact ⟨g, round_brk (r26_e s g R.length (R.map rgA) (l.map byteRow) l.length) (by simp [AllP])⟩
  | c :: q, i, g, R, hd, hi, hR, hx => by
    have hil : i < l.length := by simp at hi; omega
    rw [List.drop_eq_getElem_cons hil] at hd
    injection hd with h1 h2
    subst h1
    have hc : l[i] < 256 := hl _ (List.getElem_mem hil)
    have l47 : limit47 = 140737488355328 := rfl
    have c1 : vb (((i : Nat) : Int) < (((l.map byteRow).length : Nat) : Int)) = vb true := by simp [hil]
    have c2 := idx_byte (l := l) (i := i) (b := l[i]) (by simp [hil])
    have app : ∀ (R : List (Nat × Nat)) (g : Nat), R.length ≤ 256 → appA (hp26 s g (R.map rgA) ++ [.row 26 2 0 [[vi .u8 (l[i] : Nat), vi .u8 (l[i] : Nat)]]]) 26 2 2 (.sl 2 g 2 0 R.length) (.sl 3 0 2 0 1) =
        some (.sl 2 (g + 1) 2 0 (R ++ [(l[i], l[i])]).length, hp26 s (g + 1) ((R ++ [(l[i], l[i])]).map rgA) ++ [.row 26 2 0 [[vi .u8 (l[i] : Nat), vi .u8 (l[i] : Nat)]]]) := by
      intro R g hRl
      have := app_more (t := 26) (size := 2) (bytes := 2) (h := hp26 s g (R.map rgA) ++ [.row 26 2 0 [[vi .u8 (l[i] : Nat), vi .u8 (l[i] : Nat)]]]) (b := 2) (y := .sl 3 0 2 0 1) (r := [vi .u8 (l[i] : Nat), vi .u8 (l[i] : Nat)]) (g := g) (rows := R.map rgA) rfl rfl (by simp; omega)
      simp only [List.length_map] at this
      simp only [List.length_append, List.length_cons, List.length_nil, List.map_append, List.map_cons, List.map_nil]
      exact this
    have hlt := rstep_lt R l[i] hc hx
    have hlen := rstep_len R l[i]
    rw [List.foldl_cons]
    rcases snoc_or R with rfl | ⟨Q, x, rfl⟩
    · obtain ⟨g2, ih⟩ := r26_loop s l hl hn q (i + 1) (g + 1) (rstep [] l[i]) h2 (by simp at hi; omega) (by simp [rstep_nil]) hlt
      refine ⟨g2, ?_⟩
      have hk := round_norm (r26_n s g 0 (g + 1) 1 [] ([(l[i], l[i])].map rgA) (l.map byteRow) i ((i + 1 : Nat) : Int) (l[i] : Nat)) ?_
      · have e : evH prg 3 lv26 ir26_l0 ⟨F26 g 0 (l.map byteRow) i, hp26 s g []⟩ = evH prg 3 lv26 ir26_l0 ⟨F26 (g + 1) 1 (l.map byteRow) ((i + 1 : Nat) : Int), hp26 s (g + 1) ([(l[i], l[i])].map rgA)⟩ := hk
        show evH prg 3 lv26 ir26_l0 ⟨F26 g 0 (l.map byteRow) i, hp26 s g []⟩ = _
        rw [e]
        exact ih
      · simp only [AllP]
        exact ⟨c1, by simp, c2, c2, app [] g (by simp), q_add _ (by omega), okT_26 _ _ _ _⟩
    · have hx1 := hx x (by simp)
      have hn1 : ((Q ++ [x]).length : Int) = ((Q.length + 1 : Nat) : Int) := by simp
      have c3 : vb (((Q ++ [x]).length : Int) > 0) = vb true := by rw [decide_eq_true (by simp)]
      have c4 : binA .sub (vi .i64 ((Q ++ [x]).length : Int)) (vi .i64 1) = some (vi .i64 Q.length) := by rw [hn1]; exact q_sub _ (by simp at hR; omega)
      have c5 : idxA 2 (.sl 2 g 2 0 (Q ++ [x]).length) (vi .i64 (Q.length : Nat)) = some (.rp 2 g 2 Q.length 0) := idx_sl (by simp) rfl
      by_cases he : x.2 + 1 = l[i]
      · have er : rstep (Q ++ [x]) l[i] = Q ++ [(x.1, l[i])] := by rw [rstep_snoc, if_pos he]
        obtain ⟨g2, ih⟩ := r26_loop s l hl hn q (i + 1) g (rstep (Q ++ [x]) l[i]) h2 (by simp at hi; omega) (by rw [er]; simp at hR ⊢; omega) hlt
        refine ⟨g2, ?_⟩
        have hk := round_norm (r26_x s g (Q ++ [x]).length Q.length ((Q ++ [x]).map rgA) ((Q ++ [(x.1, l[i])]).map rgA) (l.map byteRow) i ((i + 1 : Nat) : Int) (l[i] : Nat) (Q.length : Nat) (x.2 : Nat) ((x.2 + 1 : Nat) : Int)) ?_
        · rw [hk]
          rw [er] at ih
          rw [er]
          simpa using ih
        · simp only [AllP]
          refine ⟨c1, c3, c4, c5, ld_last rfl, q_conv _ _ hx1.2, q_add _ (by omega), c2, q_conv _ _ hc, ?_, c4, c2, c5, ⟨st_last rfl, trivial⟩, q_add _ (by omega), ?_⟩
          · rw [he]; simp
          · have := okT_26 s g (Q ++ [(x.1, l[i])]) []
            simpa using this
      · have er : rstep (Q ++ [x]) l[i] = Q ++ [x] ++ [(l[i], l[i])] := by rw [rstep_snoc, if_neg he]
        obtain ⟨g2, ih⟩ := r26_loop s l hl hn q (i + 1) (g + 1) (rstep (Q ++ [x]) l[i]) h2 (by simp at hi; omega) (by omega) hlt
        refine ⟨g2, ?_⟩
        have hk := round_norm (r26_a s g (Q ++ [x]).length (g + 1) (Q ++ [x] ++ [(l[i], l[i])]).length Q.length ((Q ++ [x]).map rgA) ((Q ++ [x] ++ [(l[i], l[i])]).map rgA) (l.map byteRow) i ((i + 1 : Nat) : Int) (l[i] : Nat) (Q.length : Nat) (x.2 : Nat) ((x.2 + 1 : Nat) : Int)) ?_
        · rw [hk]
          rw [er] at ih
          rw [er]
          exact ih
        · simp only [AllP]
          refine ⟨c1, c3, c4, c5, ld_last rfl, q_conv _ _ hx1.2, q_add _ (by omega), c2, q_conv _ _ hc, ?_, c2, c2, app (Q ++ [x]) g (by omega), q_add _ (by omega), okT_26 _ _ _ _⟩
          have : (((x.2 + 1 : Nat) : Int) == ((l[i] : Nat) : Int)) = false := by simp; omega
          rw [this]
/-- The ranges of some rising bytes. -/
def rgs (l : List Nat) : List (Nat × Nat) := l.foldl rstep []
theorem purA_rg {h : List AB} {b g : Nat} {t : TypeId} {R : List (Nat × Nat)} (hb : h[b]? = some (.row t 2 g (R.map rgA))) : purA h (.sl b g 2 0 R.length) = some (.p (rgL R)) := by
  have := purA_sl (h := h) (b := b) (g := g) (size := 2) (len := R.length) (t := t) (rows := R.map rgA) (ps := R.map rgRow) hb (by simp) (by rw [show R.length = (R.map rgA).length from by simp, List.take_length]; exact pur_rg _ _ _)
  simp only [purAs] at this
  split at this
  · rename_i y ys e1 e2
    simp only [Option.some.injEq, List.cons.injEq] at this e2
    rw [e1, this.1]
    rfl
  · cases this
theorem r26_c (s : I4) (g n : Nat) (r : List (List AV)) (b : List (List PV)) (k : Int) (ps : List (List PV)) : callD prg 10 [(8, .v (.p (.lst 1 b))), (2000, .l (.brk 0) ⟨E26 g n b k, hp26 s g r⟩), (3000, .v (.p (.lst 2 ps)))] 26 [setI s] =
    some ([CP prg 23 [setI s] (hp26 s 0 []) = some (.p (.lst 1 b)), evH prg 3 lv26 ir26_l0 ⟨F26 0 0 b 0, hp26 s 0 []⟩ = some (.brk 0, ⟨E26 g n b k, hp26 s g r⟩), purA (hp26 s g r) (.sl 2 g 2 0 n) = some (.p (.lst 2 ps))], .p (.lst 2 ps)) := by kernel_rfl
theorem ranges26 (s : V4) (h : List AB) : CP prg 26 [setI (ofV s)] h = some (.p (rgL (rgs (bytesS s)))) := by
  obtain ⟨g2, hl⟩ := r26_loop (ofV s) (bytesS s) (bytesS_lt s) (bytesS_len s) (bytesS s) 0 0 [] rfl (by simp) (by simp) (by simp)
  refine CP_D (r26_c (ofV s) g2 (rgs (bytesS s)).length ((rgs (bytesS s)).map rgA) ((bytesS s).map byteRow) (bytesS s).length ((rgs (bytesS s)).map rgRow)) ?_ rfl h
  simp only [AllP]
  exact ⟨bytes23 s _, hl, purA_rg rfl⟩

/- ---------- Ranges ---------- -/
def g25 (s : I4) : List AV := [setI s, .ptr 0 0, .sl 1 0 2 0 0, .ptr 3 0, ud, ud, setI s, itF s, ud, ud, ud, ud, ud, ud, ud, ud, ud, ud, ud, ud, ud, ud, ud, ud, ud, ud, ud, ud, ud, ud, ud, ud, ud, ud, ud, ud, ud, ud, ud, ud, ud]
def h25 (s : I4) (g n : Nat) (r : List (List AV)) : List AB := [.cells 29 (wds s), .row 26 2 0 [], .row 26 2 g r, .cells 22 [.sl 2 g 2 0 n]]
def l25 (s : I4) : AB := .loop 0 none [8] (g25 s) ir25_a0 ir25_b0
def l25' (s : I4) : AB := .loop 1 none [8] (g25 s) ir25_a0 ir25_b0
theorem y25_n (s : I4) (g n g2 n2 : Nat) (r r2 : List (List AV)) (c : Int) : yieldD prg 10 [(12, .d false), (39, .r (.sl 2 g2 2 0 n2) [.cells 29 (wds s), .row 26 2 0 [], .row 26 2 g2 r2, .cells 22 [.sl 2 g 2 0 n], l25' s, .row 26 2 0 [[vi .u8 c, vi .u8 c]]])] 4 [vi .u8 c] (h25 s g n r ++ [l25 s]) =
    some ([vb ((n : Int) > 0) = vb false, appA (h25 s g n r ++ [l25' s, .row 26 2 0 [[vi .u8 c, vi .u8 c]]]) 26 2 2 (.sl 2 g 2 0 n) (.sl 5 0 2 0 1) = some (.sl 2 g2 2 0 n2, [.cells 29 (wds s), .row 26 2 0 [], .row 26 2 g2 r2, .cells 22 [.sl 2 g 2 0 n], l25' s, .row 26 2 0 [[vi .u8 c, vi .u8 c]]])], vb true, (h25 s g2 n2 r2 ++ [l25 s]) ++ [.row 26 2 0 [[vi .u8 c, vi .u8 c]]]) := by kernel_rfl
theorem y25_a (s : I4) (g n g2 n2 j : Nat) (r r2 : List (List AV)) (c n1 t c1 : Int) : yieldD prg 10 [(12, .d true), (16, .v (vi .i64 n1)), (17, .v (.rp 2 g 2 j 0)), (19, .v (vi .u8 t)), (21, .v (vi .u8 c1)), (22, .d false), (39, .r (.sl 2 g2 2 0 n2) [.cells 29 (wds s), .row 26 2 0 [], .row 26 2 g2 r2, .cells 22 [.sl 2 g 2 0 n], l25' s, .row 26 2 0 [[vi .u8 c, vi .u8 c]]])] 4 [vi .u8 c] (h25 s g n r ++ [l25 s]) =
    some ([vb ((n : Int) > 0) = vb true, binA .sub (vi .i64 (n : Int)) (vi .i64 1) = some (vi .i64 n1), idxA 2 (.sl 2 g 2 0 n) (vi .i64 n1) = some (.rp 2 g 2 j 0), ldA (h25 s g n r ++ [l25' s]) false 1 (.rp 2 g 2 j 1) = some (vi .u8 t), binA .sub (vi .u8 c) (vi .u8 1) = some (vi .u8 c1), vb (t == c1) = vb false,
      appA (h25 s g n r ++ [l25' s, .row 26 2 0 [[vi .u8 c, vi .u8 c]]]) 26 2 2 (.sl 2 g 2 0 n) (.sl 5 0 2 0 1) = some (.sl 2 g2 2 0 n2, [.cells 29 (wds s), .row 26 2 0 [], .row 26 2 g2 r2, .cells 22 [.sl 2 g 2 0 n], l25' s, .row 26 2 0 [[vi .u8 c, vi .u8 c]]])], vb true, (h25 s g2 n2 r2 ++ [l25 s]) ++ [.row 26 2 0 [[vi .u8 c, vi .u8 c]]]) := by kernel_rfl
theorem y25_b (s : I4) (g n g2 n2 j : Nat) (r r2 : List (List AV)) (c n1 t c1 : Int) : yieldD prg 10 [(12, .d true), (16, .v (vi .i64 n1)), (17, .v (.rp 2 g 2 j 0)), (19, .v (vi .u8 t)), (21, .v (vi .u8 c1)), (22, .d true), (26, .d false), (39, .r (.sl 2 g2 2 0 n2) [.cells 29 (wds s), .row 26 2 0 [], .row 26 2 g2 r2, .cells 22 [.sl 2 g 2 0 n], l25' s, .row 26 2 0 [[vi .u8 c, vi .u8 c]]])] 4 [vi .u8 c] (h25 s g n r ++ [l25 s]) =
    some ([vb ((n : Int) > 0) = vb true, binA .sub (vi .i64 (n : Int)) (vi .i64 1) = some (vi .i64 n1), idxA 2 (.sl 2 g 2 0 n) (vi .i64 n1) = some (.rp 2 g 2 j 0), ldA (h25 s g n r ++ [l25' s]) false 1 (.rp 2 g 2 j 1) = some (vi .u8 t), binA .sub (vi .u8 c) (vi .u8 1) = some (vi .u8 c1), vb (t == c1) = vb true, vb (c > 0) = vb false,
      appA (h25 s g n r ++ [l25' s, .row 26 2 0 [[vi .u8 c, vi .u8 c]]]) 26 2 2 (.sl 2 g 2 0 n) (.sl 5 0 2 0 1) = some (.sl 2 g2 2 0 n2, [.cells 29 (wds s), .row 26 2 0 [], .row 26 2 g2 r2, .cells 22 [.sl 2 g 2 0 n], l25' s, .row 26 2 0 [[vi .u8 c, vi .u8 c]]])], vb true, (h25 s g2 n2 r2 ++ [l25 s]) ++ [.row 26 2 0 [[vi .u8 c, vi .u8 c]]]) := by kernel_rfl
theorem y25_x (s : I4) (g n j : Nat) (r r2 : List (List AV)) (c n1 t c1 : Int) : yieldD prg 10 [(12, .d true), (16, .v (vi .i64 n1)), (17, .v (.rp 2 g 2 j 0)), (19, .v (vi .u8 t)), (21, .v (vi .u8 c1)), (22, .d true), (26, .d true), (30, .v (vi .i64 n1)), (32, .v (.rp 2 g 2 j 0)), (1033, .r ud (h25 s g n r2 ++ [l25' s]))] 4 [vi .u8 c] (h25 s g n r ++ [l25 s]) =
    some ([vb ((n : Int) > 0) = vb true, binA .sub (vi .i64 (n : Int)) (vi .i64 1) = some (vi .i64 n1), idxA 2 (.sl 2 g 2 0 n) (vi .i64 n1) = some (.rp 2 g 2 j 0), ldA (h25 s g n r ++ [l25' s]) false 1 (.rp 2 g 2 j 1) = some (vi .u8 t), binA .sub (vi .u8 c) (vi .u8 1) = some (vi .u8 c1), vb (t == c1) = vb true, vb (c > 0) = vb true,
      binA .sub (vi .i64 (n : Int)) (vi .i64 1) = some (vi .i64 n1), idxA 2 (.sl 2 g 2 0 n) (vi .i64 n1) = some (.rp 2 g 2 j 0), stA (h25 s g n r ++ [l25' s]) 1 (.rp 2 g 2 j 1) (vi .u8 c) = some (h25 s g n r2 ++ [l25' s]) ∧ ud = ud], vb true, (h25 s g n r2 ++ [l25 s]) ++ []) := by kernel_rfl
end Go.Proofs.Tryd
