/- Both and the unions; the other joins. -/
import Derived.Test.YtbichljebmhmnaaDoor02O
namespace Go.Proofs.Tryd
set_option linter.unusedSimpArgs false
set_option linter.unusedVariables false
open Go Go.Vs
def bk (k : Nat) (x y : Bool) : Bool :=
  match k with
  | 0 => x && y
  | 1 => x || y
  | _ => x && !y
def F28 (k : Nat) (i : Int) : List AV := [.und, .und, vi .i64 (k : Int), .ptr 0 0, .ptr 1 0, .und, .ptr 2 0, .ptr 3 0, vi .i64 i, .und, .und, .und, .und, .und, .und, .und, .und, .und, .und, .und, .und, .und, .und, .und, .und, .und, .und, .und, .und, .und, .und, .und, .und, .und, .und, .und, .und, .und, .und, .und, .und, .und, .und, .und, .und, .und, .und, .und, .und, .und, .und, .und, .und, .und, .und]
def E28 (k : Nat) (i : Int) : List AV := [.und, .und, vi .i64 (k : Int), .ptr 0 0, .ptr 1 0, .und, .ptr 2 0, .ptr 3 0, vi .i64 i, .und, .und, .und, vi .i64 i, vb false, .und, .und, .und, .und, .und, .und, .und, .und, .und, .und, .und, .und, .und, .und, .und, .und, .und, .und, .und, .und, .und, .und, .und, .und, .und, .und, .und, .und, .und, .und, .und, .und, .und, .und, .und, .und, .und, .und, .und, .und, .und]
def hp28 (a b o : I4) : List AB := [.cells 29 (wds a), .cells 29 (wds b), .cells 29 (wds zI), .cells 29 (wds o)]
def lv28 : List Nat := [2, 3, 4, 6, 7, 8]
theorem b28_t (a b o o2 : I4) (i i1 : Int) : ∀ (k : Nat) (x y : Bool), k < 3 → bk k x y = true → roundD prg 10 [(13, .d true), (18, .v (vb x)), (21, .v (vb y)), (53, .v (setI o2)), (15, .v (vi .i64 i1))] 4 lv28 ir28_l0 ⟨F28 k i, hp28 a b o⟩ =
    some ([vb (i < 256) = vb true, CP prg 15 [setI a, vi .i64 i] (hp28 a b o) = some (vb x), CP prg 15 [setI b, vi .i64 i] (hp28 a b o) = some (vb y), CP prg 37 [setI o, vi .i64 i] (hp28 a b o) = some (setI o2), binA .add (vi .i64 i) (vi .i64 1) = some (vi .i64 i1)], .norm, ⟨F28 k i1, hp28 a b o2⟩)
  | 0, true, true, _, _ => by kernel_rfl
  | 1, true, true, _, _ => by kernel_rfl
  | 1, true, false, _, _ => by kernel_rfl
  | 1, false, true, _, _ => by kernel_rfl
  | 2, true, false, _, _ => by kernel_rfl
  | 0, true, false, _, h => by cases h
  | 0, false, _, _, h => by cases h
  | 1, false, false, _, h => by cases h
  | 2, true, true, _, h => by cases h
  | 2, false, _, _, h => by cases h
  | _ + 3, _, _, h, _ => absurd h (by omega)
theorem b28_f (a b o : I4) (i i1 : Int) : ∀ (k : Nat) (x y : Bool), k < 3 → bk k x y = false → roundD prg 10 [(13, .d true), (18, .v (vb x)), (21, .v (vb y)), (15, .v (vi .i64 i1))] 4 lv28 ir28_l0 ⟨F28 k i, hp28 a b o⟩ =
    some ([vb (i < 256) = vb true, CP prg 15 [setI a, vi .i64 i] (hp28 a b o) = some (vb x), CP prg 15 [setI b, vi .i64 i] (hp28 a b o) = some (vb y), binA .add (vi .i64 i) (vi .i64 1) = some (vi .i64 i1)], .norm, ⟨F28 k i1, hp28 a b o⟩)
  | 0, true, true, _, h => by cases h
  | 1, true, true, _, h => by cases h
  | 1, true, false, _, h => by cases h
  | 1, false, true, _, h => by cases h
  | 2, true, false, _, h => by cases h
  | 0, true, false, _, _ => by kernel_rfl
  | 0, false, true, _, _ => by kernel_rfl
  | 0, false, false, _, _ => by kernel_rfl
  | 1, false, false, _, _ => by kernel_rfl
  | 2, true, true, _, _ => by kernel_rfl
  | 2, false, true, _, _ => by kernel_rfl
  | 2, false, false, _, _ => by kernel_rfl
  | _ + 3, _, _, h, _ => absurd h (by omega)
theorem b28_e (a b o : I4) (k : Nat) (i : Int) : roundD prg 10 [(13, .d false)] 4 lv28 ir28_l0 ⟨F28 k i, hp28 a b o⟩ = some ([vb (i < 256) = vb false], .brk 0, ⟨E28 k i, hp28 a b o⟩) := by kernel_rfl
theorem b28_loop (a b : V4) (k : Nat) (hk3 : k < 3) : ∀ (n i : Nat) (o : V4), i + n = 256 →
    evH prg 4 lv28 ir28_l0 ⟨F28 k i, hp28 (ofV a) (ofV b) (ofV o)⟩ = some (.brk 0, ⟨E28 k 256, hp28 (ofV a) (ofV b) (ofV ((List.range' i n).foldl (bstep fun c => bk k (has a c) (has b c)) o))⟩)
  | 0, i, o, h => by
    obtain rfl : i = 256 := by omega
    exact round_brk (b28_e (ofV a) (ofV b) (ofV o) k 256) (by simp [AllP])
  | n + 1, i, o, h => by
    have hi : i < 256 := by omega
    have ih := b28_loop a b k hk3 n (i + 1) (bstep (fun c => bk k (has a c) (has b c)) o i) (by omega)
    rw [List.range'_succ, List.foldl_cons, ← ih]
    have c1 : vb (((i : Nat) : Int) < 256) = vb true := by rw [decide_eq_true (by omega)]
    cases hh : bk k (has a i) (has b i) with
    | true =>
      have e : bstep (fun c => bk k (has a c) (has b c)) o i = put o i := by simp [bstep, hh]
      rw [e]
      refine round_norm (b28_t (ofV a) (ofV b) (ofV o) (ofV (put o i)) i ((i + 1 : Nat) : Int) k (has a i) (has b i) hk3 hh) ?_
      simp only [AllP, has15 _ i hi]
      exact ⟨c1, trivial, trivial, with37 o i hi _, q_add _ (by omega)⟩
    | false =>
      have e : bstep (fun c => bk k (has a c) (has b c)) o i = o := by simp [bstep, hh]
      rw [e]
      refine round_norm (b28_f (ofV a) (ofV b) (ofV o) i ((i + 1 : Nat) : Int) k (has a i) (has b i) hk3 hh) ?_
      simp only [AllP, has15 _ i hi]
      exact ⟨c1, trivial, trivial, q_add _ (by omega)⟩
theorem b28_c (a b o : I4) (k : Nat) : callD prg 10 [(2000, .l (.brk 0) ⟨E28 k 256, hp28 a b o⟩)] 28 [setI a, setI b, vi .i64 (k : Int)] = some ([evH prg 4 lv28 ir28_l0 ⟨F28 k 0, hp28 a b zI⟩ = some (.brk 0, ⟨E28 k 256, hp28 a b o⟩)], setI o) := by kernel_rfl
theorem both28 (a b : V4) (k : Nat) (hk : k < 3) (h : List AB) : CP prg 28 [setI (ofV a), setI (ofV b), vi .i64 (k : Int)] h = some (setI (ofV (build fun c => bk k (has a c) (has b c)))) := by
  refine CP_D (b28_c (ofV a) (ofV b) (ofV (build fun c => bk k (has a c) (has b c))) k) ?_ rfl h
  simp only [AllP]
  exact b28_loop a b k hk 256 0 V0 (by omega)

/- ---------- words and bytes ---------- -/
theorem get_map (f : BitVec 64 → BitVec 64 → BitVec 64) (x y : V4) (k : Nat) : (mapV f x y).get k = f (x.get k) (y.get k) := by
  match k with
  | 0 => rfl
  | 1 => rfl
  | 2 => rfl
  | _ + 3 => rfl
theorem has_J (x y : V4) (c : Nat) : has (JV x y) c = (has x c || has y c) := by simp [has, JV, get_map]
theorem has_M (x y : V4) (c : Nat) : has (MV x y) c = (has x c && has y c) := by simp [has, MV, get_map]
theorem has_N (x y : V4) (c : Nat) (hc : c < 256) : has (NV x y) c = (has x c && !has y c) := by
  have : c % 64 < 64 := by omega
  simp [has, NV, get_map, this]
theorem meet18 (x y : V4) (h : List AB) : CP prg 18 [setI (ofV x), setI (ofV y)] h = some (setI (ofV (MV x y))) := by
  have : CP prg 18 [setI (ofV x), setI (ofV y)] h = some (setI (M (ofV x) (ofV y))) := CP_of 20 (by kernel_rfl)
  rw [this, M_v]
theorem without21 (x y : V4) (h : List AB) : CP prg 21 [setI (ofV x), setI (ofV y)] h = some (setI (ofV (NV x y))) := by
  have : CP prg 21 [setI (ofV x), setI (ofV y)] h = some (setI (N (ofV x) (ofV y))) := CP_of 20 (by kernel_rfl)
  rw [this, N_v]
theorem within22 (x y : V4) (h : List AB) : CP prg 22 [setI (ofV x), setI (ofV y)] h = some (vb (win (ofV x) (ofV y))) := CP_of 20 (by kernel_rfl)
def xI (x : Int) : Int := IntKind.u64.wrap (BitVec.ofInt 64 18446744073709551615 ^^^ BitVec.ofInt 64 x).toNat
theorem xI_n (p : BitVec 64) : xI p.toNat = ((~~~ p).toNat : Int) := by
  unfold xI
  have e : BitVec.ofInt 64 18446744073709551615 ^^^ BitVec.ofInt 64 (p.toNat : Int) = ~~~ p := by
    rw [show BitVec.ofInt 64 18446744073709551615 = BitVec.allOnes 64 from rfl, show (BitVec.ofInt 64 (p.toNat : Int)) = p from by simp, BitVec.allOnes_xor]
  rw [e]
  exact wrap_nat _
def XV (x : V4) : V4 := ⟨~~~ x.a, ~~~ x.b, ~~~ x.c, ~~~ x.d⟩
theorem not29 (x : V4) (h : List AB) : CP prg 29 [setI (ofV x)] h = some (setI (ofV (XV x))) := by
  have : CP prg 29 [setI (ofV x)] h = some (setI ⟨xI (ofV x).a, xI (ofV x).b, xI (ofV x).c, xI (ofV x).d⟩) := CP_of 20 (by kernel_rfl)
  rw [this]
  simp only [ofV, xI_n, XV]
theorem has_X (x : V4) (c : Nat) (hc : c < 256) : has (XV x) c = !has x c := by
  have h1 : c % 64 < 64 := by omega
  unfold has XV
  match c / 64 with
  | 0 => simp [V4.get, h1]
  | 1 => simp [V4.get, h1]
  | 2 => simp [V4.get, h1]
  | _ + 3 => simp [V4.get, h1]

/- ---------- unions ---------- -/
def setRow (s : V4) : List PV := wdsP (ofV s)
def setsL (l : List V4) : PV := .lst 4 (l.map setRow)
theorem idx_set {l : List V4} {i : Nat} {x : V4} (h : l[i]? = some x) : idxA 4 (.p (.lst 4 (l.map setRow))) (vi .i64 i) = some (.ro (wdsP (ofV x))) := by
  simp only [idxA, idx, Option.bind_some]
  rw [if_pos ⟨trivial, by omega⟩]
  simp [h, setRow]
def F20 (r : List (List PV)) (i : Int) : List AV := [.und, .und, .ptr 0 0, .ptr 1 0, .und, .und, .und, .p (.lst 4 r), vi .i64 (r.length : Int), vi .i64 i, .und, .und, .und, .und, .und, .und, .und, .und, .und, .und, .und, .und, .und, .und, .und, .und, .und]
def E20 (r : List (List PV)) (i : Int) : List AV := [.und, .und, .ptr 0 0, .ptr 1 0, .und, .und, .und, .p (.lst 4 r), vi .i64 (r.length : Int), vi .i64 i, vb false, .und, .und, .und, .und, .und, .und, .und, .und, .und, .und, .und, .und, .und, .und, .und, .und]
def lv20 : List Nat := [2, 3, 7, 8, 9]
theorem u20_k (r : List (List PV)) (s x : I4) (i i1 : Int) : roundD prg 20 [(10, .d true), (11, .v (.ro (wdsP x))), (25, .v (vi .i64 i1))] 2 lv20 ir20_l1 ⟨F20 r i, hp2i s⟩ =
    some ([vb (i < (r.length : Int)) = vb true, idxA 4 (.p (.lst 4 r)) (vi .i64 i) = some (.ro (wdsP x)), binA .add (vi .i64 i) (vi .i64 1) = some (vi .i64 i1)], .norm, ⟨F20 r i1, hp2i (mapI orI s x)⟩) := by kernel_rfl
theorem u20_e (r : List (List PV)) (s : I4) (i : Int) : roundD prg 10 [(10, .d false)] 2 lv20 ir20_l1 ⟨F20 r i, hp2i s⟩ = some ([vb (i < (r.length : Int)) = vb false], .brk 0, ⟨E20 r i, hp2i s⟩) := by kernel_rfl
theorem mapI_or (x y : V4) : mapI orI (ofV x) (ofV y) = ofV (JV x y) := by simp only [mapI, ofV, orI_n, JV, mapV]
theorem u20_loop (l : List V4) (hn : l.length < 4611686018427387904) : ∀ (n i : Nat) (s : V4), i + n = l.length →
    evH prg 2 lv20 ir20_l1 ⟨F20 (l.map setRow) i, hp2 s⟩ = some (.brk 0, ⟨E20 (l.map setRow) l.length, hp2 ((l.drop i).foldl JV s)⟩)
  | 0, i, s, h => by
    obtain rfl : i = l.length := by omega
    have := round_brk (u20_e (l.map setRow) (ofV s) l.length) (by simp [AllP])
    simpa [hp2, hp2i] using this
  | n + 1, i, s, h => by
    have hi : i < l.length := by omega
    have hk := u20_k (l.map setRow) (ofV s) (ofV l[i]) i ((i + 1 : Nat) : Int)
    rw [mapI_or] at hk
    have h1 := round_norm hk ?_
    · have ih := u20_loop l hn n (i + 1) (JV s l[i]) (by omega)
      rw [List.drop_eq_getElem_cons hi, List.foldl_cons, ← ih]
      exact h1
    · simp only [AllP]
      exact ⟨by simp [hi], idx_set (by simp [hi]), q_add _ (by omega)⟩
theorem u20_c (r : List (List PV)) (s : I4) (n : Int) : callDS prg 10 [(2000, .l (.brk 0) ⟨E20 r n, hp2i s⟩)] 20 [.p (.lst 4 r)] [] = some ([evH prg 2 lv20 ir20_l1 ⟨F20 r 0, hp2i zI⟩ = some (.brk 0, ⟨E20 r n, hp2i s⟩)], setI s, [.cells 29 (wds s), .cells 29 (wds s)]) := by kernel_rfl
def unL (l : List V4) : V4 := l.foldl JV V0
theorem union20 (l : List V4) (hn : l.length < 4611686018427387904) : ∃ h', CS prg 20 [.p (setsL l)] [] = some (setI (ofV (unL l)), h') := by
  refine ⟨_, CS_D (u20_c (l.map setRow) (ofV (unL l)) l.length) ?_⟩
  simp only [AllP]
  have := u20_loop l hn l.length 0 V0 (by omega)
  rw [List.drop_zero] at this
  exact this
def F27 (r : List (List PV)) (i : Int) : List AV := [.p (.lst 4 r), .und, .ptr 0 0, .ptr 1 0, vi .i64 i, .und, .und, .und, .und, .und, .und, .und, .und, .und, .und, .und, .und, .und, .und]
def E27 (r : List (List PV)) (i : Int) : List AV := [.p (.lst 4 r), .und, .ptr 0 0, .ptr 1 0, vi .i64 i, .und, vi .i64 i, .p (.lst 4 r), vi .i64 (r.length : Int), vb false, .und, .und, .und, .und, .und, .und, .und, .und, .und]
def lv27 : List Nat := [0, 2, 3, 4]
theorem u27_k (r : List (List PV)) (s x s2 : I4) (i i1 : Int) : roundD prg 20 [(9, .d true), (15, .v (.ro (wdsP x))), (17, .v (setI s2)), (11, .v (vi .i64 i1))] 2 lv27 ir27_l0 ⟨F27 r i, hp2i s⟩ =
    some ([vb (i < (r.length : Int)) = vb true, idxA 4 (.p (.lst 4 r)) (vi .i64 i) = some (.ro (wdsP x)), CP prg 28 [setI s, setI x, vi .i64 1] (hp2i s) = some (setI s2), binA .add (vi .i64 i) (vi .i64 1) = some (vi .i64 i1)], .norm, ⟨F27 r i1, hp2i s2⟩) := by kernel_rfl
theorem u27_e (r : List (List PV)) (s : I4) (i : Int) : roundD prg 10 [(9, .d false)] 2 lv27 ir27_l0 ⟨F27 r i, hp2i s⟩ = some ([vb (i < (r.length : Int)) = vb false], .brk 0, ⟨E27 r i, hp2i s⟩) := by kernel_rfl
theorem J_build (x y : V4) : JV x y = build fun c => bk 1 (has x c) (has y c) := build_of fun c _ => has_J x y c
theorem u27_loop (l : List V4) (hn : l.length < 4611686018427387904) : ∀ (n i : Nat) (s : V4), i + n = l.length →
    evH prg 2 lv27 ir27_l0 ⟨F27 (l.map setRow) i, hp2 s⟩ = some (.brk 0, ⟨E27 (l.map setRow) l.length, hp2 ((l.drop i).foldl JV s)⟩)
  | 0, i, s, h => by
    obtain rfl : i = l.length := by omega
    have := round_brk (u27_e (l.map setRow) (ofV s) l.length) (by simp [AllP])
    simpa [hp2, hp2i] using this
  | n + 1, i, s, h => by
    have hi : i < l.length := by omega
    have h1 := round_norm (u27_k (l.map setRow) (ofV s) (ofV l[i]) (ofV (JV s l[i])) i ((i + 1 : Nat) : Int)) ?_
    · have ih := u27_loop l hn n (i + 1) (JV s l[i]) (by omega)
      rw [List.drop_eq_getElem_cons hi, List.foldl_cons, ← ih]
      exact h1
    · simp only [AllP]
      refine ⟨by simp [hi], idx_set (by simp [hi]), ?_, q_add _ (by omega)⟩
      rw [J_build]
      exact both28 s l[i] 1 (by omega) _
theorem u27_c (r : List (List PV)) (s : I4) (n : Int) : callD prg 10 [(2000, .l (.brk 0) ⟨E27 r n, hp2i s⟩)] 27 [.p (.lst 4 r)] = some ([evH prg 2 lv27 ir27_l0 ⟨F27 r 0, hp2i zI⟩ = some (.brk 0, ⟨E27 r n, hp2i s⟩)], setI s) := by kernel_rfl
theorem union27 (l : List V4) (hn : l.length < 4611686018427387904) (h : List AB) : CP prg 27 [.p (setsL l)] h = some (setI (ofV (unL l))) := by
  refine CP_D (u27_c (l.map setRow) (ofV (unL l)) l.length) ?_ rfl h
  simp only [AllP]
  have := u27_loop l hn l.length 0 V0 (by omega)
  rw [List.drop_zero] at this
  exact this
end Go.Proofs.Tryd
