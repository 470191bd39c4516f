/- Going over a set's bytes: Bytes' closure, whatever yield does. -/
import Derived.Test.YtbichljebmhmnaaDoor02H
import Derived.Test.YtbichljebmhmnaaDoorV25
namespace Go.Proofs.Tryd
set_option linter.unusedSimpArgs false
set_option linter.unusedVariables false
open Go Go.Vs
/-- What yield does, byte by byte: it goes on, or stops. -/
inductive YR (k m : Nat) : List Nat → List AB → List AB → Bool → Prop
  | nil (h : List AB) : YR k m [] h h false
  | go (c : Nat) (l : List Nat) (h h1 e h2 : List AB) (st : Bool) (hy : callY (ev prg) k [vi .u8 c] h = some (vb true, h1 ++ e)) (hl : h1.length = m) (ho : okT m (h1 ++ e) = true) (r : YR k m l h1 h2 st) : YR k m (c :: l) h h2 st
  | stop (c : Nat) (l : List Nat) (h h1 : List AB) (hy : callY (ev prg) k [vi .u8 c] h = some (vb false, h1)) (hl : h1.length = m) : YR k m (c :: l) h h1 true
theorem YR_split {k m : Nat} : ∀ {l1 l2 : List Nat} {h h2 : List AB} {st : Bool}, YR k m (l1 ++ l2) h h2 st → (∃ h1, YR k m l1 h h1 false ∧ YR k m l2 h1 h2 st) ∨ (st = true ∧ YR k m l1 h h2 true)
  | [], l2, h, h2, st, r => .inl ⟨h, .nil h, r⟩
  | c :: l1, l2, h, h2, st, r => by
    cases r with
    | go _ _ _ h1 e _ _ hy hl ho r =>
      rcases YR_split r with ⟨h3, a, b⟩ | ⟨a, b⟩
      · exact .inl ⟨h3, .go c l1 h h1 e h3 false hy hl ho a, b⟩
      · exact .inr ⟨a, .go c l1 h h1 e h2 true hy hl ho b⟩
    | stop _ _ _ _ hy hl => exact .inr ⟨rfl, .stop c l1 h h2 hy hl⟩
theorem YR_len {k m : Nat} {l : List Nat} {h h2 : List AB} {st : Bool} (r : YR k m l h h2 st) (hh : h.length = m) : h2.length = m := by
  induction r with
  | nil h => exact hh
  | go c l h h1 e h2 st hy hl ho r ih => exact ih hl
  | stop c l h h1 hy hl => exact hl
theorem YR_ok {k m : Nat} {l : List Nat} {h h2 : List AB} (r : YR k m l h h2 false) (ho : okT m h = true) : okT m h2 = true := by
  generalize e : false = st at r
  induction r with
  | nil h => exact ho
  | go c l h h1 x h2 st hy hl hq r ih => exact ih (okT_app hl hq) e
  | stop c l h h1 hy hl => cases e
/-- The bytes of a word, of a set. -/
def bitsW (w : BitVec 64) (i : Nat) : List Nat := (bits w).map (64 * i + ·)
def bytesS (s : V4) : List Nat := bitsW s.a 0 ++ (bitsW s.b 1 ++ (bitsW s.c 2 ++ bitsW s.d 3))
def lv39i : List Nat := [0, 3, 4, 5, 6]
def lv39 : List Nat := [0, 5, 6]
def wdsP (s : I4) : List PV := [.val (.int .u64 s.a), .val (.int .u64 s.b), .val (.int .u64 s.c), .val (.int .u64 s.d)]
def F39i (k : Nat) (s : I4) (i w : Int) : List AV := [.yl k, .und, .und, vi .i64 i, vi .u64 w, setI s, vi .i64 i, .und, .und, .und, .und, .und, .und, .und, .und, .und, .und, .und, .und, .und, .und, .und, .und, .und, .und, .und]
def E39i (k : Nat) (s : I4) (i w : Int) : List AV := [.yl k, .und, .und, vi .i64 i, vi .u64 w, setI s, vi .i64 i, .und, .und, .und, vi .u64 w, vb false, .und, .und, .und, .und, .und, .und, .und, .und, .und, .und, .und, .und, .und, .und]
def F39 (k : Nat) (s : I4) (i : Int) : List AV := [.yl k, .und, .und, .und, .und, setI s, vi .i64 i, .und, .und, .und, .und, .und, .und, .und, .und, .und, .und, .und, .und, .und, .und, .und, .und, .und, .und, .und]
def E39 (k : Nat) (s : I4) (i : Int) : List AV := [.yl k, .und, .und, .und, .und, setI s, vi .i64 i, vb false, .und, .und, .und, .und, .und, .und, .und, .und, .und, .und, .und, .und, .und, .und, .und, .und, .und, .und]
theorem q_shl6 (i : Nat) (hi : i < 4) : binA .shl (vi .i64 i) (vi .u64 6) = some (vi .i64 ((64 * i : Nat) : Int)) := by
  match i, hi with
  | 0, _ => rfl
  | 1, _ => rfl
  | 2, _ => rfl
  | 3, _ => rfl
  | _ + 4, h => exact absurd h (by omega)
theorem q_addn (a b : Nat) (h : a + b < 4611686018427387904) : binA .add (vi .i64 a) (vi .i64 b) = some (vi .i64 ((a + b : Nat) : Int)) := by
  have e : IntKind.i64.wrap ((a : Int) + b) = ((a + b : Nat) : Int) := by
    rw [IntWalk.i64_in _ (by omega)]
    omega
  simp only [binA, binV, intOp, if_true]
  rw [e]
  rfl
theorem q_conv8 (b : Nat) (h : b < 256) : convA .u8 (vi .i64 b) = some (vi .u8 b) := by
  simp only [convA, idx, Option.map_some]
  rw [IntKind.wrap_u8, Int.emod_eq_of_lt (by omega) (by omega)]
theorem q_sub1 (w : BitVec 64) (hw : w ≠ 0#64) : binA .sub (vi .u64 w.toNat) (vi .u64 1) = some (vi .u64 (w - 1#64).toNat) := by
  have h0 : w.toNat ≠ 0 := fun e => hw (BitVec.eq_of_toNat_eq (by simpa using e))
  have e : IntKind.u64.wrap ((w.toNat : Int) - 1) = ((w - 1#64).toNat : Int) := by
    rw [IntKind.wrap_u64, BitVec.toNat_sub]
    have := w.isLt
    have h1 : (1#64).toNat = 1 := rfl
    rw [h1]
    omega
  simp only [binA, binV, intOp, if_true]
  rw [e]
  rfl
theorem q_andw (p q : BitVec 64) : binA .and (vi .u64 p.toNat) (vi .u64 q.toNat) = some (vi .u64 (p &&& q).toNat) := by
  have := andI_n p q
  unfold andI at this
  simp only [binA, binV, intOp, if_true]
  rw [show IntKind.u64.bits = 64 from rfl, this]
  rfl
theorem low_lt (w : BitVec 64) (hw : w ≠ 0#64) : low w < 64 := (low_spec w hw).elim fun _ h => h.2

/- ---------- yield at block 3 ---------- -/
theorem it3_k (s : I4) (i w b l c w1 w2 : Int) (x0 x1 x2 x3 : AB) (y0 y1 y2 y3 : AB) (e : List AB) : roundD prg 10 [(11, .d true), (18, .v (vi .i64 b)), (20, .v (vi .i64 l)), (21, .v (vi .i64 c)), (22, .v (vi .u8 c)), (23, .r (vb true) ([y0, y1, y2, y3] ++ e)), (14, .v (vi .u64 w1)), (15, .v (vi .u64 w2)), (6000, .d true)] 4 lv39i ir39_l0 ⟨F39i 3 s i w, [x0, x1, x2, x3]⟩ =
    some ([vb (w != 0) = vb true, binA .shl (vi .i64 i) (vi .u64 6) = some (vi .i64 b), CP prg 40 [vi .u64 w] [x0, x1, x2, x3] = some (vi .i64 l), binA .add (vi .i64 b) (vi .i64 l) = some (vi .i64 c), convA .u8 (vi .i64 c) = some (vi .u8 c), callY (ev prg) 3 [vi .u8 c] [x0, x1, x2, x3] = some (vb true, [y0, y1, y2, y3] ++ e),
      binA .sub (vi .u64 w) (vi .u64 1) = some (vi .u64 w1), binA .and (vi .u64 w) (vi .u64 w1) = some (vi .u64 w2), okT 4 ([y0, y1, y2, y3] ++ e) = true], .norm, ⟨F39i 3 s i w2, [y0, y1, y2, y3]⟩) := by kernel_rfl
theorem it3_s (s : I4) (i w b l c : Int) (x0 x1 x2 x3 : AB) (y0 y1 y2 y3 : AB) : ∃ f', roundD prg 10 [(11, .d true), (18, .v (vi .i64 b)), (20, .v (vi .i64 l)), (21, .v (vi .i64 c)), (22, .v (vi .u8 c)), (23, .r (vb false) [y0, y1, y2, y3])] 4 lv39i ir39_l0 ⟨F39i 3 s i w, [x0, x1, x2, x3]⟩ =
    some ([vb (w != 0) = vb true, binA .shl (vi .i64 i) (vi .u64 6) = some (vi .i64 b), CP prg 40 [vi .u64 w] [x0, x1, x2, x3] = some (vi .i64 l), binA .add (vi .i64 b) (vi .i64 l) = some (vi .i64 c), convA .u8 (vi .i64 c) = some (vi .u8 c), callY (ev prg) 3 [vi .u8 c] [x0, x1, x2, x3] = some (vb false, [y0, y1, y2, y3])], .ret, ⟨f', [y0, y1, y2, y3]⟩) :=
  ⟨[.yl 3, .und, .und, vi .i64 i, vi .u64 w, setI s, vi .i64 i, .und, .und, .und, vi .u64 w, vb true, .und, .und, .und, .und, .yl 3, vi .i64 i, vi .i64 b, vi .u64 w, vi .i64 l, vi .i64 c, vi .u8 c, vb false, vb true, .und], by kernel_rfl⟩
theorem it3_e (s : I4) (i w : Int) (x0 x1 x2 x3 : AB) : roundD prg 10 [(11, .d false)] 4 lv39i ir39_l0 ⟨F39i 3 s i w, [x0, x1, x2, x3]⟩ = some ([vb (w != 0) = vb false], .brk 2, ⟨E39i 3 s i w, [x0, x1, x2, x3]⟩) := by kernel_rfl
theorem it3_in (s : I4) (i : Nat) (hi : i < 4) : ∀ (n : Nat) (w : BitVec 64), w.toNat < n → ∀ (h h2 : List AB) (st : Bool), h.length = 4 → YR 3 4 (bitsW w i) h h2 st →
    (st = false → evH prg 4 lv39i ir39_l0 ⟨F39i 3 s i w.toNat, h⟩ = some (.brk 2, ⟨E39i 3 s i 0, h2⟩)) ∧ (st = true → ∃ f', evH prg 4 lv39i ir39_l0 ⟨F39i 3 s i w.toNat, h⟩ = some (.ret, ⟨f', h2⟩))
  | 0, w, hn, _, _, _, _, _ => absurd hn (by omega)
  | n + 1, w, hn, h, h2, st, hm, r => by
    match h, hm with
    | [x0, x1, x2, x3], _ =>
      by_cases hw : w = 0#64
      · subst hw
        rw [bitsW, bits_0] at r
        cases r with
        | nil =>
          refine ⟨fun _ => ?_, fun h => by cases h⟩
          exact round_brk (it3_e s i 0 x0 x1 x2 x3) (by simp [AllP])
      · have hl := low_lt w hw
        have e : bitsW w i = (64 * i + low w) :: bitsW (rest w) i := by unfold bitsW; rw [bits_cons w hw, List.map_cons]
        have c1 : vb ((w.toNat : Int) != 0) = vb true := by
          have h0 : w.toNat ≠ 0 := fun e => hw (BitVec.eq_of_toNat_eq (by simpa using e))
          have : ((w.toNat : Int) != 0) = true := by simp; omega
          rw [this]
        rw [e] at r
        cases r with
        | go _ _ _ h1 x _ _ hy hl1 ho r =>
          match h1, hl1 with
          | [y0, y1, y2, y3], hl1 =>
            have ih := it3_in s i hi n (rest w) (by have := rest_lt w hw; omega) [y0, y1, y2, y3] h2 st hl1 r
            have hk := round_norm (it3_k s i w.toNat ((64 * i : Nat) : Int) (low w : Nat) ((64 * i + low w : Nat) : Int) ((w - 1#64).toNat : Nat) ((rest w).toNat : Nat) x0 x1 x2 x3 y0 y1 y2 y3 x) ?_
            · rw [hk]
              exact ih
            · simp only [AllP]
              exact ⟨c1, q_shl6 i hi, tz40 w hw _, q_addn _ _ (by omega), q_conv8 _ (by omega), hy, q_sub1 w hw, q_andw _ _, ho⟩
        | stop _ _ _ _ hy hl1 =>
          match h2, hl1 with
          | [y0, y1, y2, y3], hl1 =>
            refine ⟨fun h => (by cases h), fun _ => ?_⟩
            obtain ⟨f', hs⟩ := it3_s s i w.toNat ((64 * i : Nat) : Int) (low w : Nat) ((64 * i + low w : Nat) : Int) x0 x1 x2 x3 y0 y1 y2 y3
            refine ⟨f', round_ret hs ?_⟩
            simp only [AllP]
            exact ⟨c1, q_shl6 i hi, tz40 w hw _, q_addn _ _ (by omega), q_conv8 _ (by omega), hy⟩
theorem it3_o (s : I4) (x0 x1 x2 x3 : AB) (y0 y1 y2 y3 : AB) : ∀ i : Nat, i < 4 → roundD prg 10 [(2002, .l (.brk 2) ⟨E39i 3 s i 0, [y0, y1, y2, y3]⟩), (6000, .d true)] 4 lv39 ir39_l1 ⟨F39 3 s i, [x0, x1, x2, x3]⟩ =
    some ([okT 4 [x0, x1, x2, x3] = true, evH prg 4 lv39i ir39_l0 ⟨F39i 3 s i (s.get i), [x0, x1, x2, x3]⟩ = some (.brk 2, ⟨E39i 3 s i 0, [y0, y1, y2, y3]⟩), okT 4 [y0, y1, y2, y3] = true], .norm, ⟨F39 3 s ((i + 1 : Nat) : Int), [y0, y1, y2, y3]⟩)
  | 0, _ => by kernel_rfl
  | 1, _ => by kernel_rfl
  | 2, _ => by kernel_rfl
  | 3, _ => by kernel_rfl
  | _ + 4, h => absurd h (by omega)
theorem it3_r (s : I4) (f' : List AV) (x0 x1 x2 x3 : AB) (y0 y1 y2 y3 : AB) : ∀ i : Nat, i < 4 → roundD prg 10 [(2002, .l .ret ⟨f', [y0, y1, y2, y3]⟩), (6000, .d true)] 4 lv39 ir39_l1 ⟨F39 3 s i, [x0, x1, x2, x3]⟩ =
    some ([okT 4 [x0, x1, x2, x3] = true, evH prg 4 lv39i ir39_l0 ⟨F39i 3 s i (s.get i), [x0, x1, x2, x3]⟩ = some (.ret, ⟨f', [y0, y1, y2, y3]⟩)], .ret, ⟨f', [y0, y1, y2, y3]⟩)
  | 0, _ => by kernel_rfl
  | 1, _ => by kernel_rfl
  | 2, _ => by kernel_rfl
  | 3, _ => by kernel_rfl
  | _ + 4, h => absurd h (by omega)
theorem it3_oe (s : I4) (x0 x1 x2 x3 : AB) : roundD prg 10 [] 4 lv39 ir39_l1 ⟨F39 3 s 4, [x0, x1, x2, x3]⟩ = some ([], .brk 0, ⟨E39 3 s 4, [x0, x1, x2, x3]⟩) := by kernel_rfl
theorem it3_out (s : V4) : ∀ (n i : Nat), i + n = 4 → ∀ (h h2 : List AB) (st : Bool), h.length = 4 → okT 4 h = true → YR 3 4 (((List.range' i n).map fun j => bitsW (s.get j) j).flatten) h h2 st →
    (st = false → evH prg 4 lv39 ir39_l1 ⟨F39 3 (ofV s) i, h⟩ = some (.brk 0, ⟨E39 3 (ofV s) 4, h2⟩)) ∧ (st = true → ∃ f', evH prg 4 lv39 ir39_l1 ⟨F39 3 (ofV s) i, h⟩ = some (.ret, ⟨f', h2⟩))
  | 0, i, hi, h, h2, st, hm, ho, r => by
    obtain rfl : i = 4 := by omega
    match h, hm with
    | [x0, x1, x2, x3], _ =>
      cases r with
      | nil =>
        refine ⟨fun _ => ?_, fun h => by cases h⟩
        exact round_brk (it3_oe (ofV s) x0 x1 x2 x3) (by simp [AllP])
  | n + 1, i, hi, h, h2, st, hm, ho, r => by
    rw [List.range'_succ, List.map_cons, List.flatten_cons] at r
    match h, hm with
    | [x0, x1, x2, x3], hm =>
      rcases YR_split r with ⟨h1, r1, r2⟩ | ⟨rfl, r1⟩
      · have hl1 := YR_len r1 hm
        have ho1 := YR_ok r1 ho
        match h1, hl1 with
        | [y0, y1, y2, y3], hl1 =>
          have a := (it3_in (ofV s) i (by omega) ((s.get i).toNat + 1) (s.get i) (by omega) [x0, x1, x2, x3] [y0, y1, y2, y3] false hm r1).1 rfl
          have hk := round_norm (it3_o (ofV s) x0 x1 x2 x3 y0 y1 y2 y3 i (by omega)) (by simp only [AllP, get_v]; exact ⟨ho, a, ho1⟩)
          rw [hk]
          exact it3_out s n (i + 1) (by omega) [y0, y1, y2, y3] h2 st hl1 ho1 r2
      · have hl1 := YR_len r1 hm
        match h2, hl1 with
        | [y0, y1, y2, y3], hl1 =>
          obtain ⟨f', a⟩ := (it3_in (ofV s) i (by omega) ((s.get i).toNat + 1) (s.get i) (by omega) [x0, x1, x2, x3] [y0, y1, y2, y3] true hm r1).2 rfl
          refine ⟨fun h => (by cases h), fun _ => ⟨f', ?_⟩⟩
          exact round_ret (it3_r (ofV s) f' x0 x1 x2 x3 y0 y1 y2 y3 i (by omega)) (by simp only [AllP, get_v]; exact ⟨ho, a⟩)
theorem it3_c (s : I4) (x0 x1 x2 x3 : AB) (y0 y1 y2 y3 : AB) : callDS prg 10 [(2000, .l (.brk 0) ⟨E39 3 s 4, [y0, y1, y2, y3]⟩), (6000, .d true)] 39 [.yl 3, .ro (wdsP s)] [x0, x1, x2, x3] = some ([okT 4 [x0, x1, x2, x3] = true, evH prg 4 lv39 ir39_l1 ⟨F39 3 s 0, [x0, x1, x2, x3]⟩ = some (.brk 0, ⟨E39 3 s 4, [y0, y1, y2, y3]⟩)], .tup [], [y0, y1, y2, y3]) := by kernel_rfl
theorem it3_c2 (s : I4) (f' : List AV) (x0 x1 x2 x3 : AB) (y0 y1 y2 y3 : AB) : callDS prg 10 [(2000, .l .ret ⟨f', [y0, y1, y2, y3]⟩), (6000, .d true)] 39 [.yl 3, .ro (wdsP s)] [x0, x1, x2, x3] = some ([okT 4 [x0, x1, x2, x3] = true, evH prg 4 lv39 ir39_l1 ⟨F39 3 s 0, [x0, x1, x2, x3]⟩ = some (.ret, ⟨f', [y0, y1, y2, y3]⟩)], .tup [], [y0, y1, y2, y3]) := by kernel_rfl
theorem it3 (s : V4) (h h2 : List AB) (st : Bool) (hm : h.length = 4) (ho : okT 4 h = true) (r : YR 3 4 (bytesS s) h h2 st) : CS prg 39 [.yl 3, .ro (wdsP (ofV s))] h = some (.tup [], h2) := by
  have hl := YR_len r hm
  have e : bytesS s = ((List.range' 0 4).map fun j => bitsW (s.get j) j).flatten := by
    simp [bytesS, List.range', V4.get]
  rw [e] at r
  obtain ⟨a, b⟩ := it3_out s 4 0 (by omega) h h2 st hm ho r
  match h, hm, h2, hl with
  | [x0, x1, x2, x3], _, [y0, y1, y2, y3], _ =>
    cases st with
    | false => exact CS_D (it3_c (ofV s) x0 x1 x2 x3 y0 y1 y2 y3) (by simp only [AllP]; exact ⟨ho, a rfl⟩)
    | true =>
      obtain ⟨f', b⟩ := b rfl
      exact CS_D (it3_c2 (ofV s) f' x0 x1 x2 x3 y0 y1 y2 y3) (by simp only [AllP]; exact ⟨ho, b⟩)

/- ---------- yield at block 4 ---------- -/
theorem it4_k (s : I4) (i w b l c w1 w2 : Int) (x0 x1 x2 x3 x4 : AB) (y0 y1 y2 y3 y4 : AB) (e : List AB) : roundD prg 10 [(11, .d true), (18, .v (vi .i64 b)), (20, .v (vi .i64 l)), (21, .v (vi .i64 c)), (22, .v (vi .u8 c)), (23, .r (vb true) ([y0, y1, y2, y3, y4] ++ e)), (14, .v (vi .u64 w1)), (15, .v (vi .u64 w2)), (6000, .d true)] 5 lv39i ir39_l0 ⟨F39i 4 s i w, [x0, x1, x2, x3, x4]⟩ =
    some ([vb (w != 0) = vb true, binA .shl (vi .i64 i) (vi .u64 6) = some (vi .i64 b), CP prg 40 [vi .u64 w] [x0, x1, x2, x3, x4] = some (vi .i64 l), binA .add (vi .i64 b) (vi .i64 l) = some (vi .i64 c), convA .u8 (vi .i64 c) = some (vi .u8 c), callY (ev prg) 4 [vi .u8 c] [x0, x1, x2, x3, x4] = some (vb true, [y0, y1, y2, y3, y4] ++ e),
      binA .sub (vi .u64 w) (vi .u64 1) = some (vi .u64 w1), binA .and (vi .u64 w) (vi .u64 w1) = some (vi .u64 w2), okT 5 ([y0, y1, y2, y3, y4] ++ e) = true], .norm, ⟨F39i 4 s i w2, [y0, y1, y2, y3, y4]⟩) := by kernel_rfl
theorem it4_s (s : I4) (i w b l c : Int) (x0 x1 x2 x3 x4 : AB) (y0 y1 y2 y3 y4 : AB) : ∃ f', roundD prg 10 [(11, .d true), (18, .v (vi .i64 b)), (20, .v (vi .i64 l)), (21, .v (vi .i64 c)), (22, .v (vi .u8 c)), (23, .r (vb false) [y0, y1, y2, y3, y4])] 5 lv39i ir39_l0 ⟨F39i 4 s i w, [x0, x1, x2, x3, x4]⟩ =
    some ([vb (w != 0) = vb true, binA .shl (vi .i64 i) (vi .u64 6) = some (vi .i64 b), CP prg 40 [vi .u64 w] [x0, x1, x2, x3, x4] = some (vi .i64 l), binA .add (vi .i64 b) (vi .i64 l) = some (vi .i64 c), convA .u8 (vi .i64 c) = some (vi .u8 c), callY (ev prg) 4 [vi .u8 c] [x0, x1, x2, x3, x4] = some (vb false, [y0, y1, y2, y3, y4])], .ret, ⟨f', [y0, y1, y2, y3, y4]⟩) :=
  ⟨[.yl 4, .und, .und, vi .i64 i, vi .u64 w, setI s, vi .i64 i, .und, .und, .und, vi .u64 w, vb true, .und, .und, .und, .und, .yl 4, vi .i64 i, vi .i64 b, vi .u64 w, vi .i64 l, vi .i64 c, vi .u8 c, vb false, vb true, .und], by kernel_rfl⟩
theorem it4_e (s : I4) (i w : Int) (x0 x1 x2 x3 x4 : AB) : roundD prg 10 [(11, .d false)] 5 lv39i ir39_l0 ⟨F39i 4 s i w, [x0, x1, x2, x3, x4]⟩ = some ([vb (w != 0) = vb false], .brk 2, ⟨E39i 4 s i w, [x0, x1, x2, x3, x4]⟩) := by kernel_rfl
theorem it4_in (s : I4) (i : Nat) (hi : i < 4) : ∀ (n : Nat) (w : BitVec 64), w.toNat < n → ∀ (h h2 : List AB) (st : Bool), h.length = 5 → YR 4 5 (bitsW w i) h h2 st →
    (st = false → evH prg 5 lv39i ir39_l0 ⟨F39i 4 s i w.toNat, h⟩ = some (.brk 2, ⟨E39i 4 s i 0, h2⟩)) ∧ (st = true → ∃ f', evH prg 5 lv39i ir39_l0 ⟨F39i 4 s i w.toNat, h⟩ = some (.ret, ⟨f', h2⟩))
  | 0, w, hn, _, _, _, _, _ => absurd hn (by omega)
  | n + 1, w, hn, h, h2, st, hm, r => by
    match h, hm with
    | [x0, x1, x2, x3, x4], _ =>
      by_cases hw : w = 0#64
      · subst hw
        rw [bitsW, bits_0] at r
        cases r with
        | nil =>
          refine ⟨fun _ => ?_, fun h => by cases h⟩
          exact round_brk (it4_e s i 0 x0 x1 x2 x3 x4) (by simp [AllP])
      · have hl := low_lt w hw
        have e : bitsW w i = (64 * i + low w) :: bitsW (rest w) i := by unfold bitsW; rw [bits_cons w hw, List.map_cons]
        have c1 : vb ((w.toNat : Int) != 0) = vb true := by
          have h0 : w.toNat ≠ 0 := fun e => hw (BitVec.eq_of_toNat_eq (by simpa using e))
          have : ((w.toNat : Int) != 0) = true := by simp; omega
          rw [this]
        rw [e] at r
        cases r with
        | go _ _ _ h1 x _ _ hy hl1 ho r =>
          match h1, hl1 with
          | [y0, y1, y2, y3, y4], hl1 =>
            have ih := it4_in s i hi n (rest w) (by have := rest_lt w hw; omega) [y0, y1, y2, y3, y4] h2 st hl1 r
            have hk := round_norm (it4_k s i w.toNat ((64 * i : Nat) : Int) (low w : Nat) ((64 * i + low w : Nat) : Int) ((w - 1#64).toNat : Nat) ((rest w).toNat : Nat) x0 x1 x2 x3 x4 y0 y1 y2 y3 y4 x) ?_
            · rw [hk]
              exact ih
            · simp only [AllP]
              exact ⟨c1, q_shl6 i hi, tz40 w hw _, q_addn _ _ (by omega), q_conv8 _ (by omega), hy, q_sub1 w hw, q_andw _ _, ho⟩
        | stop _ _ _ _ hy hl1 =>
          match h2, hl1 with
          | [y0, y1, y2, y3, y4], hl1 =>
            refine ⟨fun h => (by cases h), fun _ => ?_⟩
            obtain ⟨f', hs⟩ := it4_s s i w.toNat ((64 * i : Nat) : Int) (low w : Nat) ((64 * i + low w : Nat) : Int) x0 x1 x2 x3 x4 y0 y1 y2 y3 y4
            refine ⟨f', round_ret hs ?_⟩
            simp only [AllP]
            exact ⟨c1, q_shl6 i hi, tz40 w hw _, q_addn _ _ (by omega), q_conv8 _ (by omega), hy⟩
theorem it4_o (s : I4) (x0 x1 x2 x3 x4 : AB) (y0 y1 y2 y3 y4 : AB) : ∀ i : Nat, i < 4 → roundD prg 10 [(2002, .l (.brk 2) ⟨E39i 4 s i 0, [y0, y1, y2, y3, y4]⟩), (6000, .d true)] 5 lv39 ir39_l1 ⟨F39 4 s i, [x0, x1, x2, x3, x4]⟩ =
    some ([okT 5 [x0, x1, x2, x3, x4] = true, evH prg 5 lv39i ir39_l0 ⟨F39i 4 s i (s.get i), [x0, x1, x2, x3, x4]⟩ = some (.brk 2, ⟨E39i 4 s i 0, [y0, y1, y2, y3, y4]⟩), okT 5 [y0, y1, y2, y3, y4] = true], .norm, ⟨F39 4 s ((i + 1 : Nat) : Int), [y0, y1, y2, y3, y4]⟩)
  | 0, _ => by kernel_rfl
  | 1, _ => by kernel_rfl
  | 2, _ => by kernel_rfl
  | 3, _ => by kernel_rfl
  | _ + 4, h => absurd h (by omega)
theorem it4_r (s : I4) (f' : List AV) (x0 x1 x2 x3 x4 : AB) (y0 y1 y2 y3 y4 : AB) : ∀ i : Nat, i < 4 → roundD prg 10 [(2002, .l .ret ⟨f', [y0, y1, y2, y3, y4]⟩), (6000, .d true)] 5 lv39 ir39_l1 ⟨F39 4 s i, [x0, x1, x2, x3, x4]⟩ =
    some ([okT 5 [x0, x1, x2, x3, x4] = true, evH prg 5 lv39i ir39_l0 ⟨F39i 4 s i (s.get i), [x0, x1, x2, x3, x4]⟩ = some (.ret, ⟨f', [y0, y1, y2, y3, y4]⟩)], .ret, ⟨f', [y0, y1, y2, y3, y4]⟩)
  | 0, _ => by kernel_rfl
  | 1, _ => by kernel_rfl
  | 2, _ => by kernel_rfl
  | 3, _ => by kernel_rfl
  | _ + 4, h => absurd h (by omega)
theorem it4_oe (s : I4) (x0 x1 x2 x3 x4 : AB) : roundD prg 10 [] 5 lv39 ir39_l1 ⟨F39 4 s 4, [x0, x1, x2, x3, x4]⟩ = some ([], .brk 0, ⟨E39 4 s 4, [x0, x1, x2, x3, x4]⟩) := by kernel_rfl
theorem it4_out (s : V4) : ∀ (n i : Nat), i + n = 4 → ∀ (h h2 : List AB) (st : Bool), h.length = 5 → okT 5 h = true → YR 4 5 (((List.range' i n).map fun j => bitsW (s.get j) j).flatten) h h2 st →
    (st = false → evH prg 5 lv39 ir39_l1 ⟨F39 4 (ofV s) i, h⟩ = some (.brk 0, ⟨E39 4 (ofV s) 4, h2⟩)) ∧ (st = true → ∃ f', evH prg 5 lv39 ir39_l1 ⟨F39 4 (ofV s) i, h⟩ = some (.ret, ⟨f', h2⟩))
  | 0, i, hi, h, h2, st, hm, ho, r => by
    obtain rfl : i = 4 := by omega
    match h, hm with
    | [x0, x1, x2, x3, x4], _ =>
      cases r with
      | nil =>
        refine ⟨fun _ => ?_, fun h => by cases h⟩
        exact round_brk (it4_oe (ofV s) x0 x1 x2 x3 x4) (by simp [AllP])
  | n + 1, i, hi, h, h2, st, hm, ho, r => by
    rw [List.range'_succ, List.map_cons, List.flatten_cons] at r
    match h, hm with
    | [x0, x1, x2, x3, x4], hm =>
      rcases YR_split r with ⟨h1, r1, r2⟩ | ⟨rfl, r1⟩
      · have hl1 := YR_len r1 hm
        have ho1 := YR_ok r1 ho
        match h1, hl1 with
        | [y0, y1, y2, y3, y4], hl1 =>
          have a := (it4_in (ofV s) i (by omega) ((s.get i).toNat + 1) (s.get i) (by omega) [x0, x1, x2, x3, x4] [y0, y1, y2, y3, y4] false hm r1).1 rfl
          have hk := round_norm (it4_o (ofV s) x0 x1 x2 x3 x4 y0 y1 y2 y3 y4 i (by omega)) (by simp only [AllP, get_v]; exact ⟨ho, a, ho1⟩)
          rw [hk]
          exact it4_out s n (i + 1) (by omega) [y0, y1, y2, y3, y4] h2 st hl1 ho1 r2
      · have hl1 := YR_len r1 hm
        match h2, hl1 with
        | [y0, y1, y2, y3, y4], hl1 =>
          obtain ⟨f', a⟩ := (it4_in (ofV s) i (by omega) ((s.get i).toNat + 1) (s.get i) (by omega) [x0, x1, x2, x3, x4] [y0, y1, y2, y3, y4] true hm r1).2 rfl
          refine ⟨fun h => (by cases h), fun _ => ⟨f', ?_⟩⟩
          exact round_ret (it4_r (ofV s) f' x0 x1 x2 x3 x4 y0 y1 y2 y3 y4 i (by omega)) (by simp only [AllP, get_v]; exact ⟨ho, a⟩)
theorem it4_c (s : I4) (x0 x1 x2 x3 x4 : AB) (y0 y1 y2 y3 y4 : AB) : callDS prg 10 [(2000, .l (.brk 0) ⟨E39 4 s 4, [y0, y1, y2, y3, y4]⟩), (6000, .d true)] 39 [.yl 4, .ro (wdsP s)] [x0, x1, x2, x3, x4] = some ([okT 5 [x0, x1, x2, x3, x4] = true, evH prg 5 lv39 ir39_l1 ⟨F39 4 s 0, [x0, x1, x2, x3, x4]⟩ = some (.brk 0, ⟨E39 4 s 4, [y0, y1, y2, y3, y4]⟩)], .tup [], [y0, y1, y2, y3, y4]) := by kernel_rfl
theorem it4_c2 (s : I4) (f' : List AV) (x0 x1 x2 x3 x4 : AB) (y0 y1 y2 y3 y4 : AB) : callDS prg 10 [(2000, .l .ret ⟨f', [y0, y1, y2, y3, y4]⟩), (6000, .d true)] 39 [.yl 4, .ro (wdsP s)] [x0, x1, x2, x3, x4] = some ([okT 5 [x0, x1, x2, x3, x4] = true, evH prg 5 lv39 ir39_l1 ⟨F39 4 s 0, [x0, x1, x2, x3, x4]⟩ = some (.ret, ⟨f', [y0, y1, y2, y3, y4]⟩)], .tup [], [y0, y1, y2, y3, y4]) := by kernel_rfl
theorem it4 (s : V4) (h h2 : List AB) (st : Bool) (hm : h.length = 5) (ho : okT 5 h = true) (r : YR 4 5 (bytesS s) h h2 st) : CS prg 39 [.yl 4, .ro (wdsP (ofV s))] h = some (.tup [], h2) := by
  have hl := YR_len r hm
  have e : bytesS s = ((List.range' 0 4).map fun j => bitsW (s.get j) j).flatten := by
    simp [bytesS, List.range', V4.get]
  rw [e] at r
  obtain ⟨a, b⟩ := it4_out s 4 0 (by omega) h h2 st hm ho r
  match h, hm, h2, hl with
  | [x0, x1, x2, x3, x4], _, [y0, y1, y2, y3, y4], _ =>
    cases st with
    | false => exact CS_D (it4_c (ofV s) x0 x1 x2 x3 x4 y0 y1 y2 y3 y4) (by simp only [AllP]; exact ⟨ho, a rfl⟩)
    | true =>
      obtain ⟨f', b⟩ := b rfl
      exact CS_D (it4_c2 (ofV s) f' x0 x1 x2 x3 x4 y0 y1 y2 y3 y4) (by simp only [AllP]; exact ⟨ho, b⟩)
end Go.Proofs.Tryd
