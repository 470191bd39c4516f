/- What the grammars' rows are, as plain data. -/
import Derived.Test.YtefidjmkfefilaaDoorFT9
import Derived.Test.YtefidjmkfefilaaDoorVE
import Derived.Laws.Bits64
import Derived.Lib.TrailingZeros
namespace Go.Proofs.Tryd
set_option linter.unusedSimpArgs false
set_option linter.unusedVariables false
open Go Go.Vs
structure SetD where
 a : Int
 b : Int
 c : Int
 d : Int
structure SymD where
 kind : Int
 a : Int
 b : Int
 c : Int
 d : Int
 sort : Int
structure ProdD where
 left : Int
 right : List SymD
 cons : ByteArray
 role : Int
 prefer : Bool
 avoid : Bool
 frm : Int
structure ForbD where
 parent : Int
 at_ : Int
 child : Int
structure FollD where
 sort : Int
 a : Int
 b : Int
 c : Int
 d : Int
structure GramD where
 sorts : List ByteArray
 prods : List ProdD
 start : Int
 forbid : List ForbD
 follow : List FollD
def eI64 (n : Int) : List PV := [.val (.int .i64 n)]
def eU8 (n : Int) : List PV := [.val (.int .u8 n)]
def eBool (b : Bool) : List PV := [.val (.bool b)]
def eStr (s : ByteArray) : List PV := [.val (.string s)]
def eSet (s : SetD) : List PV := [.val (.int .u64 s.a), .val (.int .u64 s.b), .val (.int .u64 s.c), .val (.int .u64 s.d)]
def eSym (s : SymD) : List PV := [.val (.int .i64 s.kind), .val (.int .u64 s.a), .val (.int .u64 s.b), .val (.int .u64 s.c), .val (.int .u64 s.d), .val (.int .i64 s.sort)]
def eProd (p : ProdD) : List PV := [.val (.int .i64 p.left), .lst 6 (p.right.map eSym), .val (.string p.cons), .val (.int .i64 p.role), .val (.bool p.prefer), .val (.bool p.avoid), .val (.int .i64 p.frm)]
def eForb (f : ForbD) : List PV := [.val (.int .i64 f.parent), .val (.int .i64 f.at_), .val (.int .i64 f.child)]
def eFoll (f : FollD) : List PV := [.val (.int .i64 f.sort), .val (.int .u64 f.a), .val (.int .u64 f.b), .val (.int .u64 f.c), .val (.int .u64 f.d)]
def eGram (g : GramD) : List PV := [.lst 1 (g.sorts.map eStr), .lst 7 (g.prods.map eProd), .val (.int .i64 g.start), .lst 3 (g.forbid.map eForb), .lst 5 (g.follow.map eFoll)]
def bG (g : GramD) : AB := .cells 27 ((eGram g).map .p)
def bP (p : ProdD) : AB := .cells 53 ((eProd p).map .p)
def bI (l : List Int) : AB := .row 3 1 0 (ra eI64 l)
def bB (l : List Bool) : AB := .row 4 1 0 (ra eBool l)
def aG (g : GramD) : AV := .agg ((eGram g).map .p)
def aP (p : ProdD) : AV := .agg ((eProd p).map .p)
def w6 (n : Int) : Int := IntKind.wrap .i64 n
def mII (l : List (Int × Int)) : AB := .map (mrow (fun n => vi .i64 n) (fun n => vi .i64 n) l)
def mSI (l : List (ByteArray × Int)) : AB := .map (mrow (fun s => vs s) (fun n => vi .i64 n) l)
def mFI (l : List ((Int × Int × Int) × Int)) : AB := .map (mrow (fun n => .agg [vi .i64 n.1, vi .i64 n.2.1, vi .i64 n.2.2]) (fun n => vi .i64 n) l)
def b0 : ByteArray := (⟨([] : List UInt8).toArray⟩ : ByteArray)
abbrev i6 (n : Int) : AV := vi .i64 n
theorem r40 : callP prg (evalN prg 100) 40 [] [] = some gS := by kernel_rfl
theorem r13 : callP prg (evalN prg 100) 13 [gS] [] = some (.tup [.p (.lst 1 [[.val (.int .i64 1)], [.val (.int .i64 0)], [.val (.int .i64 (-1))]]), vi .i64 0]) := by kernel_rfl
theorem r22 : callP prg (evalN prg 100) 22 [gS] [] = some (.tup [.p (.lst 1 [[.val (.bool false)], [.val (.bool true)], [.val (.bool false)]]), vi .i64 0]) := by kernel_rfl
theorem r14a : callP prg (evalN prg 100) 14 [gS, vi .i64 0] [] = some (.tup [vs ⟨([120] : List UInt8).toArray⟩, vi .i64 0]) := by kernel_rfl
theorem r14b : callP prg (evalN prg 100) 14 [gS, vi .i64 2] [] = some (.tup [vs ⟨([] : List UInt8).toArray⟩, vi .i64 161]) := by kernel_rfl
theorem r23 : callP prg (evalN prg 100) 23 [gS] [] = some (.tup [.p (.lst 1 [[.val (.bool true)], [.val (.bool false)], [.val (.bool false)]]), vi .i64 0]) := by kernel_rfl
structure I4 where
 a : Int
 b : Int
 c : Int
 d : Int
def wds (s : I4) : List AV := [vi .u64 s.a, vi .u64 s.b, vi .u64 s.c, vi .u64 s.d]
def orI (x y : Int) : Int := IntKind.u64.wrap (BitVec.ofInt 64 x ||| BitVec.ofInt 64 y).toNat
structure V4 where
 a : BitVec 64
 b : BitVec 64
 c : BitVec 64
 d : BitVec 64
instance (x y : V4) : Decidable (x = y) := by
 obtain ⟨a, b, c, d⟩ := x
 obtain ⟨e, f, g, h⟩ := y
 exact decidable_of_iff (a = e ∧ b = f ∧ c = g ∧ d = h) (by simp)
def ofV (s : V4) : I4 := ⟨s.a.toNat, s.b.toNat, s.c.toNat, s.d.toNat⟩
theorem wrap_nat (p : BitVec 64) : IntKind.u64.wrap (p.toNat : Int) = p.toNat := by
 rw [IntKind.wrap_u64]
 have := p.isLt
 omega
theorem orI_n (p q : BitVec 64) : orI p.toNat q.toNat = ((p ||| q).toNat : Int) := by
 unfold orI
 rw [show (BitVec.ofInt 64 (p.toNat : Int)) = p from by simp, show (BitVec.ofInt 64 (q.toNat : Int)) = q from by simp]
 exact wrap_nat _
theorem orI_0 (q : BitVec 64) : orI 0 q.toNat = (q.toNat : Int) := by
 have := orI_n 0#64 q
 simpa using this
def I4.get (s : I4) : Nat → Int
 | 0 => s.a
 | 1 => s.b
 | 2 => s.c
 | _ => s.d
def I4.put (s : I4) (k : Nat) (x : Int) : I4 :=
 match k with
 | 0 => ⟨x, s.b, s.c, s.d⟩
 | 1 => ⟨s.a, x, s.c, s.d⟩
 | 2 => ⟨s.a, s.b, x, s.d⟩
 | _ => ⟨s.a, s.b, s.c, x⟩
def V4.get (s : V4) : Nat → BitVec 64
 | 0 => s.a
 | 1 => s.b
 | 2 => s.c
 | _ => s.d
def V4.putW (s : V4) (k : Nat) (x : BitVec 64) : V4 :=
 match k with
 | 0 => ⟨x, s.b, s.c, s.d⟩
 | 1 => ⟨s.a, x, s.c, s.d⟩
 | 2 => ⟨s.a, s.b, x, s.d⟩
 | _ => ⟨s.a, s.b, s.c, x⟩
def has (s : V4) (b : Nat) : Bool := (s.get (b / 64)).getLsbD (b % 64)
def put (s : V4) (b : Nat) : V4 := s.putW (b / 64) (s.get (b / 64) ||| 1#64 <<< (b % 64))
theorem two_pow (c : Nat) : ((2 : Int) ^ c) = ((2 ^ c : Nat) : Int) := by simp
theorem q_bit (p : BitVec 64) (j : Nat) (hj : j < 64) : p.toNat >>> j % 2 = (p.getLsbD j).toNat := by
 rw [BitVec.getLsbD, Nat.testBit]
 simp [Nat.one_and_eq_mod_two]
 rcases Nat.mod_two_eq_zero_or_one (p.toNat >>> j) with h | h <;> simp [h]
theorem q_eq1 (b : Bool) : ((((b.toNat : Nat) : Int)) == 1) = b := by cases b <;> rfl
def rest (w : BitVec 64) : BitVec 64 := w &&& (w - 1#64)
def bits (w : BitVec 64) : List Nat := (List.range' 0 64).filter w.getLsbD
def h24 (s : I4) (c : Int) (b : Bool) : List AB := [.cells 46 (wds s), .cells 5 [vi .u8 c], .cells 4 [vb b]]
def gSc : List AV := match gS with | .agg xs => xs | _ => []
def hW : List AB := [.row 9 1 0 [], .row 53 7 0 [], .row 85 3 0 [], .row 87 5 0 [], .cells 27 gSc]
theorem cpw {fn : Nat} {args : List AV} {x : AV} (hp : AV.pure.pures args = true) (h : callP prg (evalN prg 100) fn args [] = some x) (h0 : List AB) : CP prg fn args h0 = some x := by
 have := CP_of 100 h
 rw [CP_in _ _ hp] at this ⊢
 exact this
theorem works : PR1 prg 11 [] (vb true) :=
 fpr [(12, .v gS), (15, .v (.tup [.p (.lst 1 [[.val (.int .i64 1)], [.val (.int .i64 0)], [.val (.int .i64 (-1))]]), vi .i64 0])), (20, .v (.tup [.p (.lst 1 [[.val (.bool true)], [.val (.bool false)], [.val (.bool false)]]), vi .i64 0])), (25, .v (.tup [.p (.lst 1 [[.val (.bool false)], [.val (.bool true)], [.val (.bool false)]]), vi .i64 0])), (30, .v (.tup [vs ⟨([120] : List UInt8).toArray⟩, vi .i64 0])), (35, .v (.tup [vs ⟨([] : List UInt8).toArray⟩, vi .i64 161]))]
  (apc (cpw rfl r40 [] : CP prg 40 [] [] = some gS) (apc (cpw rfl r13 hW : CP prg 13 [gS] hW = some (.tup [.p (.lst 1 [[.val (.int .i64 1)], [.val (.int .i64 0)], [.val (.int .i64 (-1))]]), vi .i64 0])) (apc (cpw rfl r23 hW : CP prg 23 [gS] hW = some (.tup [.p (.lst 1 [[.val (.bool true)], [.val (.bool false)], [.val (.bool false)]]), vi .i64 0])) (apc (cpw rfl r22 hW : CP prg 22 [gS] hW = some (.tup [.p (.lst 1 [[.val (.bool false)], [.val (.bool true)], [.val (.bool false)]]), vi .i64 0]))
   (apc (cpw rfl r14a hW : CP prg 14 [gS, vi .i64 0] hW = some (.tup [vs ⟨([120] : List UInt8).toArray⟩, vi .i64 0])) (apc (cpw rfl r14b hW : CP prg 14 [gS, vi .i64 2] hW = some (.tup [vs ⟨([] : List UInt8).toArray⟩, vi .i64 161])) apn)))))) rfl (by kernel_rfl)
noncomputable def F11 : Option Bool := some true
def F11_v (x0 : Bool) : AV := vb x0
theorem F11_ok {r : Bool} (h : F11 = some r) : PR1 prg 11 [] (F11_v r) := by cases h; exact works
def v4 (s : SymD) : V4 := ⟨.ofInt 64 s.a, .ofInt 64 s.b, .ofInt 64 s.c, .ofInt 64 s.d⟩
def wOk (s : SymD) : Bool := decide ((0 ≤ s.a ∧ s.a < 18446744073709551616) ∧ (0 ≤ s.b ∧ s.b < 18446744073709551616) ∧ (0 ≤ s.c ∧ s.c < 18446744073709551616) ∧ (0 ≤ s.d ∧ s.d < 18446744073709551616))
theorem v4_of {s : SymD} (h : wOk s = true) : ofV (v4 s) = ⟨s.a, s.b, s.c, s.d⟩ := by
 have h := of_decide_eq_true h
 have key : ∀ n : Int, 0 ≤ n ∧ n < 18446744073709551616 → ((BitVec.ofInt 64 n).toNat : Int) = n := by
  intro n hn
  rw [BitVec.toNat_ofInt]
  omega
 simp only [ofV, v4, key _ h.1, key _ h.2.1, key _ h.2.2.1, key _ h.2.2.2]
abbrev eOp (g : GramD) (sh : List Int) (nu : List Bool) : List PV := (eGram g) ++ [.lst 1 (sh.map eI64), .lst 1 (nu.map eBool)]
abbrev bS (l : List SetD) : AB := .row 46 4 0 (ra eSet l)
inductive TreeD where
 | mk (prod byte : Int) (kids : List TreeD)
def TreeD.prod : TreeD → Int | .mk p _ _ => p
def TreeD.byte : TreeD → Int | .mk _ b _ => b
def TreeD.kids : TreeD → List TreeD | .mk _ _ ks => ks
mutual
def eTree : TreeD → List PV
 | .mk p b ks => [.val (.int .i64 p), .val (.int .u8 b), .lst 3 (eTrees ks)]
def eTrees : List TreeD → List (List PV)
 | [] => []
 | t :: ts => eTree t :: eTrees ts
end
def cT (t : TreeD) : List PV := [.val (.int .i64 t.prod), .val (.int .u8 t.byte), .lst 3 (eTrees t.kids)]
theorem eTree_c : ∀ t, eTree t = cT t
 | .mk _ _ _ => rfl
theorem tr_map : ∀ ts, eTrees ts = ts.map cT
 | [] => rfl
 | t :: ts => by simp only [eTrees, List.map_cons, tr_map ts, eTree_c]
structure AtD where
 prod : Int
 byte : Int
 kids : List TreeD
 n : Int
def eAt (a : AtD) : List PV := [.val (.int .i64 a.prod), .val (.int .u8 a.byte), .lst 3 (eTrees a.kids), .val (.int .i64 a.n)]
abbrev yU (g : Nat) (x : List Int) : AB := .row 5 1 g (ra eU8 x)
abbrev yY0 : AB := .row 48 6 0 (ra eSym [])
abbrev yU0 : AB := .row 5 1 0 (ra eU8 [])
abbrev yT0 : AB := .row 72 3 0 (ra cT [])
abbrev ls {α : Type} (n : Nat) (e : α → List PV) (x : List α) : AV := .p (.lst n (x.map e))
abbrev n0 : AV := .p (.val (.slice .none 0 0))
abbrev tS (g : GramD) : Nat := Int.toNat (g.sorts.length : Int)
abbrev lS (g : GramD) : Int := (g.sorts.length : Int)
abbrev lP (g : GramD) : Int := (g.prods.length : Int)
abbrev lF (g : GramD) : Int := (g.forbid.length : Int)
abbrev lW (g : GramD) : Int := (g.follow.length : Int)
theorem ar {m t s g : Nat} {α : Type} {e : α → List PV} {xs : List α} {l : List AB} (h : l.all (AB.blw m) = true) : (AB.row t s g (ra e xs) :: l).all (AB.blw m) = true := abl_cons abl_row h
theorem ac {m : Nat} {x : AB} {l : List AB} (hs : l.all (AB.blw m) = true) (h : x.blw m = true := by exact rfl) : (x :: l).all (AB.blw m) = true := abl_cons h hs
theorem av {b c : Bool} {qs : List Prop} (h : b = c) (hs : AllP qs) : AllP ((vb b = vb c) :: qs) := apc (cv h) hs
noncomputable def joP (a b : List Prop) : List Prop := List.rec (motive := fun _ => List Prop) b (fun x _ r => x :: r) a
noncomputable def joH (a b : List (Nat × Hint)) : List (Nat × Hint) := List.rec (motive := fun _ => List (Nat × Hint)) b (fun x _ r => x :: r) a
abbrev KP (_ : List (Nat × Hint)) (P : List Prop → List Prop) : Prop := ∀ l, AllP l → AllP (P l)
abbrev kH {H : List (Nat × Hint)} {P : List Prop → List Prop} (_ : KP H P) : List (Nat × Hint) := H
theorem joP_all {l : List Prop} (hl : AllP l) : ∀ {ps : List Prop}, AllP ps → AllP (joP ps l)
 | [], _ => hl
 | _ :: _, h => AllP_cons.2 ⟨(AllP_cons.1 h).1, joP_all hl (AllP_cons.1 h).2⟩
theorem ka (H : List (Nat × Hint)) {ps : List Prop} (hp : AllP ps) : KP H (joP ps) := fun _ hl => joP_all hl hp
theorem KP.a {H : List (Nat × Hint)} {P : List Prop → List Prop} {qs : List Prop} (k : KP H P) (H2 : List (Nat × Hint)) (hq : AllP qs) : KP (joH H2 H) (fun l => P (joP qs l)) := fun _ hl => k _ (joP_all hl hq)
theorem KP.b {H : List (Nat × Hint)} {P : List Prop → List Prop} {qs : List Prop} (k : KP H P) (hq : AllP qs) : AllP (P qs) := k _ hq
section
variable {p : Prg} {m id fn : Nat} {live : List Nat} {b : IC} {s s2 : St} {ps : List Prop} {N : Nat} {h h0 : List AB} {L : List (Nat × AV)} {args : List AV} {v : AV}
theorem rn (H : List (Nat × Hint)) (hp : AllP ps) (e : roundD p 30 H m live b s = some (ps, .norm, s2) := by kernel_rfl) : evH p m live b s = evH p m live b s2 := rnd H hp e
theorem xb (H : List (Nat × Hint)) (hp : AllP ps) (e : exitL L (roundD p 30 H m live b s) = some (ps, .brk id, L, N, h) := by kernel_rfl) : ∃ g, evH p m live b s = some (.brk id, ⟨fr N g L, h⟩) := xbrk H hp e
theorem xy (H : List (Nat × Hint)) (hp : AllP ps) (e : exitV L (roundD p 30 H m live b s) = some (ps, .ret, L, N) := by kernel_rfl) : ∃ g y, evH p m live b s = some (.ret, ⟨fr N g L, y⟩) := xretY H hp e
theorem fc (H : List (Nat × Hint)) (hp : AllP ps) (e : callDS p 30 H fn args h0 = some (ps, v, h) := by kernel_rfl) : CS p fn args h0 = some (v, h) := fcs H hp e
theorem fq (H : List (Nat × Hint)) (hp : AllP ps) (hv : v.pure = true := by exact rfl) (e : (callDS p 30 H fn args []).map (fun r => (r.1, r.2.1)) = some (ps, v) := by kernel_rfl) : PR1 p fn args v := fpr H hp hv e
end
end Go.Proofs.Tryd
