/- From the model's operations to instructions. -/
import Derived.Test.YtbichljebmhmnaaDoorV3
namespace Go.Vs
set_option linter.unusedSimpArgs false
set_option linter.unusedVariables false
open Go Go.RowKit

def opd : Operand → Opd
  | .tmp t => .t t
  | .const v => .c (.p (.val v))
  | .global g => .g g
  | .func f => .c (.fn f [])

def szT (P : Program) (t : TypeId) : Option Nat := (P.info? t).map (·.size)
def byT (P : Program) (t : TypeId) : Option Nat := (P.info? t).map (·.bytes)
def isAggD : TypeDesc → Bool
  | .struct _ => true
  | .array _ _ => true
  | _ => false
def aggT (P : Program) (t : TypeId) : Option Bool := (P.underlying t).map isAggD
def zeroT (P : Program) (t : TypeId) : Option (List Value) := ((P.info? t).bind (·.zero)).bind fun v => if v.cells.toList.all isOne then some v.cells.toList else none

/-- For each cell of a type: the cells of an element, if it is a slice. -/
def slSizes (P : Program) : Nat → TypeId → List (Nat × TypeId)
  | 0, _ => []
  | n + 1, t =>
    match P.underlying t with
    | some (.struct fs) => fs.toList.flatMap fun f => slSizes P n f.type
    | some (.array len e) => (List.replicate len (slSizes P n e)).flatten
    | some (.slice e) => [((szT P e).getD 0, e)]
    | _ => [(0, 0)]

def zc (v : Value) (s : Nat × TypeId) : ZC :=
  match v with
  | .slice none 0 0 => if s.1 = 0 then .z (.val nilS) else .r s.2 s.1
  | v => .z (.val v)

def ZC.plain : ZC → Value
  | .z (.val v) => v
  | .z (.lst _ _) => undef
  | .r _ _ => nilS

def zcs : List Value → List (Nat × TypeId) → List ZC
  | [], _ => []
  | v :: vs, [] => .z (.val v) :: zcs vs []
  | v :: vs, s :: ss => zc v s :: zcs vs ss

def plainKs (P : Program) (rec : TypeId → Option (List Nat)) : List Field → Nat → Option (List Nat)
  | [], _ => some []
  | f :: fs, off =>
    match rec f.type with
    | some ks => if f.name ≠ "_" ∧ f.offset = off ∧ szT P f.type = some ks.length then (plainKs P rec fs (off + ks.length)).map (ks ++ ·) else none
    | none => none

/-- If == of a type is the equality of its cells, each a bool, an integer or a string: the kinds of these. -/
def plainK (P : Program) : Nat → TypeId → Option (List Nat)
  | 0, _ => none
  | n + 1, t =>
    match P.underlying t with
    | some .bool => if szT P t = some 1 then some [0] else none
    | some (.int _) => if szT P t = some 1 then some [1] else none
    | some .string => if szT P t = some 1 then some [2] else none
    | some (.struct fs) =>
      match plainKs P (plainK P n) fs.toList 0 with
      | some ks => if P.stoodInHeld t = false ∧ szT P t = some ks.length then some ks else none
      | none => none
    | some (.array len e) =>
      match plainK P n e with
      | some ks => if szT P e = some ks.length ∧ szT P t = some (len * ks.length) then some (List.replicate len ks).flatten else none
      | none => none
    | _ => none

def compParts (P : Program) (fields : Array Field) : List (Nat × Operand) → Option (List (Nat × Nat × Opd))
  | [] => some []
  | (i, x) :: r =>
    match fields[i]? with
    | some f => match szT P f.type, compParts P fields r with
      | some s, some l => some ((f.offset, s, opd x) :: l)
      | _, _ => none
    | none => none

def isInt : TypeDesc → Bool
  | .int _ => true
  | _ => false

def isNilF : Operand → Bool
  | .const .nilFunc => true
  | _ => false

def compEq (P : Program) (op : BinOp) (xt : TypeId) (x y : Operand) : Option Ins :=
  match P.underlying xt with
  | some (.int _) => some (.bin op (opd x) (opd y))
  | some .string => some (.bin op (opd x) (opd y))
  | some .bool => (plainK P 40 xt).map fun ks => .eqA false ks (op == .neq) (opd x) (opd y)
  | some (.struct _) => if P.eqGuardType P.depth xt then none else (plainK P 40 xt).map fun ks => .eqA true ks (op == .neq) (opd x) (opd y)
  | some (.array _ _) => if P.eqGuardType P.depth xt then none else (plainK P 40 xt).map fun ks => .eqA true ks (op == .neq) (opd x) (opd y)
  | some (.func _ _ _) => if isNilF y then some (.eqN (op == .neq) (opd x)) else none
  | some (.pointer te) => if (P.info? te).isSome then some (.eqP (op == .neq) (opd x) (opd y)) else none
  | _ => none

def compBin (P : Program) (op : BinOp) (xt : TypeId) (x y : Operand) : Option Ins :=
  match op with
  | .eql => compEq P .eql xt x y
  | .neq => compEq P .neq xt x y
  | op => some (.bin op (opd x) (opd y))

/-- Where in a block a variable of a type may lie: at the head of a block of this type, or as a field of a struct's block. -/
def oksOf (P : Program) (u : TypeId) : List (TypeId × Nat × Nat) :=
  ((u, (szT P u).getD 0, 0) :: (List.range P.types.size).flatMap fun t => match P.underlying t with
    | some (.struct fs) => (fs.toList.filter fun fd => fd.type == u).map fun fd => (t, (szT P t).getD 0, fd.offset)
    | _ => []).filter fun q => liesAt P P.depth q.1 (q.2.1 / P.cellsOf q.1) q.2.2 u 1

def compConv (P : Program) (src dst : TypeId) (x : Operand) : Option Ins :=
  match P.underlying src, P.underlying dst with
  | some (.int _), some (.int k) => some (.convI k (opd x))
  | some (.int _), some .string => some (.convS (opd x))
  | some (.slice e), some .string => match P.underlying e with
    | some (.int .u8) => if szT P e == some 1 then some (.convB (opd x)) else none
    | _ => none
  | some .string, some (.slice e) => match P.underlying e with
    | some (.int .u8) => if szT P e == some 1 then some (.mkB e (opd x)) else none
    | _ => none
  | some (.pointer t), some .unsafePointer => match szT P t with
    | some n => if n ≠ 0 then some (.cvU (opd x)) else none
    | none => none
  | some .unsafePointer, some (.pointer u) => if (szT P u).isSome then some (.cvP (oksOf P u) (opd x)) else none
  | _, _ => none

/-- Which calls share the memory: of the functions sh, and of values, but for those at the places pl. -/
def shOf (sh pl : List Nat) : Operand → Bool
  | .func f => sh.contains f
  | .tmp t => !pl.contains t
  | _ => true

def extOf (P : Program) : Operand → Option String
  | .func k => match P.funcs[k]? with
    | some fn => if fn.body.isNone && fn.origin == "" then some fn.name else none
    | none => none
  | _ => none

/-- Functions without a body, by their names. -/
def extI (c : Call) (n : String) : Option Ins :=
  if n = "internal/abi.NoEscape" then match c.args.toList with | [x] => some (.mv (opd x)) | _ => none
  else if n = "internal/bytealg.IndexByteString" then match c.args.toList with | [x, y] => some (.ixb (opd x) (opd y)) | _ => none
  else none

def compCall (P : Program) (shf : Operand → Bool) (c : Call) (ty : TypeId) : Option Ins :=
  match c.callee with
  | .value f => match extOf P f with
    | some n => extI c n
    | none => some (.call (shf f) (opd f) (c.args.toList.map opd))
  | .builtin .unsafeSliceData => match c.args.toList, P.underlying ty with
    | [x], some (.pointer _) => some (.slData (opd x))
    | _, _ => none
  | .builtin .unsafeString => match c.args.toList, c.argTypes.toList with
    | [x, n], [pt, _] => match P.underlying pt with
      | some (.pointer e) => if P.cellsOf e = 1 then some (.uStr e (opd x) (opd n)) else none
      | _ => none
    | _, _ => none
  | .builtin .len => match c.args.toList, c.argTypes.toList with
    | [x], [t] => match P.underlying t with
      | some (.slice _) => some (.len (opd x))
      | some .string => some (.lenS (opd x))
      | some (.array n _) => some (.mv (.c (vi .i64 n)))
      | _ => none
    | _, _ => none
  | .builtin .append => match c.args.toList, c.argTypes.toList with
    | [x, y], [t, u] => match P.underlying t with
      | some (.slice e) => match szT P e, byT P e, zeroT P e, P.underlying u with
        | some s, some b, some z, some (.slice _) => if 0 < s ∧ z.length = s then some (.append e s b (z.map .val) (opd x) (opd y)) else none
        | some s, some b, some z, some .string => if s = 1 ∧ z.length = s then some (.append e s b (z.map .val) (opd x) (opd y)) else none
        | _, _, _, _ => none
      | _ => none
    | _, _ => none
  | .builtin .min => match c.args.toList with
    | [x, y] => some (.min2 false (opd x) (opd y))
    | _ => none
  | .builtin .max => match c.args.toList with
    | [x, y] => some (.min2 true (opd x) (opd y))
    | _ => none
  | _ => none

def compOp (P : Program) (shf : Operand → Bool) (o : Oper) : Option Ins :=
  match o.op with
  | .move x => some (.mv (opd x))
  | .assign x => match x with
    | .const (.slice none 0 0) => match P.underlying o.type with
      | some (.slice e) => (szT P e).map (.nilrow e)
      | _ => none
    | x => some (.mv (opd x))
  | .pick c a b => some (.pick (opd c) (opd a) (opd b))
  | .alloc t => (zeroT P t).map fun z => .alloc t (zcs z (slSizes P 40 t))
  | .box t x => some (.box t (opd x))
  | .build t parts => match zeroT P t, P.underlying t with
    | some z, some (.struct fields) => if fields.toList.all (fun f => (szT P f.type).isSome) then (compParts P fields parts.toList).map (.build (z.map .val)) else none
    | some z, some (.array _ e) => (szT P e).map fun s => .build (z.map .val) (parts.toList.map fun (i, x) => (i * s, s, opd x))
    | _, _ => none
  | .buildSlice t len parts => match P.underlying t with
    | some (.slice e) => match szT P e, zeroT P e with
      | some s, some z => if 0 < s ∧ z.length = s ∧ len * s ≤ 16777216 then some (.buildS e s (z.map .val) len (parts.toList.map fun (i, x) => (i, opd x))) else none
      | _, _ => none
    | _ => none
  | .load t x => match aggT P t, szT P t with
    | some b, some s => some (.load b (if b then s else 1) (opd x))
    | _, _ => none
  | .store t a v => (szT P t).map fun s => .store s (opd a) (opd v)
  | .nilCheck x => some (.nilChk (opd x))
  | .binOp op xt x y _ => compBin P op xt x y
  | .unOp op _ x => some (.un op (opd x))
  | .convert src dst x => compConv P src dst x
  | .makeFunc (.func f) first caps => if first.size = 0 then some (.mkfn f (caps.toList.map opd)) else none
  | .makeSlice t l c => match P.underlying t with
    | some (.slice e) => match szT P e, byT P e, zeroT P e with
      | some s, some b, some z => if 0 < s ∧ z.length = s then some (.makeS e s b (z.map .val) (opd l) (opd c)) else none
      | _, _, _ => none
    | _ => none
  | .slice t x lo hi none => match P.underlying t with
    | some .string => some (.sliceS (opd x) (lo.map opd) (hi.map opd))
    | some (.slice e) => match szT P e with
      | some s => if 0 < s then some (.slice s (opd x) (lo.map opd) (hi.map opd)) else none
      | none => none
    | _ => none
  | .fieldAddr s x i => match P.underlying s with
    | some (.struct fields) => match fields[i]? with
      | some f => match szT P f.type with
        | some n => if 0 < n then some (.fieldA f.offset (opd x)) else none
        | none => none
      | none => none
    | _ => none
  | .field s x i => match P.underlying s with
    | some (.struct fields) => match fields[i]? with
      | some f => match aggT P f.type, szT P f.type with
        | some b, some n => some (.field b f.offset (if b then n else 1) (opd x))
        | _, _ => none
      | none => none
    | _ => none
  | .indexAddr t x i => match P.underlying t with
    | some (.array n e) => (szT P e).map fun s => .indexA (some n) s (opd x) (opd i)
    | some (.slice e) => (szT P e).map fun s => .indexA none s (opd x) (opd i)
    | _ => none
  | .index t x i => match P.underlying t with
    | some (.array n e) => match aggT P e, szT P e with
      | some b, some s => if b || s == 1 then some (.index b n s (opd x) (opd i)) else none
      | _, _ => none
    | some .string => some (.indexS (opd x) (opd i))
    | _ => none
  | .extract x i => some (.extract (opd x) i)
  | .call c => compCall P shf c o.type
  | _ => none

/-- What an operation's run comes to, if it goes on by itself. -/
def fin : Result Next → Option (Value × World)
  | .ok (.value v) w => some (v, w)
  | .ok .skip w => some (undef, w)
  | _ => none

/-- The instruction does what the operation does. -/
def Fits (P : Program) (o : Oper) (a : Act) (g : G) (w : World) (v : AV) (h' : List AB) : Prop :=
  ∃ x w' g', fin ((execOp a.eval o).run P w) = some (x, w') ∧ Ext g w g' w' ∧ HR g' h' w' ∧ VR g' w' v x

structure Ctx (P : Program) (gl : Nat → Option (List PV)) (a : Act) (f : List AV) (g : G) (h : List AB) (w : World) : Prop where
  gr : GR g w gl
  hr : HR g h w
  fr : VRs g w f a.tmps.toList

section
variable {P : Program} {gl : Nat → Option (List PV)} {a : Act} {f : List AV} {g : G} {h : List AB} {w : World}

theorem Ctx.opd (c : Ctx P gl a f g h w) (x : Operand) : VR g w ((opd x).ev f gl) (a.eval x) := by
  cases x with
  | tmp t =>
    simp only [Vs.opd, Opd.ev, Act.eval, getT]
    cases hx : f[t]? with
    | none => simp [VR]
    | some y =>
      obtain ⟨v, hv, hr⟩ := c.fr.get hx
      simp only [Option.getD_some]
      have : a.tmps.getD t undef = v := by
        rw [Array.getElem?_toList] at hv
        simp [Array.getD_eq_getD_getElem?, hv]
      rw [this]; exact hr
  | const v => simp [Vs.opd, Opd.ev, Act.eval, VR, PR]
  | global n =>
    simp only [Vs.opd, Opd.ev, Act.eval]
    cases hg : gl n with
    | none => simp [VR]
    | some xs =>
      have := c.gr n xs hg
      simp only [VR]
      exact ⟨n, 0, rfl, this.1, this.2⟩
  | func f => simp [Vs.opd, Opd.ev, Act.eval, VR, VRs]

theorem run_szT {t : TypeId} {n : Nat} (h : szT P t = some n) : (sizeOf t).run P w = .ok n w := by
  unfold szT at h
  cases hi : P.info? t with
  | none => simp [hi] at h
  | some i => simp only [hi, Option.map_some, Option.some.injEq] at h; subst h; simp [sizeOf, typeInfo, hi]

theorem run_aggT {t : TypeId} {b : Bool} (h : aggT P t = some b) : (isAgg t).run P w = .ok b w := by
  unfold aggT at h
  cases hi : P.underlying t with
  | none => simp [hi] at h
  | some d =>
    simp only [hi, Option.map_some, Option.some.injEq] at h; subst h
    unfold isAgg
    simp only [Sem.run_bind, run_underlying hi, Result.andThen_ok]
    cases d <;> rfl

theorem run_zeroT {t : TypeId} {z : List Value} (h : zeroT P t = some z) : ∃ v, (zeroValue t).run P w = .ok v w ∧ v.cells.toList = z ∧ ∀ u ∈ z, u.oneCell' = true := by
  unfold zeroT at h
  cases hi : P.info? t with
  | none => simp [hi] at h
  | some i =>
    simp only [hi, Option.bind_some] at h
    cases hz : i.zero with
    | none => simp [hz] at h
    | some v =>
      simp only [hz, Option.bind_some] at h
      split at h
      · rename_i h1
        simp only [Option.some.injEq] at h
        refine ⟨v, by simp [zeroValue, typeInfo, hi, hz], h, fun u hu => ?_⟩
        rw [isOne_iff]
        rw [← h] at hu
        exact List.all_eq_true.1 h1 u hu
      · cases h

theorem fits_same (c : Ctx P gl a f g h w) {o : Oper} {v : AV} {x : Value} (hr : (execOp a.eval o).run P w = .ok (.value x) w) (hv : VR g w v x) : Fits P o a g w v h :=
  ⟨x, w, g, by rw [hr]; rfl, Ext.refl g w, c.hr, hv⟩

theorem val_of {x : AV} {v u : Value} (h : VR g w x v) (hx : x = .p (.val u)) : v = u := by
  subst hx; simpa [VR, PR] using h

end
end Go.Vs
