/- Rv, part B: the evaluator: a function's code on values, no memory. Of no program. -/
import Derived.Test.YtmoeohjaafpmgaaRvA
set_option linter.unusedVariables false
set_option linter.unusedSimpArgs false
set_option linter.unusedSectionVars false
namespace Go.Rv
open Go Go.RowKit

/-! ### Small readers -/
def V.cells : V → Option (List V) | .agg cs => some cs | .tup _ => none | .dead => none | v => some [v]

/-- The text of bytes that are elements. -/
def bytesC : Cells → Nat → Option ByteArray
  | .typ t G, n => if h : t = .int .u8 .nil then some (bytesT n (castG h G)) else none
  | .raw _, _ => none
def aggV : V → Bool | .agg _ => true | _ => false

/-- A constant. -/
def cst1 : Value → V
  | .bool b => .bool b
  | .int k n => .int k n
  | .string s => .str s
  | .pointer none => .nilp
  | .slice none 0 0 => .sl true 0 0 (.raw fun _ => [])
  | .map none => .nilm
  | .nilFunc => .nilf
  | .nilIface => .nili
  | _ => .dead
def cstV : Value → V
  | .agg cs => if cs.toList.all Value.oneCell' then .agg (cs.toList.map cst1) else .dead
  | .func fn ⟨[]⟩ ⟨[]⟩ => .func fn [] []
  | v => cst1 v

def ev (st : St) : Operand → V
  | .tmp t => st.t.getD t .dead
  | .const v => cstV v
  | .func f => .func (.func f) [] []
  | .global _ => .dead

/-! ### Substitution at what leads into the local heap -/
def V.sub (σ : V → V) : Nat → V → V
  | 0, _ => .dead
  | n + 1, .agg cs => .agg (cs.map (V.sub σ n))
  | n + 1, .tup cs => .tup (cs.map (V.sub σ n))
  | n + 1, .func fn a b => .func fn (a.map (V.sub σ n)) (b.map (V.sub σ n))
  | n + 1, .iface t v => .iface t (V.sub σ n v)
  | _ + 1, .own r => σ (.own r)
  | _ + 1, .ref r o => σ (.ref r o)
  | _ + 1, .wptr r s i o => σ (.wptr r s i o)
  | _ + 1, .mp r => σ (.mp r)
  | _ + 1, v => v
def dep : Nat := 9
def B.sub (σ : V → V) : B → B
  | .box cs => .box (cs.map (V.sub σ dep))
  | .lit sz n cs => .lit sz n (cs.map (V.sub σ dep))
  | .sb T v => .sb T (V.sub σ dep v)
  | b => b
def St.sub (σ : V → V) (st : St) : St := { t := st.t.map (V.sub σ dep), s := st.s.map (·.map (V.sub σ dep)), h := st.h.map (B.sub σ) }

/-- A row is written no more. -/
def frzV (r : Nat) (nl : Bool) (sz n : Nat) (g : Cells) : V → V
  | .own r' => if r' = r then .sl nl sz n g else .own r'
  | .wptr r' s i o => if r' = r then .dead else .wptr r' s i o
  | v => v
def St.frz (st : St) (r : Nat) : St :=
  match st.h[r]? with
  | some (.row _ nl sz n g) => let s := st.sub (frzV r nl sz n g); { s with h := s.h.set r .gone }
  | _ => st

/-- Nothing is known of a row's slices and cells any more. -/
def killV (r : Nat) : V → V
  | .own r' => if r' = r then .dead else .own r'
  | .wptr r' s i o => if r' = r then .dead else .wptr r' s i o
  | v => v

/-- Nothing is known of places from m on. -/
def cutV (m : Nat) : V → V
  | .own r => if r < m then .own r else .dead
  | .ref r o => if r < m then .ref r o else .dead
  | .wptr r s i o => if r < m then .wptr r s i o else .dead
  | .mp r => if r < m then .mp r else .dead
  | v => v
def St.trim (st : St) (m : Nat) : St := let s := st.sub (cutV m); { s with h := s.h.take m }

/-- The rows that a value leads to. -/
def V.owns : Nat → V → List Nat
  | 0, _ => []
  | n + 1, .agg cs => cs.flatMap (V.owns n)
  | n + 1, .tup cs => cs.flatMap (V.owns n)
  | n + 1, .func _ a b => a.flatMap (V.owns n) ++ b.flatMap (V.owns n)
  | n + 1, .iface _ v => V.owns n v
  | _ + 1, .own r => [r]
  | _ + 1, _ => []
/-- As it is read now, for a call. -/
def viewV (h : List B) : V → V
  | .own r => match h[r]? with | some (.row _ nl sz n g) => .sl nl sz n g | _ => .dead
  | _ => .dead

/-! ### Types -/
section
variable (P : Program)
def sizeT (t : TypeId) : Nat := match P.info? t with | some i => i.size | none => 0
def aggT (t : TypeId) : Bool := match P.underlying t with | some (.struct _) | some (.array _ _) => true | _ => false
def elemT (t : TypeId) : TypeId := match P.underlying t with | some (.slice e) | some (.array _ e) | some (.pointer e) => e | _ => 0
def zcells (t : TypeId) : List Value := match P.info? t with | some i => (match i.zero with | some z => if z.cells.all Value.oneCell' then z.cells.toList else [] | none => []) | none => []
def zeroT0 (t : TypeId) : List V := (zcells P t).map cst1
/-- Whether a type's zero is an aggregate. -/
def aggVal : Value → Bool | .agg _ => true | _ => false
def zAgg (t : TypeId) : Bool := match P.info? t with | some i => (match i.zero with | some z => aggVal z | none => false) | none => false
/-- A type's cells as a row of types, if they are whole numbers, bools, texts, slices of these. -/
def Ty.cat : Ty → Ty → Ty
  | .nil, t => t
  | .bool r, t => .bool (r.cat t)
  | .int k r, t => .int k (r.cat t)
  | .str r, t => .str (r.cat t)
  | .sl e r, t => .sl e (r.cat t)
def tyT : Nat → TypeId → Option Ty
  | 0, _ => none
  | d + 1, t =>
    match P.underlying t with
    | some (.int k) => some (.int k .nil)
    | some .bool => some (.bool .nil)
    | some .string => some (.str .nil)
    | some (.slice e) => match tyT d e with | some x => if Nat.beq x.size (sizeT P e) then some (.sl x .nil) else none | none => none
    | some (.struct fs) => fs.toList.foldr (fun f acc => match tyT d f.type, acc with | some x, some y => some (Ty.cat x y) | _, _ => none) (some .nil)
    | some (.array n e) => match tyT d e with | some x => some (Nat.rec .nil (fun _ y => Ty.cat x y) n) | none => none
    | _ => none
def zero1 : V → Value → Bool
  | .sl true _ 0 _, .slice none 0 0 => true
  | .bool a, .bool b => a == b
  | .int k a, .int k' b => decide (k = k') && a == b
  | .str a, .string b => decide (a = b)
  | _, _ => false
def zeroOK : List V → List Value → Bool
  | [], [] => true
  | v :: vs, z :: zs => zero1 v z && zeroOK vs zs
  | _, _ => false
def tyZ (e : TypeId) : Option Ty := match tyT P 8 e with | some t => cond (zeroOK (t.cells t.zero) (zcells P e)) (some t) none | none => none
def zeroT (e : TypeId) : List V := match tyZ P e with | some t => t.cells t.zero | none => zeroT0 P e
/-- Elements all of which are zero. -/
def repC (e : TypeId) : Cells := match tyZ P e with | some t => .typ t fun _ => t.zero | none => .raw fun _ => zeroT0 P e
theorem repC_fn (e : TypeId) (i : Nat) : repC P e i = zeroT P e := by
  unfold repC zeroT
  cases tyZ P e <;> rfl
def ints (q : IntKind) : Nat → Ty
  | 0 => .nil
  | n + 1 => .int q (ints q n)
/-- A type of a map's keys, and its cells. -/
def keyT (kt : TypeId) (k : Ty) : Bool :=
  match P.underlying kt with
  | some (.int q) => decide (k = .int q .nil)
  | some .string => decide (k = .str .nil)
  | some .bool => decide (k = .bool .nil)
  | some (.array n e) => match P.underlying e with | some (.int q) => Nat.beq (sizeT P e) 1 && decide (k = ints q n) | _ => false
  | _ => false
/-- A slice of bytes. -/
def bytesTy (t : TypeId) : Bool := match P.underlying t with | some (.slice e) => (match P.underlying e with | some (.int .u8) => Nat.beq (sizeT P e) 1 | _ => false) | _ => false
/-- The library's builder of texts: the address of itself, or none, and a slice of bytes. -/
def isSB (t : TypeId) : Bool :=
  match P.underlying t with
  | some (.struct fs) => match fs.toList with
    | [a, b] => decide (a.name = "addr") && decide (b.name = "buf") && Nat.beq a.offset 0 && Nat.beq b.offset 1 && Nat.beq (sizeT P t) 2 && bytesTy P b.type && (match zcells P t with | [.pointer none, .slice none 0 0] => true | _ => false)
    | _ => false
  | _ => false
def strT (t : TypeId) : Bool := match P.underlying t with | some .string => true | _ => false
def sbE (t : TypeId) : TypeId := match P.underlying t with | some (.struct fs) => (match fs.toList with | [_, b] => elemT P b.type | _ => 0) | _ => 0
/-- An operand of a type. -/
def evT (st : St) (ty : TypeId) (x : Operand) : V :=
  match x with
  | .const (.slice none 0 0) => .sl true (sizeT P (elemT P ty)) 0 (repC P (elemT P ty))
  | x => ev st x
/-- A type's values are one cell, or an aggregate. -/
def okT (t : TypeId) : Bool := (P.underlying t).isSome && (aggT P t || sizeT P t == 1)
def fieldT (t : TypeId) (f : Nat) : Nat × TypeId := match P.underlying t with | some (.struct fs) => (match fs[f]? with | some x => (x.offset, x.type) | none => (0, 0)) | _ => (0, 0)

/-- Whether two values of a type are one; of numbers, texts, bools, structs and arrays of these. -/
def eqT : Nat → TypeId → List V → List V → Option Bool
  | 0, _, _, _ => none
  | d + 1, t, a, b =>
    match P.underlying t with
    | some (.int _) => match a, b with | [.int k x], [.int k' y] => if k = k' then some (x == y) else none | _, _ => none
    | some .bool => match a, b with | [.bool x], [.bool y] => some (x == y) | _, _ => none
    | some .string => match a, b with | [.str x], [.str y] => some (x.toList == y.toList) | _, _ => none
    | some (.struct fs) => if P.stoodInHeld t then none else fs.toList.foldr (fun f acc =>
        if f.name = "_" then none else
        match eqT d f.type ((a.drop f.offset).take (sizeT P f.type)) ((b.drop f.offset).take (sizeT P f.type)), acc with
        | some x, some y => some (x && y)
        | _, _ => none) (some true)
    | some (.array n e) => if 0 < sizeT P e then (List.range n).foldr (fun i acc =>
        match eqT d e ((a.drop (i * sizeT P e)).take (sizeT P e)) ((b.drop (i * sizeT P e)).take (sizeT P e)), acc with
        | some x, some y => some (x && y)
        | _, _ => none) (some true) else none
    | _ => none

/-- Whether two values are one, the second of which is nil. -/
def nilB (h : List B) : Option TypeDesc → V → V → Option Bool
  | some (.pointer _), .nilp, .nilp => some true
  | some (.pointer _), .ref _ _, .nilp => some false
  | some (.pointer _), .eptr _, .nilp => some false
  | some (.pointer _), .wptr _ _ _ _, .nilp => some false
  | some (.map _ _), .nilm, .nilm => some true
  | some (.map _ _), .mp _, .nilm => some false
  | some (.func _ _ _), .nilf, .nilf => some true
  | some (.func _ _ _), .func _ _ _, .nilf => some false
  | some (.interface _), .nili, .nili => some true
  | some (.interface _), .iface _ _, .nili => some false
  | some (.slice _), .sl nl _ _ _, .sl true _ _ _ => some nl
  | some (.slice _), .own r, .sl true _ _ _ => match h[r]? with | some (.row _ nl _ _ _) => some nl | _ => none
  | _, _, _ => none

/-- What an operator makes of two values: what must be so, and the value. -/
def evBin (h : List B) (cst : Bool) (op : BinOp) (t : TypeId) (x y : V) : Option (Bool × V) :=
  match x, y with
  | .int k a, .int k' b =>
    match op with
    | .shl => some (decide (0 ≤ b), .int k (k.wrap (a * 2 ^ (min b.toNat k.bits))))
    | .shr => some (decide (0 ≤ b), .int k (a.fdiv (2 ^ (min b.toNat k.bits))))
    | .add => if k = k' then some (true, .int k (k.wrap (a + b))) else none
    | .sub => if k = k' then some (true, .int k (k.wrap (a - b))) else none
    | .mul => if k = k' then some (true, .int k (k.wrap (a * b))) else none
    | .quo => if k = k' then some (!(b == 0), .int k (k.wrap (a.tdiv b))) else none
    | .rem => if k = k' then some (!(b == 0), .int k (a.tmod b)) else none
    | .and => if k = k' then some (true, .int k (k.wrap (BitVec.ofInt k.bits a &&& BitVec.ofInt k.bits b).toNat)) else none
    | .or => if k = k' then some (true, .int k (k.wrap (BitVec.ofInt k.bits a ||| BitVec.ofInt k.bits b).toNat)) else none
    | .xor => if k = k' then some (true, .int k (k.wrap (BitVec.ofInt k.bits a ^^^ BitVec.ofInt k.bits b).toNat)) else none
    | .andNot => if k = k' then some (true, .int k (k.wrap (BitVec.ofInt k.bits a &&& ~~~(BitVec.ofInt k.bits b)).toNat)) else none
    | .eql => if k = k' then some (true, .bool (a == b)) else none
    | .neq => if k = k' then some (true, .bool (a != b)) else none
    | .lss => if k = k' then some (true, .bool (decide (a < b))) else none
    | .leq => if k = k' then some (true, .bool (decide (a ≤ b))) else none
    | .gtr => if k = k' then some (true, .bool (decide (a > b))) else none
    | .geq => if k = k' then some (true, .bool (decide (a ≥ b))) else none
  | .str a, .str b =>
    match op with
    | .add => some (Nat.ble (a.size + b.size) 9223372036854775807, .str (a ++ b))
    | .eql => some (true, .bool (a.toList == b.toList))
    | .neq => some (true, .bool (!(a.toList == b.toList)))
    | .lss => some (true, .bool (Op.bytesLess a.toList b.toList))
    | .leq => some (true, .bool (Op.bytesLess a.toList b.toList || a.toList == b.toList))
    | .gtr => some (true, .bool (!(Op.bytesLess a.toList b.toList || a.toList == b.toList)))
    | .geq => some (true, .bool (!Op.bytesLess a.toList b.toList))
    | _ => none
  | .bool a, .bool b =>
    match op with
    | .eql => match P.underlying t with | some .bool => some (true, .bool (a == b)) | _ => none
    | .neq => match P.underlying t with | some .bool => some (true, .bool (!(a == b))) | _ => none
    | _ => none
  | .agg a, .agg b =>
    match op with
    | .eql => if P.eqGuardType P.depth t || !aggT P t then none else (eqT P 6 t a b).map fun r => (true, .bool r)
    | .neq => if P.eqGuardType P.depth t || !aggT P t then none else (eqT P 6 t a b).map fun r => (true, .bool !r)
    | _ => none
  | _, _ =>
    if !cst then none else
    match op, nilB h (P.underlying t) x y with
    | .eql, some a => some (true, .bool a)
    | .neq, some a => some (true, .bool !a)
    | _, _ => none

/-- Reads: what lies at an address. -/
def readAt (h : List B) (n : Nat) : V → Option (Bool × List V)
  | .ref r off => match h[r]? with | some (.box cs) => if off + n ≤ cs.length then some (true, (cs.drop off).take n) else none | some (.sb _ v) => if off = 1 ∧ n = 1 then some (true, [v]) else none | _ => none
  | .eptr cs => if n ≤ cs.length then some (true, cs.take n) else none
  | .wptr r sz i off => match h[r]? with | some (.row _ _ sz' n' g) => if sz = sz' ∧ off + n ≤ sz then some (Nat.blt i n', ((g i).drop off).take n) else none | some (.lit sz' n' cs) => if sz = sz' ∧ off + n ≤ sz then some (Nat.blt i n', (cs.drop (i * sz + off)).take n) else none | _ => none
  | _ => none

def slOf (h : List B) : V → Option (Bool × Nat × Nat × Cells)
  | .sl nl sz n g => some (nl, sz, n, g)
  | .own r => match h[r]? with | some (.row _ nl sz n g) => some (nl, sz, n, g) | _ => none
  | _ => none

def slLen (h : List B) : V → Option Nat
  | .sl _ _ n _ => some n
  | .own r => match h[r]? with | some (.row _ _ _ n _) => some n | some (.lit _ n _) => some n | some (.bs _ s) => some s.size | some (.fin _ s) => some s.size | _ => none
  | _ => none

/-- Nothing in it leads into the local heap. -/
def imV : Nat → V → Bool
  | 0, _ => false
  | n + 1, .agg cs => cs.all (imV n)
  | n + 1, .tup cs => cs.all (imV n)
  | n + 1, .func _ a b => a.all (imV n) && b.all (imV n)
  | n + 1, .iface _ v => imV n v
  | _ + 1, .own _ => false
  | _ + 1, .ref _ _ => false
  | _ + 1, .wptr _ _ _ _ => false
  | _ + 1, .mp _ => false
  | _ + 1, _ => true

/-- Parts laid into cells. -/
def fillV (place : Nat → Option (Nat × Nat)) (cs : List V) : List (Nat × V) → Option (List V)
  | [] => some cs
  | (i, v) :: rest =>
    match place i, v.cells with
    | some (off, size), some vs => if vs.length = size ∧ off + vs.length ≤ cs.length then fillV place (putAt cs off vs) rest else none
    | _, _ => none
/-- Elements of a row, of sz cells each, none of which leads into the local heap. -/
def rowV (sz : Nat) : List V → Option (List (List V))
  | [] => some []
  | v :: vs => match v.cells, rowV sz vs with | some cs, some l => if cs.length = sz ∧ cs.all (imV dep) then some (cs :: l) else none | _, _ => none

/-- The same, whatever they lead to: cells one behind the other. -/
def litV (sz : Nat) : List V → Option (List V)
  | [] => some []
  | v :: vs => match v.cells, litV sz vs with | some cs, some l => if cs.length = sz then some (cs ++ l) else none | _, _ => none

def movV (st : St) (r0 : Nat) (ty : TypeId) (x : Operand) : Option (Bool × V × List B) :=
  match x with
  | .const (.slice none 0 0) => if 0 < sizeT P (elemT P ty) then some (true, .own r0, [.row true true (sizeT P (elemT P ty)) 0 (repC P (elemT P ty))]) else none
  | _ => some (true, ev st x, [])

/-- Whether a type has all methods that are wanted. -/
def hasAll (want : Array (String × TypeId)) (got : Array Method) : Bool := want.toList.all fun p => got.any fun m => m.name == p.1 && m.sig == p.2
/-- Operations that write nothing that was there: what must be so, the value, new places (from r0 on). -/
def evMono (st : St) (r0 : Nat) (ty : TypeId) : Op → Option (Bool × V × List B)
  | .move x => movV P st r0 ty x
  | .assign x => movV P st r0 ty x
  | .alloc e => if isSB P e then some (true, .ref r0 0, [.sb e (.own (r0 + 1)), .bs (sbE P e) ByteArray.empty]) else if 0 < sizeT P e ∧ (zeroT P e).length = sizeT P e then some (true, .ref r0 0, [.box (zeroT P e)]) else none
  | .box e x => match (evT P st e x).cells with | some cs => some (true, .ref r0 0, [.box cs]) | none => none
  | .build t parts =>
    match P.underlying t with
    | some (.struct fs) =>
      if 0 < sizeT P t ∧ (zeroT P t).length = sizeT P t ∧ fs.toList.all (fun f => 0 < sizeT P f.type) then
        (fillV (fun i => (fs[i]?).map fun f => (f.offset, sizeT P f.type)) (zeroT P t) (parts.toList.map fun p => (p.1, evT P st (match fs[p.1]? with | some f => f.type | none => 0) p.2))).map fun cs => (true, .agg cs, [])
      else none
    | some (.array n e) => if 0 < sizeT P t ∧ (zeroT P t).length = sizeT P t ∧ 0 < sizeT P e then (fillV (fun i => some (i * sizeT P e, sizeT P e)) (zeroT P t) (parts.toList.map fun p => (p.1, evT P st e p.2))).map fun cs => (true, .agg cs, []) else none
    | _ => none
  | .buildSlice t n parts =>
    match P.underlying t with
    | some (.slice e) =>
      if 0 < sizeT P e ∧ n * sizeT P e ≤ 16777216 ∧ (zeroT P e).length = sizeT P e ∧ (parts.toList.map (·.1)) = List.range n then
        match rowV (sizeT P e) (parts.toList.map fun p => evT P st e p.2) with
        | some l => some (true, .own r0, [.row true false (sizeT P e) n (Cells.ofL (tyT P 8 e) l)])
        | none => match litV (sizeT P e) (parts.toList.map fun p => evT P st e p.2) with
          | some cs => some (true, .own r0, [.lit (sizeT P e) n cs])
          | none => none
      else none
    | _ => none
  | .load t a => if okT P t then match readAt st.h (sizeT P t) (ev st a) with | some (b, cs) => some (b, mkV (aggT P t) cs, []) | none => none else none
  | .nilCheck x => match ev st x with | .ref r o => some (true, .ref r o, []) | .eptr cs => some (true, .eptr cs, []) | .wptr r s i o => some (true, .wptr r s i o, []) | .func (.func f) a b => some (true, .func (.func f) a b, []) | _ => none
  | .binOp op t x y _ => match evBin P st.h (Region.isConst x || Region.isConst y) op t (ev st x) (ev st y) with | some (b, v) => some (b, v, []) | none => none
  | .unOp op _ x =>
    match op, ev st x with
    | .not, .bool b => some (true, .bool !b, [])
    | .neg, .int k n => some (true, .int k (k.wrap (0 - n)), [])
    | .xor, .int k n => some (true, .int k (k.wrap (BitVec.ofInt k.bits (if k.signed then -1 else k.max) ^^^ BitVec.ofInt k.bits n).toNat), [])
    | _, _ => none
  | .convert src dst x =>
    match P.underlying src, P.underlying dst, ev st x with
    | some (.int _), some (.int k), .int _ n => some (true, .int k (k.wrap n), [])
    | some .string, some .string, .str s => some (true, .str s, [])
    | some (.int _), some .string, .int _ n => some (true, .str (Utf8.encode n), [])
    | some .string, some (.slice e), .str s => if bytesTy P dst then some (true, .own r0, [.row true false 1 s.size (.typ (.int .u8 .nil) (byteG s))]) else none
    | some (.slice _), some .string, v => if bytesTy P src then (match slOf st.h v with | some (_, sz, n, g) => if sz = 1 then (match bytesC g n with | some s => some (true, .str s, []) | none => none) else none | none => none) else none
    | _, _, _ => none
  | .makeMap t none =>
    match P.underlying t with
    | some (.map kt et) => match tyT P 8 kt, tyZ P et with
      | some k, some e => if keyT P kt k then some (true, .mp r0, [.mp (aggT P kt) (aggT P et) k e []]) else none
      | _, _ => none
    | _ => none
  | .lookup t x i ok =>
    match P.underlying t, ev st x, (ev st i).cells with
    | some (.map kt et), .mp r, some cs =>
      match st.h[r]? with
      | some (.mp ka va kk ee m) =>
        if ka = aggT P kt ∧ va = aggT P et ∧ tyZ P et = some ee ∧ (zcells P et).length = sizeT P et ∧ 0 < sizeT P et ∧ keyT P kt kk = true ∧ kk.ok cs = true ∧ aggV (ev st i) = ka ∧ okT P et = true ∧ zAgg P et = va then
          cond ok (some (true, .tup [mkV va (ee.cells (mGetD kk m (kk.de cs) ee.zero)), .bool (mHas kk m (kk.de cs))], [])) (some (true, mkV va (ee.cells (mGetD kk m (kk.de cs) ee.zero)), []))
        else none
      | _ => none
    | _, _, _ => none
  | .range t x => match P.underlying t, ev st x with | some .string, .str s => some (true, .ref r0 0, [.it s 0]) | _, _ => none
  | .typeAssert x _ a true =>
    match P.underlying a, ev st x with
    | some (.interface want), .iface t v =>
      match P.info? t with
      | some i => if hasAll want i.methods then some (true, .tup [.iface t v, .bool true], []) else none
      | none => none
    | _, _ => none
  | .makeInterface t x => match P.underlying t with | some (.interface _) => none | some _ => some (true, .iface t (ev st x), []) | none => none
  | .makeFunc fn a b => some (true, .func fn (a.toList.map (ev st)) (b.toList.map (ev st)), [])
  | .makeSlice t l c =>
    match P.underlying t, ev st l, ev st c with
    | some (.slice e), .int k a, .int k' b =>
      if 0 < sizeT P e ∧ 0 < P.bytesOf e ∧ (zeroT P e).length = sizeT P e then some (decide (0 ≤ a) && decide (a ≤ b) && decide (P.bytesOf e * b ≤ 140737488355328), .own r0, [.row true false (sizeT P e) a.toNat (repC P e)]) else none
    | _, _, _ => none
  | .slice t x lo hi mx =>
    match P.underlying t, ev st x with
    | some .string, .str s =>
      match lo.map (ev st), hi.map (ev st), mx with
      | none, none, none => some (true, .str (s.extract 0 s.size), [])
      | some (.int _ l), none, none => some (decide (0 ≤ l) && decide (l ≤ s.size), .str (s.extract l.toNat s.size), [])
      | none, some (.int _ u), none => some (decide (0 ≤ u) && decide (u ≤ s.size), .str (s.extract 0 u.toNat), [])
      | some (.int _ l), some (.int _ u), none => some (decide (0 ≤ u) && decide (u ≤ s.size) && decide (0 ≤ l) && decide (l ≤ u), .str (s.extract l.toNat u.toNat), [])
      | _, _, _ => none
    | some (.slice e), .sl nl sz n g =>
      if sz = sizeT P e ∧ 0 < sz then
        match lo.map (ev st), hi.map (ev st), mx.map (ev st) with
        | none, none, none => some (true, .sl nl sz n g, [])
        | some (.int _ l), none, none => some (decide (0 ≤ l) && decide (l ≤ n), .sl nl sz (n - l.toNat) (Cells.shift l.toNat g), [])
        | none, some (.int _ u), none => some (decide (0 ≤ u) && decide (u ≤ n), .sl nl sz u.toNat g, [])
        | some (.int _ l), some (.int _ u), none => some (decide (0 ≤ u) && decide (u ≤ n) && decide (0 ≤ l) && decide (l ≤ u), .sl nl sz (u.toNat - l.toNat) (Cells.shift l.toNat g), [])
        | none, some (.int _ u), some (.int _ m) => some (decide (0 ≤ u) && decide (u ≤ n) && decide (u = m), .own r0, [.row false nl sz u.toNat g])
        | _, _, _ => none
      else none
    | _, _ => none
  | .fieldAddr t x f =>
    match P.underlying t with
    | some (.struct fs) =>
      match fs[f]? with
      | some fd =>
        if 0 < sizeT P fd.type then
          match ev st x with
          | .ref r o => some (true, .ref r (o + fd.offset), [])
          | .eptr cs => some (true, .eptr (cs.drop fd.offset), [])
          | .wptr r s i o => some (true, .wptr r s i (o + fd.offset), [])
          | _ => none
        else none
      | none => none
    | _ => none
  | .field t x f =>
    match P.underlying t, ev st x with
    | some (.struct fs), .agg cs =>
      match fs[f]? with
      | some fd => if okT P fd.type ∧ fd.offset + sizeT P fd.type ≤ cs.length ∧ 0 < sizeT P fd.type then some (true, mkV (aggT P fd.type) ((cs.drop fd.offset).take (sizeT P fd.type)), []) else none
      | none => none
    | _, _ => none
  | .indexAddr t x i =>
    match P.underlying t, ev st x, ev st i with
    | some (.array n e), .ref r o, .int _ j => if 0 < sizeT P e then some (decide (0 ≤ j) && decide (j < n), .ref r (o + j.toNat * sizeT P e), []) else none
    | some (.slice e), .sl nl sz n g, .int _ j => if sz = sizeT P e ∧ 0 < sz then some (decide (0 ≤ j) && decide (j < n), .eptr (g j.toNat), []) else none
    | some (.slice e), .own r, .int _ j => match st.h[r]? with | some (.row wr _ sz n _) => if sz = sizeT P e ∧ wr = true then some (decide (0 ≤ j) && decide (j < n), .wptr r sz j.toNat 0, []) else none | some (.lit sz n _) => if sz = sizeT P e then some (decide (0 ≤ j) && decide (j < n), .wptr r sz j.toNat 0, []) else none | _ => none
    | _, _, _ => none
  | .index t x i =>
    match P.underlying t, ev st x, ev st i with
    | some (.array n e), .agg cs, .int _ j => if okT P e ∧ cs.length = n * sizeT P e ∧ 0 < sizeT P e then some (decide (0 ≤ j) && decide (j < n), mkV (aggT P e) ((cs.drop (j.toNat * sizeT P e)).take (sizeT P e)), []) else none
    | some .string, .str s, .int _ j => some (decide (0 ≤ j) && decide (j < s.size), .int .u8 (byteAt s j), [])
    | _, _, _ => none
  | .extract x j => match ev st x with | .tup vs => (match vs[j]? with | some v => some (true, v, []) | none => none) | _ => none
  | .call { callee := .builtin .len, args, argTypes } =>
    match args.toList, argTypes.toList with
    | [x], [t] =>
      match P.underlying t, ev st x with
      | some .string, .str s => some (true, .int .i64 s.size, [])
      | some (.slice _), v => match slLen st.h v with | some n => some (true, .int .i64 n, []) | none => none
      | some (.array n _), _ => some (true, .int .i64 n, [])
      | _, _ => none
    | _, _ => none
  | .call { callee := .builtin .cap, args, argTypes } =>
    match args.toList, argTypes.toList with
    | [x], [t] =>
      match P.underlying t, ev st x with
      | some (.slice _), .sl true _ _ _ => some (true, .int .i64 0, [])
      | some (.slice _), .own r => match st.h[r]? with | some (.row _ true _ _ _) => some (true, .int .i64 0, []) | _ => none
      | some (.array n _), _ => some (true, .int .i64 n, [])
      | _, _ => none
    | _, _ => none
  | .call { callee := .builtin .min, args, .. } =>
    match args.toList.map (ev st) with
    | .int k a :: rest => (rest.foldl (fun acc v => acc.bind fun x => match v with | .int k' y => if k = k' then some (bif decide (y < x) then y else x) else none | _ => none) (some a)).map fun r => (true, .int k r, [])
    | _ => none
  | .call { callee := .builtin .max, args, .. } =>
    match args.toList.map (ev st) with
    | .int k a :: rest => (rest.foldl (fun acc v => acc.bind fun x => match v with | .int k' y => if k = k' then some (bif decide (y > x) then y else x) else none | _ => none) (some a)).map fun r => (true, .int k r, [])
    | _ => none
  | _ => none

/-- How many places lead to a row. -/
def soleQ (st : St) (r : Nat) : Bool :=
  Nat.beq (((st.t.flatMap (V.owns dep)) ++ (st.s.flatMap fun l => l.flatMap (V.owns dep)) ++ st.h.flatMap fun b => match b with | .box cs => cs.flatMap (V.owns dep) | .lit _ _ cs => cs.flatMap (V.owns dep) | .sb _ v => v.owns dep | _ => []).countP (Nat.beq r)) 1
/-- A row that is cut: nobody else has it. -/
def cutQ (st : St) (r : Nat) (lo hi mx : Option Operand) : Bool :=
  match lo, hi, mx, st.h[r]? with
  | none, some _, none, some (.row true _ _ _ _) => soleQ st r
  | _, _, _, _ => false
/-- What is appended: what must be so, how many, what they are. -/
def appY (st : St) (e t t' : TypeId) (y : Operand) : Option (Bool × Nat × Cells) :=
  match P.underlying t', ev st y with
  | some .string, .str s => if bytesTy P t then some (true, s.size, .typ (.int .u8 .nil) (byteG s)) else none
  | some (.int _), .int .i64 l => some (decide (0 ≤ l) && decide (l * (P.bytesOf e : Int) ≤ 140737488355328), l.toNat, repC P e)
  | some (.slice _), Y => match slOf st.h Y with | some (_, sz', m, g') => if sz' = sizeT P e ∨ m = 0 then some (true, m, g') else none | none => none
  | _, _ => none
/-- The state behind an append to the row r. -/
def appSt (st : St) (r : Nat) (wr nl : Bool) (sz n m : Nat) (g g' : Cells) : St :=
  let s := st.sub (killV r)
  { s with h := s.h.set r (.row wr (nl && Nat.beq m 0) sz (n + m) (Cells.app n g g')) }

/-- Operations that write: what must be so, the value, the state then. -/
def evEff (st : St) (ty : TypeId) : Op → Option (Bool × V × St)
  | .store t a x =>
    match (evT P st t x).cells with
    | some vs =>
      if vs.length = sizeT P t ∧ 0 < sizeT P t then
        match ev st a with
        | .ref r off =>
          match st.h[r]? with
          | some (.box cs) => if off + vs.length ≤ cs.length then some (true, .dead, { st with h := st.h.set r (.box (putAt cs off vs)) }) else none
          | some (.sb T _) => match vs with | [u] => if off = 1 then some (true, .dead, { st with h := st.h.set r (.sb T u) }) else none | _ => none
          | _ => none
        | .wptr r sz i off =>
          match st.h[r]? with
          | some (.row true nl sz' n g) => if sz = sz' ∧ off + vs.length ≤ sz ∧ vs.all (imV dep) then some (Nat.blt i n, .dead, { st with h := st.h.set r (.row true nl sz' n (Cells.put i off vs g)) }) else none
          | _ => none
        | _ => none
      else none
    | none => none
  | .slice t x lo hi mx =>
    match ev st x with
    | .own r =>
      if cutQ st r lo hi mx then
        match P.underlying t, hi.map (ev st), st.h[r]? with
        | some (.slice e), some (.int _ u), some (.row true nl sz n g) =>
          if sz = sizeT P e ∧ 0 < sz then
            let s := st.sub (killV r)
            some (decide (0 ≤ u) && decide (u ≤ n), .own r, { s with h := s.h.set r (.row true nl sz u.toNat g) })
          else none
        | _, _, _ => none
      else (evMono P (st.frz r) st.h.length ty (.slice t x lo hi mx)).map fun p => (p.1, p.2.1, { st.frz r with h := (st.frz r).h ++ p.2.2 })
    | _ => none
  | .mapUpdate t mo k x =>
    match P.underlying t with
    | some (.map kt et) =>
      match ev st mo, (ev st k).cells, (evT P st et x).cells with
      | .mp r, some cs, some vs =>
        match st.h[r]? with
        | some (.mp ka va kk ee m) =>
          if ka = aggT P kt ∧ va = aggT P et ∧ keyT P kt kk = true ∧ kk.ok cs = true ∧ ee.ok vs = true ∧ aggV (ev st k) = ka ∧ aggV (evT P st et x) = va then
            some (true, .dead, { st with h := st.h.set r (.mp ka va kk ee (mPut kk m (kk.de cs) (ee.de vs))) })
          else none
        | _ => none
      | _, _, _ => none
    | _ => none
  | .call { callee := .builtin .append, args, argTypes } =>
    match args.toList, argTypes.toList with
    | [x, y], [t, t'] =>
      match P.underlying t with
      | some (.slice e) =>
        match appY P st e t t' y with
        | some (b, m, g') =>
          match ev st x with
          | .own r =>
            match st.h[r]? with
            | some (.row wr nl sz n g) =>
              if sz = sizeT P e ∧ 0 < P.bytesOf e ∧ (zeroT P e).length = sz then
                some (b && decide ((n + m) * P.bytesOf e ≤ 140737488355328), .own r, appSt st r wr nl sz n m g g')
              else none
            | some (.bs e' s) =>
              match ev st y with
              | .str s2 =>
                if e' = e ∧ bytesTy P t = true ∧ strT P t' = true ∧ 0 < P.bytesOf e ∧ (zeroT P e).length = 1 then
                  let s1 := st.sub (killV r)
                  some (decide ((s.size + s2.size) * P.bytesOf e ≤ 140737488355328), .own r, { s1 with h := s1.h.set r (.bs e (s ++ s2)) })
                else none
              | _ =>
                match g' with
                | .typ (.int .u8 .nil) G =>
                  if e' = e ∧ bytesTy P t = true ∧ 0 < P.bytesOf e ∧ (zeroT P e).length = 1 then
                    let s1 := st.sub (killV r)
                    some (b && bytesOk m G && decide ((s.size + m) * P.bytesOf e ≤ 140737488355328), .own r, { s1 with h := s1.h.set r (.bs e (s ++ bytesT m G)) })
                  else none
                | _ => none
            | _ => none
          | .sl true _ _ _ =>
            if 0 < sizeT P e ∧ 0 < P.bytesOf e ∧ (zeroT P e).length = sizeT P e then
              some (b && decide ((0 + m) * P.bytesOf e ≤ 140737488355328), .own st.h.length, appSt { st with h := st.h ++ [.row true true (sizeT P e) 0 (repC P e)] } st.h.length true true (sizeT P e) 0 m (repC P e) g')
            else none
          | _ => none
        | none => none
      | _ => none
    | _, _ => none
  | .call { callee := .builtin .copy, args, argTypes } =>
    match args.toList, argTypes.toList with
    | [x, y], [t, t'] =>
      match P.underlying t, P.underlying t', ev st x, slOf st.h (ev st y) with
      | some (.slice e), some (.slice _), .own r, some (_, sz', m, g') =>
        match st.h[r]? with
        | some (.row true nl sz n g) => if sz = sizeT P e ∧ sz' = sz then some (true, .int .i64 ((min m n : Nat) : Int), { st with h := st.h.set r (.row true nl sz n (Cells.app (min m n) g' (Cells.shift (min m n) g))) }) else none
        | _ => none
      | _, _, _, _ => none
    | _, _ => none
  | _ => none

end
end Go.Rv
