/- Rv, part A: values of an evaluator that knows no memory, and how they lie in the model's memory. Of no program. -/
import Derived.Calls
import Derived.Below
import Derived.Laws.Sem
import Derived.Laws.World
set_option linter.unusedVariables false
set_option linter.unusedSimpArgs false
set_option linter.unusedSectionVars false
namespace Go.Rv
open Go Go.RowKit

/-- A row of cells' types; 'nil': none.

A value as the evaluator has it. Slices that nobody writes any more: 'sl' (whether it is nil, the cells of an element, how many elements, each element's cells). 'own r': the slice of the row r of the local heap. 'ref r off': the address of the cell off of the box r. 'eptr cs': the address of cells that nobody writes. 'wptr': the address of a cell of an element of a row. 'mp r': the map r. 'dead': nothing is known. -/
inductive Ty where
  | nil
  | bool (r : Ty)
  | int (k : IntKind) (r : Ty)
  | str (r : Ty)
  | sl (e r : Ty)
  deriving DecidableEq
/-- A slice's elements, typed. -/
structure Seq (α : Type) where
  nl : Bool
  n : Nat
  g : Nat → α
/-- What a row of cells is. -/
def Tup : Ty → Type
  | .nil => Unit
  | .bool r => Bool × Tup r
  | .int _ r => Int × Tup r
  | .str r => ByteArray × Tup r
  | .sl e r => Seq (Tup e) × Tup r

mutual
inductive V where
  | bool (b : Bool)
  | int (k : IntKind) (n : Int)
  | str (s : ByteArray)
  | agg (cs : List V)
  | tup (vs : List V)
  | sl (nl : Bool) (sz n : Nat) (g : Cells)
  | own (r : Nat)
  | ref (r off : Nat)
  | eptr (cs : List V)
  | wptr (r sz i off : Nat)
  | mp (r : Nat)
  | nilp | nilm | nilf | nili
  | func (fn : Fn) (first captured : List V)
  | iface (t : TypeId) (v : V)
  | dead
/-- The cells of a slice's elements: any, or of a type. -/
inductive Cells where
  | raw (g : Nat → List V)
  | typ (t : Ty) (G : Nat → Tup t)
end
instance : Inhabited V := ⟨.dead⟩

def Ty.size : Ty → Nat
  | .nil => 0
  | .bool r => r.size + 1
  | .int _ r => r.size + 1
  | .str r => r.size + 1
  | .sl _ r => r.size + 1
def Ty.flat : Ty → Bool
  | .nil => true
  | .bool r => r.flat
  | .int _ r => r.flat
  | .str r => r.flat
  | .sl _ _ => false
def Ty.cells : (t : Ty) → Tup t → List V
  | .nil, _ => []
  | .bool r, x => .bool x.1 :: r.cells x.2
  | .int k r, x => .int k x.1 :: r.cells x.2
  | .str r, x => .str x.1 :: r.cells x.2
  | .sl e r, x => .sl x.1.nl e.size x.1.n (.typ e x.1.g) :: r.cells x.2
def Cells.fn : Cells → Nat → List V
  | .raw g, i => g i
  | .typ t G, i => t.cells (G i)
instance : CoeFun Cells (fun _ => Nat → List V) := ⟨Cells.fn⟩

theorem Ty.cells_length : (t : Ty) → (x : Tup t) → (t.cells x).length = t.size
  | .nil, _ => rfl
  | .bool r, x => congrArg (· + 1) (r.cells_length x.2)
  | .int _ r, x => congrArg (· + 1) (r.cells_length x.2)
  | .str r, x => congrArg (· + 1) (r.cells_length x.2)
  | .sl _ r, x => congrArg (· + 1) (r.cells_length x.2)

def Ty.zero : (t : Ty) → Tup t
  | .nil => ()
  | .bool r => (false, r.zero)
  | .int _ r => (0, r.zero)
  | .str r => (ByteArray.empty, r.zero)
  | .sl e r => (⟨true, 0, fun _ => e.zero⟩, r.zero)

/-- Cells that are of a type. -/
def Ty.ok : Ty → List V → Bool
  | .nil, [] => true
  | .bool r, .bool _ :: vs => r.ok vs
  | .int k r, .int k' _ :: vs => decide (k = k') && r.ok vs
  | .str r, .str _ :: vs => r.ok vs
  | .sl e r, .sl _ sz _ (.typ t _) :: vs => decide (t = e) && Nat.beq sz e.size && r.ok vs
  | _, _ => false
def castG {t e : Ty} (h : t = e) (G : Nat → Tup t) : Nat → Tup e := h ▸ G
def V.toI : V → Int | .int _ n => n | _ => 0
def V.toB : V → Bool | .bool b => b | _ => false
def V.toS : V → ByteArray | .str s => s | _ => ByteArray.empty
def V.toSeq (e : Ty) : V → Seq (Tup e)
  | .sl nl _ n (.typ t G) => if h : t = e then ⟨nl, n, castG h G⟩ else ⟨true, 0, fun _ => e.zero⟩
  | _ => ⟨true, 0, fun _ => e.zero⟩
def Ty.de : (t : Ty) → List V → Tup t
  | .nil, _ => ()
  | .bool r, vs => ((vs.headD .dead).toB, r.de vs.tail)
  | .int _ r, vs => ((vs.headD .dead).toI, r.de vs.tail)
  | .str r, vs => ((vs.headD .dead).toS, r.de vs.tail)
  | .sl e r, vs => ((vs.headD .dead).toSeq e, r.de vs.tail)
/-- Whether the cells from off on may be of a type's. -/
def Ty.okAt : Ty → Nat → List V → Bool
  | _, _, [] => true
  | .nil, _, _ :: _ => false
  | .bool r, off + 1, vs => r.okAt off vs
  | .int _ r, off + 1, vs => r.okAt off vs
  | .str r, off + 1, vs => r.okAt off vs
  | .sl _ r, off + 1, vs => r.okAt off vs
  | .bool r, 0, .bool _ :: vs => r.okAt 0 vs
  | .int k r, 0, .int k' _ :: vs => decide (k = k') && r.okAt 0 vs
  | .str r, 0, .str _ :: vs => r.okAt 0 vs
  | .sl e r, 0, .sl _ sz _ (.typ t _) :: vs => decide (t = e) && Nat.beq sz e.size && r.okAt 0 vs
  | _, _, _ => false
def Ty.put : (t : Ty) → Nat → List V → Tup t → Tup t
  | .nil, _, _, x => x
  | .bool r, off, vs, x => match off with | off + 1 => (x.1, r.put off vs x.2) | 0 => match vs with | [] => x | v :: vs => (v.toB, r.put 0 vs x.2)
  | .int _ r, off, vs, x => match off with | off + 1 => (x.1, r.put off vs x.2) | 0 => match vs with | [] => x | v :: vs => (v.toI, r.put 0 vs x.2)
  | .str r, off, vs, x => match off with | off + 1 => (x.1, r.put off vs x.2) | 0 => match vs with | [] => x | v :: vs => (v.toS, r.put 0 vs x.2)
  | .sl e r, off, vs, x => match off with | off + 1 => (x.1, r.put off vs x.2) | 0 => match vs with | [] => x | v :: vs => (v.toSeq e, r.put 0 vs x.2)

theorem Ty.de_cells : (t : Ty) → (x : Tup t) → t.de (t.cells x) = x
  | .nil, _ => rfl
  | .bool r, x => congrArg (Prod.mk x.1) (r.de_cells x.2)
  | .int _ r, x => congrArg (Prod.mk x.1) (r.de_cells x.2)
  | .str r, x => congrArg (Prod.mk x.1) (r.de_cells x.2)
  | .sl e r, x => by
    have := r.de_cells x.2
    simp only [Ty.cells, Ty.de, V.toSeq, List.headD_cons, List.tail_cons, dite_true, castG, this]
    rfl
theorem Ty.cells_de : (t : Ty) → (vs : List V) → t.ok vs = true → t.cells (t.de vs) = vs
  | .nil, [], _ => rfl
  | .nil, _ :: _, h => by cases h
  | .bool r, [], h => by cases h
  | .int _ r, [], h => by cases h
  | .str r, [], h => by cases h
  | .sl _ r, [], h => by cases h
  | .bool r, v :: vs, h => by
    cases v <;> first | cases h | skip
    exact congrArg (List.cons _) (r.cells_de vs h)
  | .int k r, v :: vs, h => by
    cases v <;> first | cases h | skip
    simp only [Ty.ok, Bool.and_eq_true, decide_eq_true_eq] at h
    obtain ⟨rfl, h⟩ := h
    exact congrArg (List.cons _) (r.cells_de vs h)
  | .str r, v :: vs, h => by
    cases v <;> first | cases h | skip
    exact congrArg (List.cons _) (r.cells_de vs h)
  | .sl e r, v :: vs, h => by
    cases v <;> first | cases h | skip
    rename_i nl sz n g
    cases g with
    | raw g => cases h
    | typ t G =>
      simp only [Ty.ok, Bool.and_eq_true, decide_eq_true_eq, Nat.beq_eq] at h
      obtain ⟨⟨rfl, rfl⟩, h⟩ := h
      have := r.cells_de vs h
      simp only [Ty.de, Ty.cells, V.toSeq, List.headD_cons, List.tail_cons, dite_true, castG, this]

/-- Cells laid over others, from off on. -/
def putAt {β : Type} (cs : List β) (off : Nat) (vs : List β) : List β := cs.take off ++ vs ++ cs.drop (off + vs.length)
theorem putAt_succ {β : Type} (c : β) (cs : List β) (off : Nat) (vs : List β) : putAt (c :: cs) (off + 1) vs = c :: putAt cs off vs := by
  simp [putAt, Nat.add_right_comm]
theorem putAt_zero {β : Type} (c : β) (cs : List β) (v : β) (vs : List β) : putAt (c :: cs) 0 (v :: vs) = v :: putAt cs 0 vs := by
  simp [putAt]
theorem putAt_nil {β : Type} (cs : List β) (off : Nat) : putAt cs off [] = cs := by simp [putAt]

theorem Ty.put_nil : (t : Ty) → (off : Nat) → (x : Tup t) → t.put off [] x = x
  | .nil, _, _ => rfl
  | .bool r, 0, _ => rfl
  | .int _ r, 0, _ => rfl
  | .str r, 0, _ => rfl
  | .sl _ r, 0, _ => rfl
  | .bool r, off + 1, x => congrArg (Prod.mk x.1) (r.put_nil off x.2)
  | .int _ r, off + 1, x => congrArg (Prod.mk x.1) (r.put_nil off x.2)
  | .str r, off + 1, x => congrArg (Prod.mk x.1) (r.put_nil off x.2)
  | .sl _ r, off + 1, x => congrArg (Prod.mk x.1) (r.put_nil off x.2)
theorem Ty.cells_put : (t : Ty) → (off : Nat) → (vs : List V) → (x : Tup t) → t.okAt off vs = true → t.cells (t.put off vs x) = putAt (t.cells x) off vs
  | t, off, [], x, _ => by rw [t.put_nil, putAt_nil]
  | .nil, _, _ :: _, _, h => by cases ‹Nat› <;> cases h
  | .bool r, off + 1, v :: vs, x, h => by simp only [Ty.cells, Ty.put, putAt_succ, r.cells_put off (v :: vs) x.2 h]
  | .int _ r, off + 1, v :: vs, x, h => by simp only [Ty.cells, Ty.put, putAt_succ, r.cells_put off (v :: vs) x.2 h]
  | .str r, off + 1, v :: vs, x, h => by simp only [Ty.cells, Ty.put, putAt_succ, r.cells_put off (v :: vs) x.2 h]
  | .sl _ r, off + 1, v :: vs, x, h => by simp only [Ty.cells, Ty.put, putAt_succ, r.cells_put off (v :: vs) x.2 h]
  | .bool r, 0, v :: vs, x, h => by
    cases v <;> first | cases h | skip
    simp only [Ty.cells, Ty.put, putAt_zero, V.toB, r.cells_put 0 vs x.2 h]
  | .int k r, 0, v :: vs, x, h => by
    cases v <;> first | cases h | skip
    simp only [Ty.okAt, Bool.and_eq_true, decide_eq_true_eq] at h
    obtain ⟨rfl, h⟩ := h
    simp only [Ty.cells, Ty.put, putAt_zero, V.toI, r.cells_put 0 vs x.2 h]
  | .str r, 0, v :: vs, x, h => by
    cases v <;> first | cases h | skip
    simp only [Ty.cells, Ty.put, putAt_zero, V.toS, r.cells_put 0 vs x.2 h]
  | .sl e r, 0, v :: vs, x, h => by
    cases v <;> first | cases h | skip
    rename_i nl sz n g
    cases g with
    | raw g => cases h
    | typ t G =>
      simp only [Ty.okAt, Bool.and_eq_true, decide_eq_true_eq, Nat.beq_eq] at h
      obtain ⟨⟨rfl, rfl⟩, h⟩ := h
      simp only [Ty.cells, Ty.put, putAt_zero, V.toSeq, dite_true, castG, r.cells_put 0 vs x.2 h]

/-! ### What is done with elements -/
/-- Some and others behind them. -/
def Cells.app (n : Nat) (g g' : Cells) : Cells :=
  match g, g' with
  | .typ t G, .typ t' G' => if h : t' = t then .typ t fun i => cond (Nat.blt i n) (G i) (castG h G' (i - n)) else .raw fun i => cond (Nat.blt i n) (t.cells (G i)) (t'.cells (G' (i - n)))
  | .typ t G, .raw g' => .raw fun i => cond (Nat.blt i n) (t.cells (G i)) (g' (i - n))
  | .raw g, .typ t' G' => .raw fun i => cond (Nat.blt i n) (g i) (t'.cells (G' (i - n)))
  | .raw g, .raw g' => .raw fun i => cond (Nat.blt i n) (g i) (g' (i - n))
@[simp] theorem Cells.app_fn (n : Nat) (g g' : Cells) (i : Nat) : Cells.app n g g' i = cond (Nat.blt i n) (g i) (g' (i - n)) := by
  cases g with
  | raw g => cases g' <;> rfl
  | typ t G =>
    cases g' with
    | raw g' => rfl
    | typ t' G' =>
      simp only [Cells.app]
      by_cases h : t' = t
      · subst h
        simp only [dite_true, Cells.fn, castG]
        cases Nat.blt i n <;> rfl
      · simp only [h, dite_false, Cells.fn]
/-- Those from l on. -/
def Cells.shift (l : Nat) : Cells → Cells
  | .typ t G => .typ t fun i => G (l + i)
  | .raw g => .raw fun i => g (l + i)
@[simp] theorem Cells.shift_fn (l : Nat) (g : Cells) (i : Nat) : Cells.shift l g i = g (l + i) := by cases g <;> rfl
theorem Cells.shift_zero (g : Cells) : Cells.shift 0 g = g := by cases g <;> simp only [Cells.shift, Nat.zero_add]
/-- Element i's cells from off on are others. -/
def Cells.put (i off : Nat) (vs : List V) : Cells → Cells
  | .typ t G => cond (t.okAt off vs) (.typ t fun j => cond (Nat.beq j i) (t.put off vs (G j)) (G j)) (.raw fun j => cond (Nat.beq j i) (putAt (t.cells (G j)) off vs) (t.cells (G j)))
  | .raw g => .raw fun j => cond (Nat.beq j i) (putAt (g j) off vs) (g j)
@[simp] theorem Cells.put_fn (i off : Nat) (vs : List V) (g : Cells) (j : Nat) : Cells.put i off vs g j = cond (Nat.beq j i) (putAt (g j) off vs) (g j) := by
  cases g with
  | raw g => rfl
  | typ t G =>
    cases h : t.okAt off vs with
    | false => simp only [Cells.put, h, cond_false, Cells.fn]
    | true =>
      simp only [Cells.put, h, cond_true, Cells.fn]
      cases Nat.beq j i with
      | false => rfl
      | true => simp only [cond_true]; exact t.cells_put off vs _ h
/-- One of some. -/
def selT {β : Type} : List β → β → Nat → β
  | [], z, _ => z
  | [x], _, _ => x
  | x :: l, z, i => cond (Nat.beq i 0) x (selT l z (i - 1))
theorem selT_getD {β : Type} : (l : List β) → (z : β) → (i : Nat) → i < l.length → selT l z i = l.getD i z
  | [], _, _, h => by cases h
  | [x], z, i, h => by
    simp only [List.length_singleton] at h
    obtain rfl : i = 0 := by omega
    rfl
  | x :: y :: l, z, i, h => by
    cases i with
    | zero => rfl
    | succ i => exact selT_getD (y :: l) z i (by simpa using h)
def Cells.ofL (t : Option Ty) (l : List (List V)) : Cells :=
  match t with
  | some t => cond (l.all t.ok) (.typ t (selT (l.map t.de) t.zero)) (.raw fun i => l.getD i [])
  | none => .raw fun i => l.getD i []
theorem Cells.ofL_fn (t : Option Ty) (l : List (List V)) (i : Nat) (hi : i < l.length) : Cells.ofL t l i = l.getD i [] := by
  cases t with
  | none => rfl
  | some t =>
    cases h : l.all t.ok with
    | false => simp only [Cells.ofL, h, cond_false, Cells.fn]
    | true =>
      simp only [Cells.ofL, h, cond_true, Cells.fn]
      rw [selT_getD _ _ _ (by simpa using hi)]
      have ho : t.ok l[i] = true := by
        rw [List.all_eq_true] at h
        exact h _ (List.getElem_mem hi)
      simp only [List.getD_eq_getElem?_getD, List.getElem?_map, List.getElem?_eq_getElem hi, Option.map_some, Option.getD_some]
      exact t.cells_de _ ho

abbrev Foot := Nat → Prop
abbrev one (x : Value) : Prop := Value.oneCell' x = true

/-- A value of the machine reads, in the world w, as a value of the evaluator; what it leads to lies in blocks of F. -/
inductive Rd (w : World) (F : Foot) : V → Value → Prop
  | bool (b : Bool) : Rd w F (.bool b) (.bool b)
  | int (k : IntKind) (n : Int) : Rd w F (.int k n) (.int k n)
  | str (s : ByteArray) : Rd w F (.str s) (.string s)
  | agg (cs : List V) (xs : Array Value) (hl : cs.length = xs.size) (h1 : ∀ (i : Nat) x, xs[i]? = some x → one x) (h : ∀ (i : Nat) v x, cs[i]? = some v → xs[i]? = some x → Rd w F v x) : Rd w F (.agg cs) (.agg xs)
  | tup (cs : List V) (xs : Array Value) (hl : cs.length = xs.size) (h : ∀ (i : Nat) v x, cs[i]? = some v → xs[i]? = some x → Rd w F v x) : Rd w F (.tup cs) (.tuple xs)
  | slNil (sz : Nat) (g : Cells) : Rd w F (.sl true sz 0 g) (.slice none 0 0)
  | slE (sz cap : Nat) (g : Cells) (A : Addr) : Rd w F (.sl false sz 0 g) (.slice (some A) 0 cap)
  | sl (sz n cap : Nat) (g : Cells) (b off : Nat) (x : Nat → Nat → Value) (hc : n ≤ cap) (hF : F b) (hsz : ∀ i, i < n → (g i).length = sz)
      (hx : ∀ i j, i < n → j < sz → w.cell? ⟨b, off + (i * sz + j), none⟩ = some (x i j) ∧ one (x i j)) (h : ∀ (i j : Nat) v, i < n → (g i)[j]? = some v → Rd w F v (x i j)) :
      Rd w F (.sl false sz n g) (.slice (some ⟨b, off, none⟩) n cap)
  | eptr (cs : List V) (b off : Nat) (x : Nat → Value) (hF : F b) (hx : ∀ j, j < cs.length → w.cell? ⟨b, off + j, none⟩ = some (x j) ∧ one (x j)) (h : ∀ (j : Nat) v, cs[j]? = some v → Rd w F v (x j)) :
      Rd w F (.eptr cs) (.pointer (some ⟨b, off, none⟩))
  | nilp : Rd w F .nilp (.pointer none)
  | nilm : Rd w F .nilm (.map none)
  | nilf : Rd w F .nilf .nilFunc
  | nili : Rd w F .nili .nilIface
  | func (fn : Fn) (fs cs : List V) (ys zs : Array Value) (hl : fs.length = ys.size) (hl' : cs.length = zs.size) (h : ∀ (i : Nat) v x, fs[i]? = some v → ys[i]? = some x → Rd w F v x) (h' : ∀ (i : Nat) v x, cs[i]? = some v → zs[i]? = some x → Rd w F v x) :
      Rd w F (.func fn fs cs) (.func fn ys zs)
  | iface (t : TypeId) (v : V) (x : Value) (h : Rd w F v x) : Rd w F (.iface t v) (.iface t x)
  | dead (x : Value) : Rd w F .dead x

/-- The blocks of F are as they were. -/
def Same (F : Foot) (w w' : World) : Prop := ∀ k, F k → w'.heap[k]? = w.heap[k]?

theorem Same.cell {F : Foot} {w w' : World} (h : Same F w w') {a : Addr} (ha : F a.block) : w'.cell? a = w.cell? a := World.cell?_of_block (w := w) (h _ ha)
theorem Same.refl (F : Foot) (w : World) : Same F w w := fun _ _ => rfl

theorem Rd.mono {w w' : World} {F F' : Foot} {v : V} {x : Value} (h : Rd w F v x) (hs : Same F w w') (hF : ∀ k, F k → F' k) : Rd w' F' v x := by
  induction h with
  | bool b => exact .bool b
  | int k n => exact .int k n
  | str s => exact .str s
  | agg cs xs hl h1 h ih => exact .agg cs xs hl h1 ih
  | tup cs xs hl h ih => exact .tup cs xs hl ih
  | slNil sz g => exact .slNil sz g
  | slE sz cap g A => exact .slE sz cap g A
  | sl sz n cap g b off x hc hF' hsz hx h ih => exact .sl sz n cap g b off x hc (hF _ hF') hsz (fun i j hi hj => ⟨(hs.cell (a := ⟨b, _, none⟩) hF').trans (hx i j hi hj).1, (hx i j hi hj).2⟩) ih
  | eptr cs b off x hF' hx h ih => exact .eptr cs b off x (hF _ hF') (fun j hj => ⟨(hs.cell (a := ⟨b, _, none⟩) hF').trans (hx j hj).1, (hx j hj).2⟩) ih
  | nilp => exact .nilp
  | nilm => exact .nilm
  | nilf => exact .nilf
  | nili => exact .nili
  | func fn fs cs ys zs hl hl' h h' ih ih' => exact .func fn fs cs ys zs hl hl' ih ih'
  | iface t v x h ih => exact .iface t v x ih
  | dead x => exact .dead x

/-! ### The local heap -/
/-- A box: cells; a row: whether it may be written, whether its slice is nil, an element's cells, how many elements, what they are (nothing that leads into the local heap); a map: whether its keys and values are aggregates, their cells' types, its entries; 'lit': a slice all of whose cells are known, one by one; 'sb': a text that is built (the library's builder): its bytes' slice; 'bs': this slice: its elements' type, its bytes; 'it': how far a text was gone over; 'fin': as 'bs', a text that was told. -/
inductive B where
  | box (cs : List V)
  | row (wr nl : Bool) (sz n : Nat) (g : Cells)
  | mp (ka va : Bool) (kt vt : Ty) (m : List (Tup kt × Tup vt))
  | lit (sz n : Nat) (cs : List V)
  | sb (T : TypeId) (v : V)
  | bs (e : TypeId) (s : ByteArray)
  | it (s : ByteArray) (pos : Nat)
  | fin (e : TypeId) (s : ByteArray)
  | gone
instance : Inhabited B := ⟨.gone⟩

/-- The temporaries; those of the frames that wait; the local heap. -/
structure St where
  t : List V
  s : List (List V)
  h : List B

/-- Where the local heap lies: of each place its value (a box: its address; a row: its slice; a map: the map), and the block that it alone may write. -/
structure Cx where
  F : Foot
  ρ : Nat → Value
  o : Nat → Option Nat
  m : Nat

/-- As Rd, with what leads into the local heap (of m places). -/
inductive Rv (w : World) (c : Cx) : V → Value → Prop
  | im (v : V) (x : Value) (h : Rd w c.F v x) : Rv w c v x
  | agg (cs : List V) (xs : Array Value) (hl : cs.length = xs.size) (h1 : ∀ (i : Nat) x, xs[i]? = some x → one x) (h : ∀ (i : Nat) v x, cs[i]? = some v → xs[i]? = some x → Rv w c v x) : Rv w c (.agg cs) (.agg xs)
  | tup (cs : List V) (xs : Array Value) (hl : cs.length = xs.size) (h : ∀ (i : Nat) v x, cs[i]? = some v → xs[i]? = some x → Rv w c v x) : Rv w c (.tup cs) (.tuple xs)
  | own (r : Nat) (hr : r < c.m) (A : Option Addr) (n cap : Nat) (he : c.ρ r = .slice A n cap) : Rv w c (.own r) (.slice A n cap)
  | ref (r off b : Nat) (hr : r < c.m) (he : c.ρ r = .pointer (some ⟨b, 0, none⟩)) : Rv w c (.ref r off) (.pointer (some ⟨b, off, none⟩))
  | wptr (r sz i off b n cap : Nat) (hr : r < c.m) (he : c.ρ r = .slice (some ⟨b, 0, none⟩) n cap) : Rv w c (.wptr r sz i off) (.pointer (some ⟨b, i * sz + off, none⟩))
  | mp (r b : Nat) (hr : r < c.m) (he : c.ρ r = .map (some b)) : Rv w c (.mp r) (.map (some b))
  | func (fn : Fn) (fs cs : List V) (ys zs : Array Value) (hl : fs.length = ys.size) (hl' : cs.length = zs.size) (h : ∀ (i : Nat) v x, fs[i]? = some v → ys[i]? = some x → Rv w c v x) (h' : ∀ (i : Nat) v x, cs[i]? = some v → zs[i]? = some x → Rv w c v x) :
      Rv w c (.func fn fs cs) (.func fn ys zs)
  | iface (t : TypeId) (v : V) (x : Value) (h : Rv w c v x) : Rv w c (.iface t v) (.iface t x)

theorem Rv.mono {w w' : World} {c c' : Cx} {v : V} {x : Value} (h : Rv w c v x) (hs : Same c.F w w') (hF : ∀ k, c.F k → c'.F k) (hm : c.m ≤ c'.m) (hρ : ∀ r, r < c.m → c'.ρ r = c.ρ r) : Rv w' c' v x := by
  induction h with
  | im v x h => exact .im v x (h.mono hs hF)
  | agg cs xs hl h1 h ih => exact .agg cs xs hl h1 ih
  | tup cs xs hl h ih => exact .tup cs xs hl ih
  | own r hr A n cap he => exact .own r (by omega) A n cap (by rw [hρ r hr]; exact he)
  | ref r off b hr he => exact .ref r off b (by omega) (by rw [hρ r hr]; exact he)
  | wptr r sz i off b n cap hr he => exact .wptr r sz i off b n cap (by omega) (by rw [hρ r hr]; exact he)
  | mp r b hr he => exact .mp r b (by omega) (by rw [hρ r hr]; exact he)
  | func fn fs cs ys zs hl hl' h h' ih ih' => exact .func fn fs cs ys zs hl hl' ih ih'
  | iface t v x h ih => exact .iface t v x ih

def mkV (agg : Bool) (cs : List V) : V := if agg then .agg cs else cs.headD .dead

/-! ### Maps -/
/-- Whether two keys are one. -/
def Ty.beq : (t : Ty) → Tup t → Tup t → Bool
  | .nil, _, _ => true
  | .bool r, x, y => (x.1 == y.1) && r.beq x.2 y.2
  | .int _ r, x, y => (x.1 == y.1) && r.beq x.2 y.2
  | .str r, x, y => (x.1.toList == y.1.toList) && r.beq x.2 y.2
  | .sl _ _, _, _ => false
/-- What a map has at a key. -/
def mGet (kt : Ty) {β : Type} : List (Tup kt × β) → Tup kt → Option β
  | [], _ => none
  | (k, v) :: m, x => cond (kt.beq x k) (some v) (mGet kt m x)
def mGetD (kt : Ty) {β : Type} (m : List (Tup kt × β)) (x : Tup kt) (z : β) : β := (mGet kt m x).getD z
def mHas (kt : Ty) {β : Type} (m : List (Tup kt × β)) (x : Tup kt) : Bool := (mGet kt m x).isSome
def mPut (kt : Ty) {β : Type} : List (Tup kt × β) → Tup kt → β → List (Tup kt × β)
  | [], x, v => [(x, v)]
  | (k, u) :: m, x, v => cond (kt.beq x k) ((x, v) :: m) ((k, u) :: mPut kt m x v)

/-- A row's cells, as elements. -/
def RowCells (w : World) (F : Foot) (sz n : Nat) (g : Cells) (xs : Array Value) : Prop :=
  ∀ (i j : Nat) v, i < n → (g i)[j]? = some v → ∃ x, xs[i * sz + j]? = some x ∧ Rd w F v x

/-! ### Texts and their bytes -/
def byteAt (s : ByteArray) (i : Int) : Int := (((s.data.toList)[i.toNat]?.getD 0).toNat : Int)
def byteG (s : ByteArray) : Nat → Tup (.int .u8 .nil) := fun i => (byteAt s i, ())
/-- The text of bytes. -/
def bytesT (n : Nat) (G : Nat → Tup (.int .u8 .nil)) : ByteArray := ⟨((List.range n).map fun i => UInt8.ofNat (G i).1.toNat).toArray⟩

/-- Whether these numbers are bytes. -/
def bytesOk (n : Nat) (G : Nat → Tup (.int .u8 .nil)) : Bool := (List.range n).all fun i => decide (0 ≤ (G i).1) && decide ((G i).1 < 256)

/-- What lies at a place of the local heap. -/
inductive BR (w : World) (c : Cx) (r : Nat) : B → Prop
  | box (cs : List V) (ty : TypeId) (k : Nat) (xs : Array Value) (hρ : c.ρ r = .pointer (some ⟨k, 0, none⟩)) (ho : c.o r = some k) (hk : w.heap[k]? = some (.cells xs ty (0, 0)))
      (hl : cs.length = xs.size) (h1 : ∀ (i : Nat) x, xs[i]? = some x → one x) (h : ∀ (i : Nat) v x, cs[i]? = some v → xs[i]? = some x → Rv w c v x) : BR w c r (.box cs)
  | rowNil (wr : Bool) (sz : Nat) (g : Cells) (hz : 0 < sz) (hρ : c.ρ r = .slice none 0 0) (ho : c.o r = none) : BR w c r (.row wr true sz 0 g)
  | rowFull (wr : Bool) (sz n : Nat) (g : Cells) (A : Addr) (hz : 0 < sz) (hw : wr = false) (hρ : c.ρ r = .slice (some A) n n) (ho : c.o r = none)
      (h : Rd w c.F (.sl false sz n g) (.slice (some A) n n)) : BR w c r (.row wr false sz n g)
  | row (wr : Bool) (sz n cap : Nat) (g : Cells) (ty : TypeId) (k : Nat) (xs : Array Value) (fz : Nat × Nat) (hz : 0 < sz) (hρ : c.ρ r = .slice (some ⟨k, 0, none⟩) n cap) (ho : c.o r = some k)
      (hk : w.heap[k]? = some (.cells xs ty fz)) (hfz : ∀ j, j < xs.size → ¬ (fz.1 ≤ j ∧ j < fz.2)) (hs : xs.size = cap * sz) (hc : n ≤ cap) (h1 : ∀ (i : Nat) x, xs[i]? = some x → one x) (hg : ∀ i, i < n → (g i).length = sz)
      (h : RowCells w c.F sz n g xs) : BR w c r (.row wr false sz n g)
  | mp (ka va : Bool) (kt vt : Ty) (m : List (Tup kt × Tup vt)) (k : Nat) (ens : Array MapEntry) (clock : Nat) (hρ : c.ρ r = .map (some k)) (ho : c.o r = some k) (hk : w.heap[k]? = some (.map ens clock)) (hl : m.length = ens.size)
      (h : ∀ (i : Nat) p e, m[i]? = some p → ens[i]? = some e → Rd w c.F (mkV ka (kt.cells p.1)) e.key ∧ Rd w c.F (mkV va (vt.cells p.2)) e.val) : BR w c r (.mp ka va kt vt m)
  | lit (sz n : Nat) (cs : List V) (ty : TypeId) (k : Nat) (xs : Array Value) (hz : 0 < sz) (hρ : c.ρ r = .slice (some ⟨k, 0, none⟩) n n) (ho : c.o r = some k) (hk : w.heap[k]? = some (.cells xs ty (0, 0)))
      (hl : cs.length = xs.size) (hs : xs.size = n * sz) (h1 : ∀ (i : Nat) x, xs[i]? = some x → one x) (h : ∀ (i : Nat) v x, cs[i]? = some v → xs[i]? = some x → Rv w c v x) : BR w c r (.lit sz n cs)
  | sb (ty : TypeId) (v : V) (k : Nat) (x y : Value) (hρ : c.ρ r = .pointer (some ⟨k, 0, none⟩)) (ho : c.o r = some k) (hk : w.heap[k]? = some (.cells #[x, y] ty (0, 0))) (hx : x = .pointer none ∨ x = .pointer (some ⟨k, 0, none⟩))
      (h1 : one y) (h : Rv w c v y) : BR w c r (.sb ty v)
  | bsNil (e : TypeId) (hρ : c.ρ r = .slice none 0 0) (ho : c.o r = none) : BR w c r (.bs e ByteArray.empty)
  | bs (e : TypeId) (s : ByteArray) (cap k : Nat) (xs : Array Value) (fz : Nat × Nat) (hρ : c.ρ r = .slice (some ⟨k, 0, none⟩) s.size cap) (ho : c.o r = some k) (hk : w.heap[k]? = some (.cells xs e fz)) (hfz : ∀ j, j < xs.size → ¬ (fz.1 ≤ j ∧ j < fz.2))
      (hs : xs.size = cap) (hc : s.size ≤ cap) (hp : 0 < cap ∧ s.size ≤ 140737488355328) (h1 : ∀ (i : Nat) x, xs[i]? = some x → one x) (h : ∀ i, i < s.size → xs[i]? = some (.int .u8 (byteAt s i))) : BR w c r (.bs e s)
  | it (s : ByteArray) (pos k : Nat) (hρ : c.ρ r = .pointer (some ⟨k, 0, none⟩)) (ho : c.o r = some k) (hk : w.heap[k]? = some (.stringIter s pos)) : BR w c r (.it s pos)
  | finNil (e : TypeId) (hρ : c.ρ r = .slice none 0 0) (ho : c.o r = none) : BR w c r (.fin e ByteArray.empty)
  | fin (e : TypeId) (s : ByteArray) (cap k : Nat) (xs : Array Value) (fz : Nat × Nat) (hρ : c.ρ r = .slice (some ⟨k, 0, none⟩) s.size cap) (ho : c.o r = some k) (hk : w.heap[k]? = some (.cells xs e fz))
      (hs : xs.size = cap) (hc : s.size ≤ cap) (hp : 0 < cap ∧ s.size ≤ 140737488355328) (h1 : ∀ (i : Nat) x, xs[i]? = some x → one x) (h : ∀ i, i < s.size → xs[i]? = some (.int .u8 (byteAt s i))) : BR w c r (.fin e s)
  | gone (ho : c.o r = none) : BR w c r .gone

/-- The blocks of K are as they were; no block has gone. -/
structure Keep (K : Foot) (w w' : World) : Prop where
  os : w'.os = w.os
  tape : w'.tape = w.tape
  output : w'.output = w.output
  size : w.heap.size ≤ w'.heap.size
  block : ∀ k, K k → w'.heap[k]? = w.heap[k]?
theorem Keep.refl (K : Foot) (w : World) : Keep K w w := ⟨rfl, rfl, rfl, Nat.le_refl _, fun _ _ => rfl⟩
theorem Keep.trans {K : Foot} {a b c : World} (h : Keep K a b) (k : Keep K b c) : Keep K a c :=
  ⟨k.os.trans h.os, k.tape.trans h.tape, k.output.trans h.output, Nat.le_trans h.size k.size, fun i hi => (k.block i hi).trans (h.block i hi)⟩
theorem Keep.drew {K : Foot} {a w : World} (h : Keep K a w) : Keep K a w.drew := ⟨h.os, h.tape, h.output, h.size, h.block⟩
theorem Keep.alloc {K : Foot} {a w : World} (h : Keep K a w) (hK : ∀ k, K k → k < w.heap.size) (o : Obj) : Keep K a (w.alloc o) :=
  h.trans ⟨rfl, rfl, rfl, by simp, fun k hk => Below.heap_alloc _ _ _ (hK k hk)⟩
theorem Keep.mono {K K' : Foot} {w w' : World} (h : Keep K w w') (hK : ∀ k, K' k → K k) : Keep K' w w' := ⟨h.os, h.tape, h.output, h.size, fun k hk => h.block k (hK k hk)⟩

/-- K: blocks that are kept as they were in w0; F: what was led to at first; pin: places that stay where they are. -/
structure Base where
  K : Foot
  F : Foot
  pin : Nat → Option Nat
def Pin (base : Base) (c : Cx) : Prop := ∀ j k, base.pin j = some k → j < c.m ∧ c.ρ j = .pointer (some ⟨k, 0, none⟩) ∧ c.o j = some k
/-- Blocks that nobody writes, and what lies in them: the package variables that are known. -/
class Fx where
  blk : Nat → Prop
  tab : World → Prop
  stab : ∀ w w', (∀ k, blk k → w'.heap[k]? = w.heap[k]?) → tab w → tab w'
  lt : ∀ w k, tab w → blk k → k < w.heap.size
variable [Fx]
/-- What is kept is there, and the package variables are kept. -/
structure BsOK (base : Base) (w0 : World) : Prop where
  lt : ∀ k, base.K k → k < w0.heap.size
  blk : ∀ k, Fx.blk k → base.K k
  tab : Fx.tab w0
/-- What holds between the evaluator's state and the machine's. -/
structure Rel (base : Base) (w0 : World) (ks : List (Array Value)) (st : St) (a : Act) (w : World) (c : Cx) : Prop where
  len : st.t.length = a.tmps.size
  tm : ∀ (i : Nat) v x, st.t[i]? = some v → a.tmps[i]? = some x → Rv w c v x
  ls : st.s.length = ks.length
  sv : ∀ (i : Nat) vs xs, st.s[i]? = some vs → ks[i]? = some xs → vs.length = xs.size ∧ ∀ (j : Nat) v x, vs[j]? = some v → xs[j]? = some x → Rv w c v x
  hm : c.m = st.h.length
  hp : ∀ (r : Nat) b, st.h[r]? = some b → BR w c r b
  inj : ∀ r s k, r < c.m → s < c.m → c.o r = some k → c.o s = some k → r = s
  ge : ∀ r k, r < c.m → c.o r = some k → ¬ base.K k
  nF : ∀ r k, r < c.m → c.o r = some k → ¬ c.F k
  lt : ∀ k, c.F k → k < w.heap.size
  bel : Keep base.K w0 w
  dn : a.defers = []
  bs : BsOK base w0
  ff : ∀ k, c.F k → base.F k ∨ ¬ base.K k
  pn : Pin base c

end Go.Rv
