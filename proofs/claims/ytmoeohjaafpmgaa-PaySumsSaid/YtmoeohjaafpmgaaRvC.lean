/- Rv, part C: the evaluator's control. Of no program. -/
import Derived.Test.YtmoeohjaafpmgaaRvS
import Derived.OrdersHeld
set_option linter.unusedVariables false
set_option linter.unusedSimpArgs false
set_option linter.unusedSectionVars false
namespace Go.Rv
open Go Go.RowKit

inductive X where
  | normal | ret
  | exit (id : Nat)

def St.put (st : St) (d : Option Tmp) (v : V) : St := match d with | some d => { st with t := st.t.set d v } | none => st

/-- Of a result: no memory but rows of its own. -/
def cleanV : Nat → V → Bool
  | 0, _ => false
  | n + 1, .agg cs => cs.all (cleanV n)
  | n + 1, .tup cs => cs.all (cleanV n)
  | n + 1, .iface _ v => cleanV n v
  | _ + 1, .bool _ => true
  | _ + 1, .int _ _ => true
  | _ + 1, .str _ => true
  | _ + 1, .own _ => true
  | _ + 1, .nilp => true
  | _ + 1, .nilm => true
  | _ + 1, .nilf => true
  | _ + 1, .nili => true
  | _ + 1, _ => false
/-- What may be handed back. -/
def outV : Nat → V → Bool
  | 0, _ => false
  | n + 1, .agg cs => cs.all (outV n)
  | n + 1, .tup cs => cs.all (outV n)
  | n + 1, .func _ a b => a.all (outV n) && b.all (outV n)
  | n + 1, .iface _ v => outV n v
  | _ + 1, .ref _ _ => false
  | _ + 1, .wptr _ _ _ _ => false
  | _ + 1, .mp _ => false
  | _ + 1, .dead => false
  | _ + 1, _ => true
def V.owns' (v : V) : List Nat := v.owns dep
def isRow : B → Bool | .row _ _ _ _ _ => true | _ => false
/-- What comes back of a call: its own rows lie from j on. -/
def backV (m j : Nat) : V → V | .own r => if r < m then .dead else .own (r - m + j) | _ => .dead
/-- A function's result: the rows that are handed back, behind the m boxes. -/
def renumV (m : Nat) (rs : List Nat) : V → V | .own r => if r ∈ rs then .own (rs.idxOf r + m) else .dead | _ => .dead
def deadV : V → V := fun _ => .dead

def St.frzs (st : St) : List Nat → St
  | [] => st
  | r :: rs => (st.frz r).frzs rs

/-- At a loop's head: rows that are not named are written no more, of temporaries that are not named nothing is known. -/
def headV (h : List B) (rows : List Nat) : V → V
  | .own r => if r ∈ rows then .own r else match h[r]? with | some (.row _ nl sz n g) => .sl nl sz n g | _ => .dead
  | .wptr r s i o => if r ∈ rows then .wptr r s i o else .dead
  | v => v
def goneB (rows : List Nat) : Nat → List B → List B
  | _, [] => []
  | i, b :: bs => (if i ∈ rows then b else match b with | .row _ _ _ _ _ => .gone | b => b) :: goneB rows (i + 1) bs
def maskL (keep : List Nat) : Nat → List V → List V
  | _, [] => []
  | i, v :: vs => (if i ∈ keep then v else .dead) :: maskL keep (i + 1) vs
def St.head (st : St) (keep rows : List Nat) (m : Nat) : St :=
  let s := st.sub (headV st.h rows)
  ({ s with t := maskL keep 0 s.t, h := goneB rows 0 s.h } : St).trim m

/-- Which loop of a code lies at a path. -/
def loopAt : Code → List Bool → Option Code
  | .seq a _, false :: p => loopAt a p
  | .seq _ b, true :: p => loopAt b p
  | .cond _ a _, false :: p => loopAt a p
  | .cond _ _ b, true :: p => loopAt b p
  | .block _ c, p => loopAt c p
  | .scope c, p => loopAt c p
  | .loop c, [] => some c
  | .loop c, _ :: p => loopAt c p
  | _, _ => none

section
variable (P : Program) {α : Type}
abbrev CallT (α : Type) := FuncId → List V → St → (V → St → Option α) → Option α
/-- What is known of a loop. -/
abbrev LoopT (α : Type) := St → (X → St → Option α) → Option α

/-- A function that can be entered. -/
def okF (f : FuncId) : Bool := match P.funcs[f]? with | some F => F.body.isSome && !(F.name == "runtime.NumGoroutine") | none => false

/-- Rows that are written no more when an operation takes them into memory. -/
def preO (st : St) : Op → List Nat
  | .store _ a x => match ev st a with | .wptr _ _ _ _ => (ev st x).owns' | _ => []
  | .buildSlice _ _ parts => parts.toList.flatMap fun p => (ev st p.2).owns'
  | _ => []

def evPlain (ty : TypeId) (st0 : St) (k : V → St → Option α) (op : Op) : Option α :=
  let st := st0.frzs (preO st0 op)
  match evMono P st st.h.length ty op with
  | some (b, v, bs) => cond b (k v { st with h := st.h ++ bs }) none
  | none => match evEff P st ty op with
    | some (b, v, st') => cond b (k v st') none
    | none => none

/-- The operands of a call, by their types. -/
def evArgs (st : St) : List Operand → List TypeId → List V
  | x :: xs, t :: ts => evT P st t x :: evArgs st xs ts
  | x :: xs, [] => ev st x :: evArgs st xs []
  | [], _ => []

/-- The function that a method of a type is, if the type has it itself and takes its receiver as it is. -/
def methOf (t : TypeId) (name : String) : Option FuncId :=
  match P.info? t, P.underlying t with
  | some i, some d =>
    match d with
    | .pointer _ => none
    | _ =>
      match i.methods.find? (fun m => m.name == name) with
      | some m => if m.path.isEmpty then (match m.func with | some (f, false) => some f | _ => none) else none
      | none => none
  | _, _ => none

def evOp (call : CallT α) (o : Oper) (st : St) (k : V → St → Option α) : Option α :=
  match o.op with
  | .pick c a b =>
    match ev st c, ev st a, ev st b with
    | .bool t, .bool x, .bool y => k (.bool (cond t x y)) st
    | .bool t, v, v' => cond t (k v st) (k v' st)
    | _, _, _ => none
  | .call { callee := .value f, args, argTypes } =>
    match ev st f with
    | .func (.func fn) first captured => if okF P fn then call fn (first ++ evArgs P st args.toList argTypes.toList ++ captured) st k else none
    | _ => none
  | .call { callee := .invoke r name, args, argTypes } =>
    match ev st r with
    | .iface t v =>
      match methOf P t name with
      | some fn => if okF P fn then call fn (v :: evArgs P st args.toList argTypes.toList) st k else none
      | none => none
    | _ => none
  | .next x true =>
    match ev st x with
    | .ref r 0 =>
      match st.h[r]? with
      | some (.it s pos) => cond (Nat.blt pos s.size) (k (.tup [.bool true, .int .i64 pos, .int .i32 (Utf8.decode s pos).1]) { st with h := st.h.set r (.it s (pos + (Utf8.decode s pos).2)) }) (k (.tup [.bool false]) st)
      | _ => none
    | _ => none
  | op => evPlain P o.type st k op

/-- A part of an array that is made a text at once: `slice` of an array's place, and `convert` of just that. -/
def u8V : V → Bool | .int .u8 _ => true | _ => false
def bytesI (l : List Int) : ByteArray := ⟨(l.map fun n => UInt8.ofNat n.toNat).toArray⟩
def fuseS (st : St) (o o2 : Oper) : Option (Bool × V) :=
  match o.op with
  | .slice t x (some lo) (some hi) (some mx) =>
    match o2.op, o.dst, o2.guard with
    | .convert s d (.tmp q), some q', none =>
      match P.underlying t, P.underlying s, P.underlying d, ev st x with
      | some (.array n e), some (.slice _), some .string, .ref r 0 =>
        match ev st lo, ev st hi, ev st mx, readAt st.h n (.ref r 0) with
        | .int _ l, .int _ u, .int _ m, some (true, cs) =>
          if q = q' ∧ q < st.t.length ∧ sizeT P e = 1 ∧ bytesTy P s = true ∧ cs.all u8V = true then
            some (decide (0 ≤ l) && decide (l ≤ u) && decide (u ≤ m) && decide (m ≤ n), .str (bytesI (((cs.drop l.toNat).take (u.toNat - l.toNat)).map V.toI)))
          else none
        | _, _, _, _ => none
      | _, _, _, _ => none
    | _, _, _ => none
  | _ => none

def evOps (call : CallT α) (all : Array Oper) : List Oper → St → (St → Option α) → Option α
  | [], st, k => k st
  | o :: os, st, k =>
    match o.guard with
    | none =>
      match os with
      | [] => evOp P call o st fun v st' => k (st'.put o.dst v)
      | o2 :: os2 =>
        match fuseS P st o o2 with
        | some (b, v) => cond b (evOps call all os2 ((st.put o.dst .dead).put o2.dst v) k) none
        | none => evOp P call o st fun v st' => evOps call all (o2 :: os2) (st'.put o.dst v) k
    | some (j, want) =>
      match (all[j]?).bind (·.dst) with
      | some d =>
        match st.t.getD d .dead with
        | .bool b => cond (if want then b else !b) (evOp P call o (st.put (some d) (.bool want)) fun v st' => evOps call all os (st'.put o.dst v) k) (evOps call all os ((st.put (some d) (.bool !want)).put o.dst (.tup [])) k)
        | .tup _ => evOps call all os (st.put o.dst (.tup [])) k
        | _ => none
      | none => none

def loopN (body : St → (X → St → Option α) → Option α) (hd : St → St) (lv : X → St → St) : Nat → St → (X → St → Option α) → Option α
  | 0, _, _ => none
  | n + 1, st, k => body st fun e st' => match e with | .normal => loopN body hd lv n (hd st') k | e => k e (lv e st')

/-! ### Regions whose order is drawn -/
/-- A value of which a relation tells what it is. -/
def scalarV : Nat → V → Bool
  | 0, _ => false
  | n + 1, .agg cs => cs.all (scalarV n)
  | n + 1, .tup cs => cs.all (scalarV n)
  | _ + 1, .bool _ => true
  | _ + 1, .int _ _ => true
  | _ + 1, .str _ => true
  | _ + 1, _ => false
def bare (t : List V) : St := { t := t, s := [], h := [] }
/-- Operations that may be taken first: they write nothing, and what they read nobody writes. -/
def isFl : Op → Bool
  | .move _ => true
  | .assign _ => true
  | .pick _ _ _ => true
  | .fieldAddr _ _ _ => true
  | .indexAddr _ _ _ => true
  | .extract _ _ => true
  | .build _ _ => true
  | .nilCheck _ => true
  | .lookup _ _ _ _ => true
  | .load _ _ => true
  | .binOp _ _ _ _ _ => true
  | .unOp _ _ _ => true
  | .convert _ _ _ => true
  | .index _ _ _ => true
  | .field _ _ _ => true
  | .slice _ _ _ _ _ => true
  | .call { callee := .builtin .len, .. } => true
  | .call { callee := .builtin .min, .. } => true
  | .call { callee := .builtin .max, .. } => true
  | _ => false
def pickV : V → V → V → Option V
  | .bool t, .bool x, .bool y => some (.bool (cond t x y))
  | .bool t, .int k x, .int k' y => if k = k' then some (.int k (cond t x y)) else none
  | _, _, _ => none
def memV : Option (Bool × V × List B) → V
  | some (true, v, []) => v
  | _ => .dead
/-- What such an operation yields, of all that is known, and of that which nobody writes. 'pu': nothing at all is written in the region. -/
def evFl (pu : Bool) (o : Oper) (st : St) (tF : List V) : Option (Bool × V × V) :=
  match o.op with
  | .move x => some (true, evT P st o.type x, evT P (bare tF) o.type x)
  | .assign x => some (true, evT P st o.type x, evT P (bare tF) o.type x)
  | .pick c a b =>
    match pickV (ev st c) (ev st a) (ev st b) with
    | some v => some (true, v, v)
    | none => match ev st c with | .bool t => cond t (some (true, ev st a, ev (bare tF) a)) (some (true, ev st b, ev (bare tF) b)) | _ => none
  | .fieldAddr t x f => match evMono P st st.h.length o.type (.fieldAddr t x f) with | some (b, v, []) => some (b, v, memV (evMono P (bare tF) 0 o.type (.fieldAddr t x f))) | _ => none
  | .indexAddr t x i => match evMono P st st.h.length o.type (.indexAddr t x i) with | some (b, v, []) => (match evMono P (bare tF) 0 o.type (.indexAddr t x i) with | some (b', v', []) => some (b && b', v, v') | _ => some (b, v, .dead)) | _ => none
  | .extract x j => match evMono P st st.h.length o.type (.extract x j) with | some (b, v, []) => some (b, v, memV (evMono P (bare tF) 0 o.type (.extract x j))) | _ => none
  | .nilCheck x => match evMono P st st.h.length o.type (.nilCheck x) with | some (b, v, []) => some (b, v, memV (evMono P (bare tF) 0 o.type (.nilCheck x))) | _ => none
  | .build t ps => match evMono P st st.h.length o.type (.build t ps) with | some (b, v, []) => some (b, v, memV (evMono P (bare tF) 0 o.type (.build t ps))) | _ => none
  | .slice t x lo hi mx => match evMono P st st.h.length o.type (.slice t x lo hi mx) with | some (b, v, []) => (match evMono P (bare tF) 0 o.type (.slice t x lo hi mx) with | some (b', v', []) => some (b && b', v, v') | _ => some (b, v, .dead)) | _ => none
  | op => cond pu
      (match evMono P st st.h.length o.type op with | some (b, v, []) => some (b, v, .dead) | _ => none)
      (match evMono P (bare tF) 0 o.type op with | some (b, v, []) => if scalarV dep v then some (b, v, v) else none | _ => none)

def flAt (ops : Array Oper) (i : Nat) : Bool := match ops[i]? with | some o => isFl o.op | none => false
/-- The first that may come up. -/
def pickFl (ops : Array Oper) (listed : Array Bool) : List Nat → Option Nat
  | [] => none
  | i :: is => if flAt ops i && Region.free .any ops listed i then some i else pickFl ops listed is

def stF (v : V) : V := if scalarV dep v then v else .dead
def setT (tF : List V) (d : Option Tmp) (v : V) : List V := match d with | some d => tF.set d v | none => tF

/-- Whether an operation is wanted: none: always; the temporary, and what it must be. -/
def guardT (all : Array Oper) (o : Oper) : Option (Option Tmp × Bool) :=
  match o.guard with
  | none => none
  | some (j, want) => some ((all[j]?).bind (·.dst), want)

def evDraw (call : CallT α) (pu : Bool) (ops : Array Oper) : Nat → Array Bool → St → List V → (St → Option α) → Option α
  | 0, listed, st, _, k => match Region.ready .any ops listed with | [] => k st | _ => none
  | fuel + 1, listed, st, tF, k =>
    match Region.ready .any ops listed with
    | [] => k st
    | r :: rs =>
      match pickFl ops listed (r :: rs) with
      | some i =>
        match ops[i]? with
        | some o =>
          match guardT ops o with
          | none => match evFl P pu o st tF with | some (b, v, vF) => cond b (evDraw call pu ops fuel (listed.setIfInBounds i true) (st.put o.dst v) (setT tF o.dst vF) k) none | none => none
          | some (some d, want) =>
            match st.t.getD d .dead with
            | .bool b =>
              cond (if want then b else !b)
                (match evFl P pu o (st.put (some d) (.bool want)) (setT tF (some d) (.bool want)) with | some (b, v, vF) => cond b (evDraw call pu ops fuel (listed.setIfInBounds i true) ((st.put (some d) (.bool want)).put o.dst v) (setT (setT tF (some d) (.bool want)) o.dst vF) k) none | none => none)
                (evDraw call pu ops fuel (listed.setIfInBounds i true) ((st.put (some d) (.bool !want)).put o.dst (.tup [])) (setT (setT tF (some d) (.bool !want)) o.dst (.tup [])) k)
            | .tup _ => evDraw call pu ops fuel (listed.setIfInBounds i true) (st.put o.dst (.tup [])) (setT tF o.dst (.tup [])) k
            | _ => none
          | _ => none
        | none => none
      | none =>
        match pu, rs, ops[r]? with
        | false, [], some o =>
          match guardT ops o with
          | none => evOp P call o st fun v st' => evDraw call pu ops fuel (listed.setIfInBounds r true) (st'.put o.dst v) (setT tF o.dst (stF v)) k
          | some (some d, want) =>
            match st.t.getD d .dead with
            | .bool b =>
              cond (if want then b else !b)
                (evOp P call o (st.put (some d) (.bool want)) fun v st' => evDraw call pu ops fuel (listed.setIfInBounds r true) (st'.put o.dst v) (setT (setT tF (some d) (.bool want)) o.dst (stF v)) k)
                (evDraw call pu ops fuel (listed.setIfInBounds r true) ((st.put (some d) (.bool !want)).put o.dst (.tup [])) (setT (setT tF (some d) (.bool !want)) o.dst (.tup [])) k)
            | .tup _ => evDraw call pu ops fuel (listed.setIfInBounds r true) (st.put o.dst (.tup [])) (setT tF o.dst (.tup [])) k
            | _ => none
          | _ => none
        | _, _, _ => none
def evRegion (call : CallT α) (ops : Array Oper) (st : St) (k : St → Option α) : Option α :=
  if P.follows .mixedOrders && Region.noSelect ops then
    evDraw P call (ops.all fun o => isFl o.op) ops ops.size (Array.replicate ops.size false) st ((st.t.map (V.sub deadV dep))) k
  else none

/-! ### Regions in which no place that is known is written -/
/-- As a call sees it: rows of one's own as they are now, or not at all. -/
def stillV (vw : Bool) (h : List B) : V → V := cond vw (viewV h) deadV
/-- What of the local heap is live in a region (rs), by its place there; the rest as a call sees it. -/
def liveV (vw : Bool) (h : List B) (rs : List Nat) : V → V
  | .own r => if r ∈ rs then .own (rs.idxOf r) else stillV vw h (.own r)
  | .ref r o => if r ∈ rs then .ref (rs.idxOf r) o else .dead
  | .wptr r s i o => if r ∈ rs then .wptr (rs.idxOf r) s i o else .dead
  | .mp r => if r ∈ rs then .mp (rs.idxOf r) else .dead
  | _ => .dead
/-- The rest: what may move is not known there. -/
def restV (rs : List Nat) : V → V
  | .own r => if r ∈ rs then .dead else .own r
  | .wptr r s i o => if r ∈ rs then .dead else .wptr r s i o
  | .mp r => if r ∈ rs then .dead else .mp r
  | v => v
def hideB (rs : List Nat) (h : List B) : List B := (h.mapIdx fun r b => if r ∈ rs then B.gone else b.sub (restV rs))
def liveB (vw : Bool) (h : List B) (rs : List Nat) : List B := rs.map fun r => (h.getD r .gone).sub (liveV vw h rs)
/-- A value of the rest, for what is live: boxes do not move. -/
def lookV (vw : Bool) (h : List B) (rs : List Nat) : V → V
  | .own r => stillV vw h (.own r)
  | .ref r o => if r ∈ rs then (match h[r]? with | some (.box _) => .ref (rs.idxOf r) o | some (.sb _ _) => .ref (rs.idxOf r) o | _ => .dead) else .dead
  | _ => .dead
def t0 (t : List V) : List V := t.map (V.sub deadV dep)
/-- A part of what nobody writes. -/
def imSl : Option (Bool × V × List B) → Option (Bool × V)
  | some (b, v, []) => some (b, v)
  | some (b, .own _, [.row _ nl sz n g]) => some (b, .sl nl sz n g)
  | _ => none
/-- An operation that may be taken first: what must be so, what it yields (of what a call sees; of all). -/
def evFs (mk : V → V) (h1 : List B) (o : Oper) (sm : St) (tF : List V) : Option (Bool × V × V) :=
  let st : St := ⟨tF, [], h1⟩
  let mask : V → V := V.sub mk dep
  match o.op with
  | .move x => some (true, evT P sm o.type x, evT P st o.type x)
  | .assign x => some (true, evT P sm o.type x, evT P st o.type x)
  | .pick c a b =>
    match pickV (ev st c) (ev st a) (ev st b) with
    | some v => some (true, v, v)
    | none => match ev st c with | .bool t => cond t (some (true, ev sm a, ev st a)) (some (true, ev sm b, ev st b)) | _ => none
  | .fieldAddr t x f =>
    match evMono P st h1.length o.type (.fieldAddr t x f) with
    | some (b, v, []) => some (b, mask v, v)
    | _ => match evMono P sm sm.h.length o.type (.fieldAddr t x f) with | some (b, v, []) => some (b, v, .dead) | _ => none
  | .indexAddr t x i =>
    match evMono P st h1.length o.type (.indexAddr t x i) with
    | some (b, v, []) => some (b, mask v, v)
    | _ => match evMono P sm sm.h.length o.type (.indexAddr t x i) with | some (b, v, []) => some (b, v, .dead) | _ => none
  | .extract x j =>
    match evMono P st h1.length o.type (.extract x j) with
    | some (b, v, []) => some (b, mask v, v)
    | _ => match evMono P sm sm.h.length o.type (.extract x j) with | some (b, v, []) => some (b, v, .dead) | _ => none
  | .nilCheck x =>
    match evMono P st h1.length o.type (.nilCheck x) with
    | some (b, v, []) => some (b, mask v, v)
    | _ => match evMono P sm sm.h.length o.type (.nilCheck x) with | some (b, v, []) => some (b, v, .dead) | _ => none
  | .build t ps =>
    match evMono P sm sm.h.length o.type (.build t ps) with
    | some (b, v, []) => (match evMono P st h1.length o.type (.build t ps) with | some (b', v', []) => some (b && b', v, v') | _ => some (b, v, .dead))
    | _ => match evMono P st h1.length o.type (.build t ps) with | some (b', v', []) => some (b', mask v', v') | _ => none
  | .load t a => match evMono P st h1.length o.type (.load t a) with | some (b, v, []) => some (b, mask v, v) | _ => none
  | .slice t x lo hi mx =>
    match (match evMono P st h1.length o.type (.slice t x lo hi mx) with | some (b, v, []) => if scalarV dep v then some (b, v, v) else none | _ => none) with
    | some r => some r
    | none =>
      match imSl (evMono P (⟨t0 sm.t, [], []⟩ : St) 0 o.type (.slice t x lo hi mx)) with
      | some (b, v) => (match imSl (evMono P (⟨t0 tF, [], []⟩ : St) 0 o.type (.slice t x lo hi mx)) with | some (b', v') => some (b && b', v, v') | none => some (b, v, .dead))
      | none => none
  | op => match evMono P st h1.length o.type op with | some (b, v, []) => if scalarV dep v then some (b, v, v) else none | _ => none
def setD (t : List V) (d : Option Tmp) (v : V) : List V := match d with | some d => t.set d v | none => t
/-- New variables and rows that may come up early: where they are told. -/
def lzD (ops : Array Oper) (i : Nat) : Option Tmp :=
  match ops[i]? with
  | some o => (match o.guard, o.op with
    | none, .alloc e => if isSB P e then none else o.dst
    | none, .buildSlice _ _ _ => o.dst
    | _, _ => none)
  | none => none
def lzSelf (ops : Array Oper) (i : Nat) : Bool := match ops[i]? with | some o => (match o.dst with | some d => !(o.looksAt ops).any (Nat.beq d) | none => false) | none => false
/-- What it makes is known. -/
def lzNew (ops : Array Oper) (st : St) (i : Nat) : Bool :=
  match ops[i]? with
  | some o => (match evMono P st st.h.length o.type o.op with | some (true, _, [_]) => true | _ => false)
  | none => false
/-- Which comes first, as it is told: what is no new variable. -/
def mainOf (ops : Array Oper) (r : Nat) (l : List Nat) : Nat := (l.find? fun i => (lzD P ops i).isNone).getD r
def lzKill (ops : Array Oper) : List Nat → List V → List V
  | [], t => t
  | z :: zs, t => lzKill ops zs (setD t (lzD P ops z) .dead)
def lzAll : List Nat → Array Bool → Array Bool
  | [], l => l
  | z :: zs, l => lzAll zs (l.setIfInBounds z true)
def lzOk (ops : Array Oper) (st : St) (listed : Array Bool) (r0 : Nat) (zs : List Nat) : Bool :=
  zs.isEmpty || (zs.all (fun z => (lzD P ops z).isSome && lzNew P ops st z && Region.free .any ops listed z && lzSelf ops z) && (Region.ready .any ops (lzAll zs listed)).all (fun j => Nat.beq j r0))
def lzOf (r0 : Nat) (l : List Nat) : List Nat := l.filter fun j => !Nat.beq j r0
/-- One that is no part of what may be taken first. -/
def evMain (call : CallT α) (ops : Array Oper) (r : Nat) (sm : St) (t : List V) (k : St → List V → Option α) : Option α :=
  match ops[r]? with
  | some o =>
    match guardT ops o with
    | none => evOp P call o sm fun v sm' => k (sm'.put o.dst v) (setD t o.dst (stF v))
    | some (some d, want) =>
      match t.getD d .dead with
      | .bool b =>
        cond (if want then b else !b)
          (evOp P call o (sm.put (some d) (.bool want)) fun v sm' => k (sm'.put o.dst v) (setD (t.set d (.bool want)) o.dst (stF v)))
          (k ((sm.put (some d) (.bool !want)).put o.dst (.tup [])) (setD (t.set d (.bool !want)) o.dst (.tup [])))
      | .tup _ => k (sm.put o.dst (.tup [])) (setD t o.dst (.tup []))
      | _ => none
    | _ => none
  | none => none
def evStill (call : CallT α) (mk : V → V) (h1 : List B) (ex : List Nat) (ops : Array Oper) : Nat → Array Bool → St → List V → (St → List V → Option α) → Option α
  | 0, listed, sm, t, k => match Region.ready .any ops listed with | [] => k sm t | _ => none
  | fuel + 1, listed, sm, t, k =>
    match Region.ready .any ops listed with
    | [] => k sm t
    | r :: rs =>
      match pickFl ops listed ((r :: rs).filter fun i => !ex.any (Nat.beq i)) with
      | some i =>
        match ops[i]? with
        | some o =>
          match guardT ops o with
          | none => match evFs P mk h1 o sm t with | some (b, v, vF) => cond b (evStill call mk h1 ex ops fuel (listed.setIfInBounds i true) (sm.put o.dst v) (setD t o.dst vF) k) none | none => none
          | some (some d, want) =>
            match t.getD d .dead with
            | .bool b =>
              cond (if want then b else !b)
                (match evFs P mk h1 o (sm.put (some d) (.bool want)) (t.set d (.bool want)) with | some (b, v, vF) => cond b (evStill call mk h1 ex ops fuel (listed.setIfInBounds i true) ((sm.put (some d) (.bool want)).put o.dst v) (setD (t.set d (.bool want)) o.dst vF) k) none | none => none)
                (evStill call mk h1 ex ops fuel (listed.setIfInBounds i true) ((sm.put (some d) (.bool !want)).put o.dst (.tup [])) (setD (t.set d (.bool !want)) o.dst (.tup [])) k)
            | .tup _ => evStill call mk h1 ex ops fuel (listed.setIfInBounds i true) (sm.put o.dst (.tup [])) (setD t o.dst (.tup [])) k
            | _ => none
          | _ => none
        | none => none
      | none =>
        if lzOk P ops { sm with t := lzKill P ops (lzOf (mainOf P ops r (r :: rs)) (r :: rs)) sm.t } listed (mainOf P ops r (r :: rs)) (lzOf (mainOf P ops r (r :: rs)) (r :: rs)) then
          evMain P call ops (mainOf P ops r (r :: rs)) { sm with t := lzKill P ops (lzOf (mainOf P ops r (r :: rs)) (r :: rs)) sm.t } (lzKill P ops (lzOf (mainOf P ops r (r :: rs)) (r :: rs)) t)
            fun sm' t' => evStill call mk h1 ex ops fuel (listed.setIfInBounds (mainOf P ops r (r :: rs)) true) sm' t' k
        else none
/-- New places are kept behind the region: all, or, if rows of one's own were seen, rows of what leads nowhere. -/
def flatRow : B → Bool | .row true _ _ _ (.typ t _) => t.flat | _ => false
def keepR (vw : Bool) (b : B) : Bool := cond vw (flatRow b) true
def keepQ (vw : Bool) (h : List B) (j : Nat) : Bool := match h[j]? with | some b => keepR vw b | none => false
/-- Back to where it lay; what is new lies from m on. -/
def homeN (rs : List Nat) (m : Nat) (i : Nat) : Nat := if i < rs.length then rs.getD i 0 else m + (i - rs.length)
def homeV (vw : Bool) (rs : List Nat) (m : Nat) (h : List B) : V → V
  | .own i => if i < rs.length || keepQ vw h i then .own (homeN rs m i) else .dead
  | .ref i o => if i < rs.length || keepQ vw h i then .ref (homeN rs m i) o else .dead
  | .wptr i s j o => if i < rs.length || keepQ vw h i then .wptr (homeN rs m i) s j o else .dead
  | .mp i => if i < rs.length || keepQ vw h i then .mp (homeN rs m i) else .dead
  | _ => .dead
/-- What is known behind it of a temporary that was told by a call. -/
def lateV (vw : Bool) (rs : List Nat) (m : Nat) (h : List B) (v : V) : V :=
  match vw with
  | true => (match v with | .own j => if keepQ true h j then .own (homeN rs m j) else .dead | _ => .dead)
  | false => V.sub (homeV false rs m h) dep v
def mergeT (vw : Bool) (rs : List Nat) (m : Nat) (h : List B) : List V → List V → List V
  | u :: us, v :: vs => (match u with | .dead => lateV vw rs m h v | u => u.sub (restV rs) dep) :: mergeT vw rs m h us vs
  | us, _ => us.map (V.sub (restV rs) dep)
def mergeH (vw : Bool) (rs : List Nat) (h0 h : List B) : List B :=
  (h0.mapIdx fun r b => if r ∈ rs then (h.getD (rs.idxOf r) .gone).sub (homeV vw rs h0.length h) else b.sub (restV rs)) ++ (h.drop rs.length).map fun b => if keepR vw b then b.sub (homeV vw rs h0.length h) else .gone
/-- Those places that are there. -/
def thereL (h : List B) (rs : List Nat) : List Nat := rs.filter fun r => match h[r]? with | some .gone => false | some _ => true | none => false
def evLive (call : CallT α) (vw : Bool) (rs ex : List Nat) (ops : Array Oper) (st : St) (k : St → Option α) : Option α :=
  if P.follows .mixedOrders && Region.noSelect ops && decide rs.Nodup && (rs.all fun r => match st.h[r]? with | some .gone => false | some _ => true | none => false) && (!vw || rs.isEmpty) then
    evStill P call (lookV vw st.h rs) (hideB rs st.h) ex ops ops.size (Array.replicate ops.size false) ⟨st.t.map (V.sub (liveV vw st.h rs) dep), [], liveB vw st.h rs⟩ (st.t.map (V.sub (restV rs) dep)) fun sm t =>
      k { t := mergeT vw rs st.h.length sm.h t sm.t, s := st.s.map (·.map (V.sub (restV rs) dep)), h := mergeH vw rs st.h sm.h }
  else none

/-! ### What is nil becomes a row of its own -/
def St.thaw (st : St) : List Nat → St
  | [] => st
  | t :: ts => (match st.t[t]? with | some (.sl true sz n g) => if 0 < sz ∧ n = 0 then { st with t := st.t.set t (.own st.h.length), h := st.h ++ [B.row true true sz 0 g] } else st | _ => st).thaw ts
def St.thawB (st : St) : List (Nat × Nat) → St
  | [] => st
  | (r, j) :: ts => (match st.h[r]? with | some (.box cs) => (match cs[j]? with | some (.sl true sz n g) => if 0 < sz ∧ n = 0 then { st with h := st.h.set r (B.box (cs.set j (V.own st.h.length))) ++ [B.row true true sz 0 g] } else st | _ => st) | _ => st).thawB ts

/-- Of a loop: the temporaries and the rows that are kept at its head; the temporaries that are kept behind it, and where it returns; temporaries, and cells of boxes, that become rows ahead of it. Of a region: whether nothing that is known is written in it. Of one code behind another: the state's shape between them, if the second one is to be told once. -/
structure Ann where
  keep : List Nat
  rows : List Nat
  out : List Nat
  ret : List Nat
  still : Nat
  thaw : List Nat
  thawB : List (Nat × Nat)
  join : Option (List Sh × List (List Sh) × List BSh)
abbrev AnnT := List Bool → Ann
def Ann.head (an : Ann) (m : Nat) (s : St) : St := s.head an.keep an.rows m
def Ann.leave (an : Ann) (m : Nat) (e : X) (s : St) : St :=
  match e with
  | .exit _ => s.head an.out an.rows m
  | .ret => s.head an.ret an.rows m
  | .normal => s

/-- What is done behind several ways, told once. -/
def joinD (f : List Dyn → Option α) (g : (List Dyn → Option α) → Option α) : Option α := g f

def evCode (call : CallT α) (L : List Bool → Option (LoopT α)) (N : Nat) (ann : AnnT) : List Bool → Code → St → (X → St → Option α) → Option α
  | _, .skip, st, k => k .normal st
  | _, .label _, st, k => k .normal st
  | p, .region _ ops draw, st, k => if draw then (match (ann p).still with | 0 => evRegion P call ops st (k .normal) | 1 => evLive P call true [] (ann p).keep ops st (k .normal) | _ => evLive P call false (thereL st.h (ann p).rows) (ann p).keep ops st (k .normal)) else evOps P call ops ops.toList st (k .normal)
  | p, .seq a b, st, k =>
    match (ann p).join with
    | none => evCode call L N ann (false :: p) a st fun e st' => match e with | .normal => evCode call L N ann (true :: p) b st' k | e => k e st'
    | some j => joinD (fun ds => evCode call L N ann (true :: p) b (encSt j.1 j.2.1 j.2.2 ds) k) fun J =>
        evCode call L N ann (false :: p) a st fun e st' => match e with | .normal => (match decSt j.1 j.2.1 j.2.2 ((ann p).head st.h.length st') with | some ds => J ds | none => none) | e => k e st'
  | p, .cond c a b, st, k => match ev st c with | .bool t => cond t (evCode call L N ann (false :: p) a st k) (evCode call L N ann (true :: p) b st k) | _ => none
  | p, .block id c, st, k => evCode call L N ann p c st fun e st' => match e with | .exit j => if j = id then k .normal st' else k (.exit j) st' | e => k e st'
  | p, .loop c, st0, k =>
    let st := (st0.thaw (ann p).thaw).thawB (ann p).thawB
    match L p with
    | some g => g ((ann p).head st.h.length st) k
    | none => loopN (evCode call L N ann (false :: p) c) ((ann p).head st.h.length) ((ann p).leave st.h.length) N ((ann p).head st.h.length st) k
  | _, .exit id, st, k => k (.exit id) st
  | _, .ret, st, k => k .ret st
  | p, .scope c, st, k => evCode call L N ann p c st k
  | _, _, _, _ => none

/-- A function's results. -/
def resV (fn : Func) (st : St) : Option (List V) :=
  fn.results.toList.foldr (fun r acc => match r, acc with
    | .tmp t, some l => some (st.t.getD t .dead :: l)
    | .cell a t, some l => if okT P t then match readAt st.h (sizeT P t) (st.t.getD a .dead) with | some (true, cs) => some (mkV (aggT P t) cs :: l) | _ => none else none
    | _, none => none) (some [])
def oneV : List V → V | [v] => v | vs => .tup vs

/-- What is known of functions: of the arguments, of the boxes that are handed in; the result, the boxes then, and the rows that are handed back, behind them. -/
abbrev SpecT (α : Type) := FuncId → List V → List B → (V → List B → Option α) → Option α

/-- The boxes that a value leads to. -/
def V.refs : Nat → V → List Nat
  | 0, _ => []
  | n + 1, .agg cs => cs.flatMap (V.refs n)
  | n + 1, .tup cs => cs.flatMap (V.refs n)
  | n + 1, .func _ a b => a.flatMap (V.refs n) ++ b.flatMap (V.refs n)
  | n + 1, .iface _ v => V.refs n v
  | _ + 1, .ref r _ => [r]
  | _ + 1, _ => []
def addNew (r : Nat) (l : List Nat) : List Nat := if r ∈ l then l else l ++ [r]
def boxesOf (as : List V) : List Nat := (as.flatMap (V.refs dep)).foldl (fun l r => addNew r l) []
def argS (σ : V → V) (rs : List Nat) : V → V
  | .ref r o => if r ∈ rs then .ref (rs.idxOf r) o else .dead
  | v => σ v
def argV (σ : V → V) (rs : List Nat) (v : V) : V := v.sub (argS σ rs) dep
def cellsB : Option B → Option (List V)
  | some (.box cs) => some cs
  | _ => none
/-- Rows that a box of the local heap leads to. -/
def ownsB : Option B → List Nat
  | some (.box cs) => cs.flatMap V.owns'
  | _ => []
def viewB (σ : V → V) : Option B → B
  | some (.box cs) => .box (cs.map (V.sub σ dep))
  | _ => .gone
def setBoxes (σ : V → V) : List B → List Nat → List B → Option (List B)
  | h, [], _ => some h
  | h, r :: rs, .box cs :: bs => setBoxes σ (h.set r (.box (cs.map (V.sub σ dep)))) rs bs
  | _, _ :: _, _ => none
/-- Nothing in it leads anywhere. -/
def cleanB : B → Bool
  | .box cs => cs.all (cleanV dep)
  | _ => false

/-- A call by what is known of the function. 'q': its results lead nowhere. -/
def callC (C : SpecT α) (q : FuncId → Bool) : CallT α := fun f args st0 k =>
  let st1 := if q f then { st0 with s := args :: st0.s } else ({ st0 with s := args :: st0.s } : St).frzs (args.flatMap V.owns' ++ (boxesOf args).flatMap fun r => ownsB st0.h[r]?)
  match st1.s with
  | [] => none
  | as :: ss =>
    let st : St := { st1 with s := ss }
    let rs := boxesOf as
    let σ := if q f then viewV st.h else deadV
    if rs.Nodup ∧ (rs.all fun r => (cellsB st.h[r]?).isSome) then
      C f (as.map (argV σ rs)) (rs.map fun r => viewB σ st.h[r]?) fun v hs =>
        if (q f && !(cleanV dep v && decide (hs.length = rs.length) && hs.all cleanB)) || !(hs.drop rs.length).all isRow then none else
        match setBoxes (backV rs.length st.h.length) st.h rs hs with
        | some h => k (v.sub (backV rs.length st.h.length) dep) { st with h := h ++ hs.drop rs.length }
        | none => none
    else none

/-- Functions of the library that are known by what they do: the look whether a builder was copied; the text of a builder. -/
inductive Hook where
  | cc (T : TypeId)
  | bstr (T e : TypeId)
def hookC : Hook → CallT α := fun hk _ args st k =>
  match hk, args with
  | .cc T, [.ref r 0] => match st.h[r]? with | some (.sb T' _) => if T' = T then k (.tup []) st else none | _ => none
  | .bstr T e, [.ref r 0] =>
    match st.h[r]? with
    | some (.sb T' (.own q)) =>
      match st.h[q]? with
      | some (.bs e' s) => if T' = T ∧ e' = e then k (.str s) { st with h := st.h.set q (.fin e s) } else none
      | some (.fin e' s) => if T' = T ∧ e' = e then k (.str s) { st with h := st.h.set q (.fin e s) } else none
      | _ => none
    | _ => none
  | _, _ => none

/-- What is known, and what is asked. -/
structure Env (α : Type) where
  C : SpecT α
  q : FuncId → Bool
  inl : FuncId → Bool
  N : Nat
  ann : FuncId → AnnT
  L : Nat → FuncId → List Bool → Option (LoopT α)
  fr : Bool
  hk : FuncId → Option Hook

def callD (E : Env α) : Nat → CallT α
  | 0 => fun f args st k => match E.hk f with | some hk => hookC hk f args st k | none => callC E.C E.q f args st k
  | d + 1 => fun f args st k =>
    match E.hk f with
    | some hk => hookC hk f args st k
    | none =>
    if E.inl f then
      match P.funcs[f]? with
      | some fn =>
        match fn.body with
        | some c => evCode P (callD E d) (E.L d f) E.N (E.ann f) [] c { t := args ++ List.replicate (fn.ntmps - args.length) .dead, s := st.t :: st.s, h := st.h } fun e s' =>
            match e, resV P fn s', s'.s with
            | .exit _, _, _ => none
            | _, some vs, t :: ss => k (oneV vs) { t := t, s := ss, h := s'.h }
            | _, _, _ => none
        | none => none
      | none => none
    else callC E.C E.q f args st k

/-- What is handed back. -/
def export_ (m : Nat) (h : List B) (v : V) (k : V → List B → Option α) : Option α :=
  let bs := h.take m
  let rs := v.owns' ++ bs.flatMap (fun b => ownsB (some b))
  if Nat.ble m h.length = true ∧ outV dep v ∧ (bs.all fun b => match b with | .box cs => cs.all (outV dep) | _ => false) ∧ rs.Nodup ∧ (rs.all fun r => match h[r]? with | some b => isRow b | none => false) then
    k (v.sub (renumV m rs) dep) (bs.map (B.sub (renumV m rs)) ++ rs.map fun r => h.getD r .gone)
  else none

/-- A function by its code. -/
def evFun (E : Env α) (d : Nat) (f : FuncId) (args : List V) (bs : List B) (k : V → List B → Option α) : Option α :=
  match P.funcs[f]? with
  | some fn =>
    match fn.body with
    | some c => evCode P (callD P E d) (E.L d f) E.N (E.ann f) [] c { t := args ++ List.replicate (fn.ntmps - args.length) .dead, s := [], h := bs } fun e st =>
        match e, resV P fn st with
        | .exit _, _ => none
        | _, some vs =>
          let s := if E.fr then st.frzs ((oneV vs).owns' ++ (st.h.take bs.length).flatMap fun b => ownsB (some b)) else st
          match resV P fn s with
          | some us => export_ bs.length s.h (oneV us) k
          | none => none
        | _, _ => none
    | none => none
  | none => none
end
end Go.Rv
