/- Rv, part S: states told apart by their shapes. Of no program. -/
import Derived.Test.YtmoeohjaafpmgaaRvB
set_option linter.unusedVariables false
set_option linter.unusedSimpArgs false
set_option linter.unusedSectionVars false
namespace Go.Rv
open Go Go.RowKit

inductive Dyn where
  | b (x : Bool)
  | i (x : Int)
  | s (x : ByteArray)
  | q (t : Ty) (x : Seq (Tup t))
  | m (kt vt : Ty) (x : List (Tup kt × Tup vt))
def hdB : List Dyn → Bool | .b x :: _ => x | _ => false
def hdI : List Dyn → Int | .i x :: _ => x | _ => 0
def hdS : List Dyn → ByteArray | .s x :: _ => x | _ => ByteArray.empty
def castQ {t e : Ty} (h : t = e) (x : Seq (Tup t)) : Seq (Tup e) := h ▸ x
def hdQ (t : Ty) : List Dyn → Seq (Tup t) | .q e x :: _ => if h : e = t then castQ h x else ⟨true, 0, fun _ => t.zero⟩ | _ => ⟨true, 0, fun _ => t.zero⟩

def castM {kt vt a b : Ty} (h1 : a = kt) (h2 : b = vt) (x : List (Tup a × Tup b)) : List (Tup kt × Tup vt) := h1 ▸ h2 ▸ x
def hdM (kt vt : Ty) : List Dyn → List (Tup kt × Tup vt) | .m a b x :: _ => if h1 : a = kt then (if h2 : b = vt then castM h1 h2 x else []) else [] | _ => []

/-- A value's shape. -/
inductive Sh where
  | bool | str
  | int (k : IntKind)
  | sl (t : Ty)
  | nsl (t : Ty)
  | mp (r : Nat)
  | agg (l : List Sh)
  | tup (l : List Sh)
  | own (r : Nat)
  | ref (r off : Nat)
  | nilp | nilm | nilf | nili | dead
  | func (fn : Fn) (a b : List Sh)
  | iface (t : TypeId) (s : Sh)

def decL (d : Sh → V → Option (List Dyn)) : List Sh → List V → Option (List Dyn)
  | [], [] => some []
  | s :: ss, v :: vs => match d s v, decL d ss vs with | some x, some y => some (x ++ y) | _, _ => none
  | _, _ => none
def dec : Nat → Sh → V → Option (List Dyn)
  | 0, _, _ => none
  | _ + 1, .bool, .bool x => some [.b x]
  | _ + 1, .str, .str x => some [.s x]
  | _ + 1, .int k, .int k' x => if k' = k then some [.i x] else none
  | _ + 1, .sl t, .sl nl sz n (.typ e G) => if h : e = t then (if sz = t.size then some [.q t ⟨nl, n, castG h G⟩] else none) else none
  | _ + 1, .nsl t, .sl true sz 0 (.typ e G) => if h : e = t then (if sz = t.size then some [.q t ⟨true, 0, castG h G⟩] else none) else none
  | _ + 1, .mp r, .mp r' => if r' = r then some [] else none
  | d + 1, .agg l, .agg cs => decL (dec d) l cs
  | d + 1, .tup l, .tup cs => decL (dec d) l cs
  | _ + 1, .own r, .own r' => if r' = r then some [] else none
  | _ + 1, .ref r o, .ref r' o' => if r' = r ∧ o' = o then some [] else none
  | _ + 1, .nilp, .nilp => some []
  | _ + 1, .nilm, .nilm => some []
  | _ + 1, .nilf, .nilf => some []
  | _ + 1, .nili, .nili => some []
  | _ + 1, .dead, .dead => some []
  | d + 1, .func fn a b, .func fn' a' b' => if fn' = fn then (match decL (dec d) a a', decL (dec d) b b' with | some x, some y => some (x ++ y) | _, _ => none) else none
  | d + 1, .iface t s, .iface t' v => if t' = t then dec d s v else none
  | _ + 1, _, _ => none

def encL (e : Sh → List Dyn → V × List Dyn) : List Sh → List Dyn → List V × List Dyn
  | [], ds => ([], ds)
  | s :: ss, ds => ((e s ds).1 :: (encL e ss (e s ds).2).1, (encL e ss (e s ds).2).2)
def enc : Nat → Sh → List Dyn → V × List Dyn
  | 0, _, ds => (.dead, ds)
  | _ + 1, .bool, ds => (.bool (hdB ds), ds.tail)
  | _ + 1, .str, ds => (.str (hdS ds), ds.tail)
  | _ + 1, .int k, ds => (.int k (hdI ds), ds.tail)
  | _ + 1, .sl t, ds => (.sl (hdQ t ds).nl t.size (hdQ t ds).n (.typ t (hdQ t ds).g), ds.tail)
  | _ + 1, .nsl t, ds => (.sl true t.size 0 (.typ t (hdQ t ds).g), ds.tail)
  | _ + 1, .mp r, ds => (.mp r, ds)
  | d + 1, .agg l, ds => (.agg (encL (enc d) l ds).1, (encL (enc d) l ds).2)
  | d + 1, .tup l, ds => (.tup (encL (enc d) l ds).1, (encL (enc d) l ds).2)
  | _ + 1, .own r, ds => (.own r, ds)
  | _ + 1, .ref r o, ds => (.ref r o, ds)
  | _ + 1, .nilp, ds => (.nilp, ds)
  | _ + 1, .nilm, ds => (.nilm, ds)
  | _ + 1, .nilf, ds => (.nilf, ds)
  | _ + 1, .nili, ds => (.nili, ds)
  | _ + 1, .dead, ds => (.dead, ds)
  | d + 1, .func fn a b, ds => (.func fn (encL (enc d) a ds).1 (encL (enc d) b (encL (enc d) a ds).2).1, (encL (enc d) b (encL (enc d) a ds).2).2)
  | d + 1, .iface t s, ds => (.iface t (enc d s ds).1, (enc d s ds).2)

theorem encL_dec {d : Nat} (ih : ∀ s v ds, dec d s v = some ds → ∀ rest, enc d s (ds ++ rest) = (v, rest)) : ∀ (l : List Sh) (vs : List V) (ds : List Dyn), decL (dec d) l vs = some ds → ∀ rest, encL (enc d) l (ds ++ rest) = (vs, rest) := by
  intro l
  induction l with
  | nil =>
    intro vs ds h rest
    cases vs with
    | nil => cases h; rfl
    | cons v vs => cases h
  | cons s l ihl =>
    intro vs ds h rest
    cases vs with
    | nil => cases h
    | cons v vs =>
      simp only [decL] at h
      split at h <;> (try cases h)
      rename_i x y hx hy
      simp only [encL, List.append_assoc, ih s v x hx, ihl vs y hy]

theorem enc_dec : ∀ (d : Nat) (s : Sh) (v : V) (ds : List Dyn), dec d s v = some ds → ∀ rest, enc d s (ds ++ rest) = (v, rest) := by
  intro d
  induction d with
  | zero => intro s v ds h; cases h
  | succ d ih =>
    intro s v ds h rest
    unfold dec at h
    split at h
    · cases h
    · cases h; rfl
    · cases h; rfl
    · split at h <;> (try cases h)
      rename_i e; subst e; rfl
    · split at h <;> (try cases h)
      rename_i e
      split at h <;> (try cases h)
      rename_i e2
      subst e; subst e2
      simp [enc, hdQ, castQ, castG]
    · split at h <;> (try cases h)
      rename_i e
      split at h <;> (try cases h)
      rename_i e2
      subst e; subst e2
      simp [enc, hdQ, castQ, castG]
    · split at h <;> (try cases h)
      rename_i e; subst e; rfl
    · rename_i e; cases e; simp only [enc, encL_dec ih _ _ _ h]
    · rename_i e; cases e; simp only [enc, encL_dec ih _ _ _ h]
    · split at h <;> (try cases h)
      rename_i e; subst e; rfl
    · split at h <;> (try cases h)
      rename_i e; obtain ⟨rfl, rfl⟩ := e; rfl
    · cases h; rfl
    · cases h; rfl
    · cases h; rfl
    · cases h; rfl
    · cases h; rfl
    · rename_i e0; cases e0
      split at h <;> (try cases h)
      rename_i e; subst e
      split at h <;> (try cases h)
      rename_i x y hx hy
      simp only [enc, List.append_assoc, encL_dec ih _ _ _ hx, encL_dec ih _ _ _ hy]
    · rename_i e0; cases e0
      split at h <;> (try cases h)
      rename_i e; subst e
      simp only [enc, ih _ _ _ h]
    · cases h

/-- The shape of a place of the local heap. -/
inductive BSh where
  | box (l : List Sh)
  | row (wr : Bool) (t : Ty)
  | mp (ka va : Bool) (kt vt : Ty)
  | sb (T : TypeId) (s : Sh)
  | bs (e : TypeId)
  | it
  | fin (e : TypeId)
  | gone
def decB : BSh → B → Option (List Dyn)
  | .box l, .box cs => decL (dec dep) l cs
  | .row wr t, .row wr' nl sz n (.typ e G) => if wr' = wr then (if h : e = t then (if sz = t.size then some [.q t ⟨nl, n, castG h G⟩] else none) else none) else none
  | .mp ka va kt vt, .mp ka' va' a b m => if ka' = ka ∧ va' = va then (if h1 : a = kt then (if h2 : b = vt then some [.m kt vt (castM h1 h2 m)] else none) else none) else none
  | .sb T s, .sb T' v => if T' = T then dec dep s v else none
  | .bs e, .bs e' s => if e' = e then some [.s s] else none
  | .it, .it s p => some [.s s, .i p]
  | .fin e, .fin e' s => if e' = e then some [.s s] else none
  | .gone, .gone => some []
  | _, _ => none
def decBs : List BSh → List B → Option (List Dyn)
  | [], [] => some []
  | s :: ss, b :: bs => match decB s b, decBs ss bs with | some x, some y => some (x ++ y) | _, _ => none
  | _, _ => none
def encB : BSh → List Dyn → B × List Dyn
  | .box l, ds => (.box (encL (enc dep) l ds).1, (encL (enc dep) l ds).2)
  | .row wr t, ds => (.row wr (hdQ t ds).nl t.size (hdQ t ds).n (.typ t (hdQ t ds).g), ds.tail)
  | .mp ka va kt vt, ds => (.mp ka va kt vt (hdM kt vt ds), ds.tail)
  | .sb T s, ds => (.sb T (enc dep s ds).1, (enc dep s ds).2)
  | .bs e, ds => (.bs e (hdS ds), ds.tail)
  | .it, ds => (.it (hdS ds) (hdI ds.tail).toNat, ds.tail.tail)
  | .fin e, ds => (.fin e (hdS ds), ds.tail)
  | .gone, ds => (.gone, ds)
def encBs : List BSh → List Dyn → List B × List Dyn
  | [], ds => ([], ds)
  | s :: ss, ds => ((encB s ds).1 :: (encBs ss (encB s ds).2).1, (encBs ss (encB s ds).2).2)
theorem encB_dec (s : BSh) (b : B) (ds : List Dyn) (h : decB s b = some ds) (rest : List Dyn) : encB s (ds ++ rest) = (b, rest) := by
  unfold decB at h
  split at h
  · simp only [encB, encL_dec (enc_dec dep) _ _ _ h]
  · split at h <;> (try cases h)
    rename_i e0
    split at h <;> (try cases h)
    rename_i e
    split at h <;> (try cases h)
    rename_i e2
    subst e0; subst e; subst e2
    simp [encB, hdQ, castQ, castG]
  · split at h <;> (try cases h)
    rename_i e0
    split at h <;> (try cases h)
    rename_i e1
    split at h <;> (try cases h)
    rename_i e2
    obtain ⟨rfl, rfl⟩ := e0
    subst e1; subst e2
    simp [encB, hdM, castM]
  · split at h <;> (try cases h)
    rename_i e; subst e
    simp only [encB, enc_dec dep _ _ _ h]
  · split at h <;> (try cases h)
    rename_i e; subst e; rfl
  · cases h; simp [encB, hdS, hdI]
  · split at h <;> (try cases h)
    rename_i e; subst e; rfl
  · cases h; rfl
  · cases h
theorem encBs_dec : ∀ (l : List BSh) (bs : List B) (ds : List Dyn), decBs l bs = some ds → ∀ rest, encBs l (ds ++ rest) = (bs, rest) := by
  intro l
  induction l with
  | nil =>
    intro vs ds h rest
    cases vs with
    | nil => cases h; rfl
    | cons v vs => cases h
  | cons s l ihl =>
    intro vs ds h rest
    cases vs with
    | nil => cases h
    | cons v vs =>
      simp only [decBs] at h
      split at h <;> (try cases h)
      rename_i x y hx hy
      simp only [encBs, List.append_assoc, encB_dec s v x hx, ihl vs y hy]

/-- A state's shape: temporaries, frames that wait, local heap. -/
def decF : List (List Sh) → List (List V) → Option (List Dyn)
  | [], [] => some []
  | s :: ss, v :: vs => match decL (dec dep) s v, decF ss vs with | some x, some y => some (x ++ y) | _, _ => none
  | _, _ => none
def encF : List (List Sh) → List Dyn → List (List V) × List Dyn
  | [], ds => ([], ds)
  | s :: ss, ds => ((encL (enc dep) s ds).1 :: (encF ss (encL (enc dep) s ds).2).1, (encF ss (encL (enc dep) s ds).2).2)
theorem encF_dec : ∀ (l : List (List Sh)) (bs : List (List V)) (ds : List Dyn), decF l bs = some ds → ∀ rest, encF l (ds ++ rest) = (bs, rest) := by
  intro l
  induction l with
  | nil =>
    intro vs ds h rest
    cases vs with
    | nil => cases h; rfl
    | cons v vs => cases h
  | cons s l ihl =>
    intro vs ds h rest
    cases vs with
    | nil => cases h
    | cons v vs =>
      simp only [decF] at h
      split at h <;> (try cases h)
      rename_i x y hx hy
      simp only [encF, List.append_assoc, encL_dec (enc_dec dep) _ _ _ hx, ihl vs y hy]
def decSt (t : List Sh) (s : List (List Sh)) (h : List BSh) (st : St) : Option (List Dyn) :=
  match decL (dec dep) t st.t, decF s st.s, decBs h st.h with
  | some x, some z, some y => some (x ++ (z ++ y))
  | _, _, _ => none
def encSt (t : List Sh) (s : List (List Sh)) (h : List BSh) (ds : List Dyn) : St :=
  { t := (encL (enc dep) t ds).1, s := (encF s (encL (enc dep) t ds).2).1, h := (encBs h (encF s (encL (enc dep) t ds).2).2).1 }
theorem encSt_dec {t : List Sh} {s : List (List Sh)} {h : List BSh} {st : St} {ds : List Dyn} (he : decSt t s h st = some ds) : encSt t s h ds = st := by
  unfold decSt at he
  split at he <;> (try cases he)
  rename_i x z y hx hz hy
  have h2 : encBs h (y ++ []) = (st.h, []) := encBs_dec _ _ _ hy []
  rw [List.append_nil] at h2
  simp only [encSt, encL_dec (enc_dec dep) _ _ _ hx, encF_dec _ _ _ hz, h2]

end Go.Rv
