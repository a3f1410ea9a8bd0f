/- Rv, part Q: what a law's arguments are, as values of the evaluator; a law's row by what is known of its function. Of no program. -/
import Derived.Test.YtmoeohjaafpmgaaRvO
import Derived.ChangeArms
import Derived.ChangeOld
import Derived.ChangeShapes
import Derived.WideShapes
import Derived.OpenShut
import Derived.Carry
import Derived.SizedLaws
set_option linter.unusedVariables false
set_option linter.unusedSimpArgs false
set_option linter.unusedSectionVars false
namespace Go.Rv
open Go Go.RowKit Go.ChangeShapes
variable [Fx]
section
variable {P : Program}

/-- What is known of what comes in: numbers are of their kinds, texts and slices no longer than Go lets them be. -/
def OkT : (t : Ty) → Tup t → Prop
  | .nil, _ => True
  | .bool r, x => OkT r x.2
  | .int k r, x => (Lit.int k x.1).wf = true ∧ OkT r x.2
  | .str r, x => x.1.size ≤ maxLen ∧ OkT r x.2
  | .sl e r, x => (x.1.n ≤ maxLen ∧ (x.1.nl = true → x.1.n = 0) ∧ ∀ i, i < x.1.n → OkT e (x.1.g i)) ∧ OkT r x.2

def Ty.catT : (t : Ty) → {u : Ty} → Tup t → Tup u → Tup (t.cat u)
  | .nil, _, _, y => y
  | .bool r, _, x, y => (x.1, r.catT x.2 y)
  | .int _ r, _, x, y => (x.1, r.catT x.2 y)
  | .str r, _, x, y => (x.1, r.catT x.2 y)
  | .sl _ r, _, x, y => (x.1, r.catT x.2 y)
theorem Ty.cat_size (u : Ty) : (t : Ty) → (t.cat u).size = t.size + u.size
  | .nil => by simp [Ty.cat, Ty.size]
  | .bool r => by simp only [Ty.cat, Ty.size, Ty.cat_size u r]; omega
  | .int _ r => by simp only [Ty.cat, Ty.size, Ty.cat_size u r]; omega
  | .str r => by simp only [Ty.cat, Ty.size, Ty.cat_size u r]; omega
  | .sl _ r => by simp only [Ty.cat, Ty.size, Ty.cat_size u r]; omega
theorem Ty.cat_cells {u : Ty} (y : Tup u) : (t : Ty) → (x : Tup t) → (t.cat u).cells (t.catT x y) = t.cells x ++ u.cells y
  | .nil, x => by simp [Ty.cat, Ty.catT, Ty.cells]
  | .bool r, x => by simp only [Ty.cat, Ty.catT, Ty.cells, Ty.cat_cells y r x.2, List.cons_append]
  | .int _ r, x => by simp only [Ty.cat, Ty.catT, Ty.cells, Ty.cat_cells y r x.2, List.cons_append]
  | .str r, x => by simp only [Ty.cat, Ty.catT, Ty.cells, Ty.cat_cells y r x.2, List.cons_append]
  | .sl _ r, x => by simp only [Ty.cat, Ty.catT, Ty.cells, Ty.cat_cells y r x.2, List.cons_append]
theorem Ty.cat_ok {u : Ty} {y : Tup u} (hy : OkT u y) : (t : Ty) → (x : Tup t) → OkT t x → OkT (t.cat u) (t.catT x y)
  | .nil, x, h => hy
  | .bool r, x, h => Ty.cat_ok hy r x.2 h
  | .int _ r, x, h => ⟨h.1, Ty.cat_ok hy r x.2 h.2⟩
  | .str r, x, h => ⟨h.1, Ty.cat_ok hy r x.2 h.2⟩
  | .sl _ r, x, h => ⟨h.1, Ty.cat_ok hy r x.2 h.2⟩

/-- Cells of the machine, read. -/
structure Reads (W : World) (t : Ty) (X : Tup t) (cs : List Value) : Prop where
  ok : OkT t X
  len : cs.length = t.size
  one : ∀ (i : Nat) y, cs[i]? = some y → Go.Rv.one y
  rd : ∀ (i : Nat) u y, (t.cells X)[i]? = some u → cs[i]? = some y → Rd W (fun k => k < W.heap.size) u y
def Opens (W : World) (t : Ty) (cs : List Value) : Prop := ∃ X, Reads W t X cs

theorem Opens.cat {W : World} {t u : Ty} {cs ds : List Value} (h : Opens W t cs) (h' : Opens W u ds) : Opens W (t.cat u) (cs ++ ds) := by
  obtain ⟨X, hx⟩ := h
  obtain ⟨Y, hy⟩ := h'
  refine ⟨t.catT X Y, Ty.cat_ok hy.ok t X hx.ok, by rw [List.length_append, hx.len, hy.len, Ty.cat_size], ?_, ?_⟩
  · intro i y hi
    rw [List.getElem?_append] at hi
    split at hi
    · exact hx.one _ _ hi
    · exact hy.one _ _ hi
  · intro i a y ha hi
    rw [Ty.cat_cells] at ha
    rw [List.getElem?_append] at ha hi
    rw [Ty.cells_length] at ha
    rw [hx.len] at hi
    split at hi
    · rename_i hlt
      rw [if_pos hlt] at ha
      exact hx.rd _ _ _ ha hi
    · rename_i hlt
      rw [if_neg hlt] at ha
      exact hy.rd _ _ _ ha hi
theorem Opens.nil (W : World) : Opens W .nil [] := ⟨(), trivial, rfl, fun i y h => by simp at h, fun i u y h => by simp [Ty.cells] at h⟩

section
variable (P)
def repTy (x : Ty) : Nat → Ty
  | 0 => .nil
  | n + 1 => x.cat (repTy x n)
def fieldsO (g : TypeId → Option Ty) : List Field → Nat → Option Ty
  | [], _ => some .nil
  | f :: fs, o => match g f.type, fieldsO g fs (o + P.cellsOf f.type) with | some x, some y => if f.offset = o ∧ x.size = P.cellsOf f.type then some (x.cat y) else none | _, _ => none
/-- A parameter's type, by its cells. -/
def tyO : Nat → TypeId → Option Ty
  | 0, _ => none
  | d + 1, t =>
    match P.underlying t with
    | some (.int k) => some (.int k .nil)
    | some .bool => some (.bool .nil)
    | some .string => some (.str .nil)
    | some (.slice e) => (match tyO d e with | some x => if x.size = P.cellsOf e ∧ 0 < x.size then some (.sl x .nil) else none | none => none)
    | some (.struct fs) => match fieldsO P (tyO d) fs.toList 0 with | some y => if y.size = P.cellsOf t then some y else none | none => none
    | some (.array n e) => match tyO d e with | some x => if x.size = P.cellsOf e ∧ n * x.size = P.cellsOf t then some (repTy x n) else none | none => none
    | _ => none
end

variable {H : Type} {enc : TypeId × Value → H} {W : World} {spare : Nat → Bool} {held : Bool}
theorem part_add (cs : List Value) (o m n : Nat) : (cs.drop o).take (m + n) = (cs.drop o).take m ++ (cs.drop (o + m)).take n := by
  rw [List.take_add, List.drop_drop]
theorem repTy_size (x : Ty) : ∀ n, (repTy x n).size = n * x.size
  | 0 => by simp [repTy, Ty.size]
  | n + 1 => by rw [repTy, Ty.cat_size, repTy_size x n, Nat.succ_mul]; omega

theorem opens (d : Nat) : ∀ (t : TypeId) (ty : Ty) (fuel : Nat) (cs : List Value) z, tyO P d t = some ty → DataW.trod enc P W 0 spare held fuel t cs = some z → Opens W ty cs := by
  induction d with
  | zero => intro t ty fuel cs z h; cases h
  | succ d ih =>
    intro t ty fuel cs z h hz
    unfold tyO at h
    split at h
    · rename_i k hu
      cases h
      obtain ⟨n, rfl, _, hw⟩ := DataW.trod_int hu hz
      refine ⟨(n, ()), ⟨hw, trivial⟩, rfl, fun i y hi => ?_, fun i u y h1 h2 => ?_⟩
      · cases i with
        | zero => cases hi; rfl
        | succ i => simp at hi
      · cases i with
        | zero => cases h1; cases h2; exact .int _ _
        | succ i => simp at h2
    · rename_i hu
      cases h
      obtain ⟨n, rfl, _⟩ := DataW.trod_bool hu hz
      refine ⟨(n, ()), trivial, rfl, fun i y hi => ?_, fun i u y h1 h2 => ?_⟩
      · cases i with
        | zero => cases hi; rfl
        | succ i => simp at hi
      · cases i with
        | zero => cases h1; cases h2; exact .bool _
        | succ i => simp at h2
    · rename_i hu
      cases h
      obtain ⟨n, rfl, _, hw⟩ := DataW.trod_string hu hz
      refine ⟨(n, ()), ⟨hw, trivial⟩, rfl, fun i y hi => ?_, fun i u y h1 h2 => ?_⟩
      · cases i with
        | zero => cases hi; rfl
        | succ i => simp at hi
      · cases i with
        | zero => cases h1; cases h2; exact .str _
        | succ i => simp at h2
    · rename_i e hu
      split at h <;> (try cases h)
      rename_i x hx
      split at h <;> (try cases h)
      rename_i hsz
      obtain ⟨hsz, hpos⟩ := hsz
      rcases DataW.trod_slice hu hz with ⟨rfl, _⟩ | ⟨a, len, cap, elems, rest, m, _, rfl, _, _, hlc, hcm, hel, hat, _⟩
      · refine ⟨(⟨true, 0, fun _ => x.zero⟩, ()), ⟨⟨Nat.zero_le _, fun _ => rfl, fun i hi => absurd hi (Nat.not_lt_zero _)⟩, trivial⟩, rfl, fun i y hi => ?_, fun i u y h1 h2 => ?_⟩
        · cases i with
          | zero => cases hi; rfl
          | succ i => simp at hi
        · cases i with
          | zero => cases h1; cases h2; exact .slNil _ _
          | succ i => simp at h2
      · rcases Nat.eq_zero_or_pos len with rfl | hlen
        · refine ⟨(⟨false, 0, fun _ => x.zero⟩, ()), ⟨⟨Nat.zero_le _, fun _ => rfl, fun i hi => absurd hi (Nat.not_lt_zero _)⟩, trivial⟩, rfl, fun i y hi => ?_, fun i u y h1 h2 => ?_⟩
          · cases i with
            | zero => cases hi; rfl
            | succ i => simp at hi
          · cases i with
            | zero => cases h1; cases h2; exact .slE _ _ _ _
            | succ i => simp at h2
        have hspot : a.spot = none ∧ a.block < W.heap.size := by
          have h1 := hat 0 hlen
          rw [List.getElem?_eq_getElem (by omega), Option.bind_eq_some_iff] at h1
          obtain ⟨xs, hxs, _⟩ := h1
          unfold World.cells? at hxs
          rw [if_pos (Nat.zero_le _)] at hxs
          have h2 := mapM_some_get hxs 0 0 (by rw [List.getElem?_range (by omega)])
          have hl := mapM_some_length hxs
          rw [List.length_range] at hl
          rw [List.getElem?_eq_getElem (by omega)] at h2
          unfold World.cell? at h2
          split at h2
          · rename_i c2 e2 z2 hb2
            split at h2
            · cases h2
            · rename_i hsp
              refine ⟨?_, ?_⟩
              · have : ((a.add (0 * P.cellsOf e)).add 0).spot = a.spot := by simp [Addr.add]
                rw [this] at hsp
                simpa using hsp
              · have hblk : ((a.add (0 * P.cellsOf e)).add 0).block = a.block := by simp [Addr.add]
                rw [hblk] at hb2
                exact (Array.getElem?_eq_some_iff.1 hb2).1
          · cases h2
        obtain ⟨hspot, hblk⟩ := hspot
        obtain ⟨b, off, sp⟩ := a
        obtain rfl : sp = none := hspot
        have each : ∀ i, i < len → ∃ X xs, Reads W x X xs ∧ ∀ j, j < x.size → W.cell? ⟨b, off + (i * x.size + j), none⟩ = xs[j]? := by
          intro i hi
          have h1 := hat i hi
          rw [List.getElem?_eq_getElem (by omega)] at h1
          rw [Option.bind_eq_some_iff] at h1
          obtain ⟨xs, hxs, htr⟩ := h1
          obtain ⟨X, hX⟩ := ih e x _ xs _ hx htr
          refine ⟨X, xs, hX, fun j hj => ?_⟩
          unfold World.cells? at hxs
          rw [if_pos (Nat.zero_le _)] at hxs
          have := mapM_some_get hxs j j (by simp [hsz ▸ hj])
          rw [← this]
          have e1 : ((⟨b, off, none⟩ : Addr).add (i * P.cellsOf e)).add j = ⟨b, off + (i * x.size + j), none⟩ := by
            simp only [Addr.add, hsz]
            split <;> split <;> simp_all <;> omega
          rw [e1]
        let G : Nat → Tup x := fun i => if h : i < len then (each i h).choose else x.zero
        have hG : ∀ i, i < len → ∃ xs, Reads W x (G i) xs ∧ ∀ j, j < x.size → W.cell? ⟨b, off + (i * x.size + j), none⟩ = xs[j]? := by
          intro i hi
          have := (each i hi).choose_spec
          simp only [G, dif_pos hi]
          exact this
        let Y : Nat → Nat → Value := fun i j => (W.cell? ⟨b, off + (i * x.size + j), none⟩).getD undef
        refine ⟨(⟨false, len, G⟩, ()), ⟨⟨(by show len ≤ maxLen; omega : len ≤ maxLen), (fun h => by cases h), fun i hi => ?_⟩, trivial⟩, rfl, fun i y hi => ?_, fun i u y h1 h2 => ?_⟩
        · obtain ⟨xs, hX, _⟩ := hG i hi
          exact hX.ok
        · cases i with
          | zero => cases hi; rfl
          | succ i => simp at hi
        · cases i with
          | succ i => simp at h2
          | zero =>
            cases h1; cases h2
            · refine .sl _ len cap _ b off Y hlc hblk (fun i hi => ?_) (fun i j hi hj => ?_) fun i j v hi hv => ?_
              · exact x.cells_length (G i)
              · obtain ⟨xs, hX, hc⟩ := hG i hi
                have hj' : j < xs.length := by rw [hX.len]; exact hj
                have h3 := hc j hj
                rw [List.getElem?_eq_getElem hj'] at h3
                refine ⟨by simp only [Y, h3, Option.getD_some], ?_⟩
                simp only [Y, h3, Option.getD_some]
                exact hX.one j _ (List.getElem?_eq_getElem hj')
              · obtain ⟨xs, hX, hc⟩ := hG i hi
                have hv' : (x.cells (G i))[j]? = some v := hv
                have hj : j < x.size := by
                  have := (List.getElem?_eq_some_iff.1 hv').1
                  rwa [Ty.cells_length] at this
                have hj' : j < xs.length := by rw [hX.len]; exact hj
                have h3 := hc j hj
                rw [List.getElem?_eq_getElem hj'] at h3
                simp only [Y, h3, Option.getD_some]
                exact hX.rd j v _ hv' (List.getElem?_eq_getElem hj')
    · rename_i fs hu
      split at h <;> (try cases h)
      rename_i y hy
      split at h <;> (try cases h)
      rename_i hsz
      obtain ⟨xs, m, _, _, hl, hxl, hf⟩ := DataW.trod_struct hu hz
      have key : ∀ (l : List Field) (o : Nat) (y : Ty), (∀ f ∈ l, f ∈ fs.toList) → fieldsO P (tyO P d) l o = some y → Opens W y ((cs.drop o).take y.size) := by
        intro l
        induction l with
        | nil => intro o y _ h; cases h; simpa [Ty.size] using Opens.nil W
        | cons f l ihl =>
          intro o y hmem h
          simp only [fieldsO] at h
          split at h <;> (try cases h)
          rename_i x y' hx hy'
          split at h <;> (try cases h)
          rename_i hc
          obtain ⟨rfl, hsx⟩ := hc
          rw [Ty.cat_size, part_add]
          refine Opens.cat ?_ ?_
          · obtain ⟨i, hi, hfi⟩ := List.getElem_of_mem (hmem f (by simp))
            have hi' : fs[i]? = some f := by
              rw [← Array.getElem?_toList, List.getElem?_eq_getElem hi, hfi]
            have := hf i f hi'
            rw [← hsx] at this
            have hil : i < xs.length := by rw [hxl]; simpa using hi
            rw [List.getElem?_eq_getElem hil] at this
            exact ih f.type x _ _ _ hx this
          · rw [hsx]
            exact ihl _ _ (fun g hg => hmem g (by simp [hg])) hy'
      have := key fs.toList 0 ty (fun f hf => hf) hy
      rwa [List.drop_zero, List.take_of_length_le (by omega)] at this
    · rename_i n e hu
      split at h <;> (try cases h)
      rename_i x hx
      split at h <;> (try cases h)
      rename_i hsz
      obtain ⟨hsx, hst⟩ := hsz
      obtain ⟨xs, m, _, _, hl, hxl, hf⟩ := DataW.trod_array hu hz
      have key : ∀ (k i : Nat), i + k = n → Opens W (repTy x k) ((cs.drop (i * x.size)).take (k * x.size)) := by
        intro k
        induction k with
        | zero => intro i _; simpa [repTy] using Opens.nil W
        | succ k ihk =>
          intro i hi
          rw [repTy, show (k + 1) * x.size = x.size + k * x.size by rw [Nat.succ_mul]; omega, part_add]
          refine Opens.cat ?_ ?_
          · have := hf i (by omega)
            rw [← hsx, List.getElem?_eq_getElem (by omega)] at this
            exact ih e x _ _ _ hx this
          · have := ihk (i + 1) (by omega)
            rwa [Nat.succ_mul] at this
      have := key n 0 (by omega)
      rwa [Nat.zero_mul, List.drop_zero, List.take_of_length_le (by omega)] at this
    · cases h

theorem cells_leaf {base : Nat} {t : TypeId} {v : Value} (ha : aggT P t = false) (h : Cell.okWide P W .any base t v) : v.cells = #[v] := by
  unfold Cell.okWide Cell.ok at h
  cases v with
  | agg cs => cases hu : P.underlying t with
    | none => rw [hu] at h; exact h.elim
    | some d => rw [hu] at h; cases d <;> exact h.elim
  | _ => rfl

/-- A parameter, opened. -/
theorem param_open {base : Nat} {t : TypeId} {ty : Ty} {v : Value} {d : DataW H} {ps : List MemPlace} (hty : tyO P 8 t = some ty) (hv : Value.okWide P W .any base t v) (h : DataW.Trod enc P W 0 spare held t v d ps) :
    ∃ X : Tup ty, OkT ty X ∧ Rd W (fun k => k < W.heap.size) (mkV (aggT P t) (ty.cells X)) v := by
  obtain ⟨fuel, hf⟩ := h
  have agg : ∀ cs, v = .agg cs → aggT P t = true → Row.okWide P W .any base t cs → ∃ X : Tup ty, OkT ty X ∧ Rd W (fun k => k < W.heap.size) (mkV (aggT P t) (ty.cells X)) v := by
    rintro cs rfl ha hr
    obtain ⟨ts, _, _, hc⟩ := hr
    obtain ⟨X, hX⟩ := opens 8 t ty fuel _ _ hty hf
    refine ⟨X, hX.ok, ?_⟩
    rw [ha]
    refine .agg _ _ ?_ (fun i x hi => hX.one i x (by simpa [Value.cells] using hi)) fun i u y hu hy => hX.rd i u y hu (by simpa [Value.cells] using hy)
    rw [Ty.cells_length, ← hX.len]
    simp [Value.cells]
  have leaf : v.cells = #[v] → aggT P t = false → Cell.okWide P W .any base t v → ty.size = 1 → ∃ X : Tup ty, OkT ty X ∧ Rd W (fun k => k < W.heap.size) (mkV (aggT P t) (ty.cells X)) v := by
    intro hvc ha hc h1
    rw [hvc] at hf
    obtain ⟨X, hX⟩ := opens 8 t ty fuel _ _ hty hf
    refine ⟨X, hX.ok, ?_⟩
    rw [ha]
    have hl := Ty.cells_length ty X
    match he : ty.cells X, hl with
    | [u], _ => exact hX.rd 0 u v (by rw [he]; rfl) rfl
    | [], hl => rw [h1] at hl; simp at hl
    | _ :: _ :: _, hl => rw [h1] at hl; simp at hl
  have hty' := hty
  unfold tyO at hty'
  unfold Value.okWide at hv
  split at hty'
  · rename_i k hu
    cases hty'
    rw [hu] at hv
    exact leaf (cells_leaf (by simp [aggT, hu]) hv) (by simp [aggT, hu]) hv rfl
  · rename_i hu
    cases hty'
    rw [hu] at hv
    exact leaf (cells_leaf (by simp [aggT, hu]) hv) (by simp [aggT, hu]) hv rfl
  · rename_i hu
    cases hty'
    rw [hu] at hv
    exact leaf (cells_leaf (by simp [aggT, hu]) hv) (by simp [aggT, hu]) hv rfl
  · rename_i e hu
    rw [hu] at hv
    split at hty' <;> (try cases hty')
    split at hty' <;> (try cases hty')
    exact leaf (cells_leaf (by simp [aggT, hu]) hv) (by simp [aggT, hu]) hv rfl
  · rename_i fs hu
    rw [hu] at hv
    obtain ⟨cs, h1, _, h3⟩ := hv
    exact agg cs h1 (by simp [aggT, hu]) h3
  · rename_i n e hu
    rw [hu] at hv
    obtain ⟨cs, h1, _, h3⟩ := hv
    exact agg cs h1 (by simp [aggT, hu]) h3
  · cases hty'

def dynT : (t : Ty) → Tup t → List Dyn
  | .nil, _ => []
  | .bool r, x => .b x.1 :: dynT r x.2
  | .int _ r, x => .i x.1 :: dynT r x.2
  | .str r, x => .s x.1 :: dynT r x.2
  | .sl e r, x => .q e x.1 :: dynT r x.2
/-- That a law holds. -/
def lawK : V → List B → Option Unit
  | .bool true, [] => some ()
  | _, _ => none
/-- Values that lead to no place of one's own. -/
def RdAll (W : World) (vs : List V) (xs : Array Value) : Prop := vs.length = xs.size ∧ ∀ (i : Nat) v x, vs[i]? = some v → xs[i]? = some x → Rd W (fun k => k < W.heap.size) v x
theorem RdAll.nil : RdAll W [] #[] := ⟨rfl, fun i v x h => by simp at h⟩
theorem RdAll.cons {v : V} {vs : List V} {x : Value} {xs : List Value} (h : Rd W (fun k => k < W.heap.size) v x) (hs : RdAll W vs xs.toArray) : RdAll W (v :: vs) (x :: xs).toArray := by
  refine ⟨by have := hs.1; simp_all, fun i u y hu hy => ?_⟩
  cases i with
  | zero => simp at hu hy; subst hu hy; exact h
  | succ i => exact hs.2 i u y (by simpa using hu) (by simpa using hy)

theorem FunSpec.law {sp : FunSpec Unit} (hok : sp.ok P) (htab : Fx.tab W) {vs : List V} {xs : Array Value} (h : RdAll W vs xs) (ds : List Dyn) (he : (encL (Go.Rv.enc dep) sp.args ds).1 = vs) (hb : sp.bs = []) (hr : sp.run ds lawK = some ()) :
    Calls P sp.f xs W fun e W' => e = .returned (.bool true) ∧ Below W.heap.size W W' := by
  have h1 := hok ds lawK () hr
  rw [he, hb] at h1
  let c : Cx := ⟨fun k => k < W.heap.size, fun _ => undef, fun _ => none, 0⟩
  have hrel : Rel (baseOf W c) W [] ⟨vs, [], (encBs [] (encL (Go.Rv.enc dep) sp.args ds).2).1⟩ ⟨xs, []⟩ W c := by
    refine ⟨h.1, fun i v x hv hx => .im _ _ (h.2 i v x hv hx), rfl, fun i vs ys hv => by simp at hv, rfl, fun r b hb => by simp [encBs] at hb, fun r s k hr => by simp [c] at hr, fun r k hr => by simp [c] at hr, fun r k hr => by simp [c] at hr, fun k hk => hk, Keep.refl _ _, rfl, ⟨fun k hk => hk.1, fun k hk => ⟨Fx.lt W k htab hk, fun j hj => by simp [c] at hj⟩, htab⟩, fun k hk => .inl hk, fun j k hj => ?_⟩
    simp [baseOf, c] at hj
  refine (h1 W c xs hrel).mono fun e W' hh => ?_
  obtain ⟨x, v, hs, c', rfl, hp, hrel'⟩ := hh
  have hv : v = .bool true := by
    unfold lawK at hp
    split at hp <;> first | rfl | cases hp
  subst hv
  have hx : x = .bool true := (hrel'.tm 0 _ x rfl rfl).bool_inv
  subst hx
  exact ⟨rfl, hrel'.bel.os, hrel'.bel.tape, hrel'.bel.output, hrel'.bel.size, fun k hk => hrel'.bel.block k ⟨hk, fun j hj => by simp [c] at hj⟩⟩
end
end Go.Rv
