/- What the functions of the program compute, each with the proof that its code computes it. Written by a program (rvp2.py). -/
import Derived.Test.YtmemlioggcgdmaaProg
import Derived.Test.YtmemlioggcgdmaaRvP
import Derived.Test.YtmemlioggcgdmaaE1

set_option linter.unusedVariables false
set_option maxRecDepth 100000
set_option maxHeartbeats 4000000
namespace Go.Rv.Try
open Go Go.Rv Go.RowKit
noncomputable section

-- drayman/draymanref01.Same

abbrev draymanref01_Same_T (α : Type) : Type := (Seq (Int × Unit)) → (Seq (Int × Unit)) → (Bool → Option α) → Option α

noncomputable def draymanref01_Same_l0_step {α : Type} (kr : (Bool) → Option α) (k0 : Option α) (rec : (Seq (Int × Unit)) → (Seq (Int × Unit)) → (Int) → Option α) (a3 : Seq (Int × Unit)) (b4 : Seq (Int × Unit)) (i5 : Int) : Option α :=
  (cond (decide (i5 < (a3.n : Int)))
    (cond (((decide ((0 : Int) ≤ i5)) && (decide (i5 < (a3.n : Int)))) && ((decide ((0 : Int) ≤ i5)) && (decide (i5 < (a3.n : Int)))))
      (cond (((decide ((0 : Int) ≤ i5)) && (decide (i5 < (b4.n : Int)))) && ((decide ((0 : Int) ≤ i5)) && (decide (i5 < (b4.n : Int)))))
        (cond ((a3.g i5.toNat).1 != (b4.g i5.toNat).1)
          (kr false)
          (rec a3 b4 (IntKind.i64.wrap (i5 + 1))))
        none)
      none)
    (k0))

noncomputable def draymanref01_Same_l0_run {α : Type} (kr : (Bool) → Option α) (k0 : Option α) : Nat → (Seq (Int × Unit)) → (Seq (Int × Unit)) → (Int) → Option α
  | 0, _, _, _ => none
  | n + 1, a3, b4, i5 => draymanref01_Same_l0_step kr k0 (fun a3 b4 i5 => draymanref01_Same_l0_run kr k0 n a3 b4 i5) a3 b4 i5

noncomputable def draymanref01_Same {α : Type} (a1 : Seq (Int × Unit)) (b2 : Seq (Int × Unit)) (k : Bool → Option α) : Option α :=
  (cond ((a1.n : Int) != (b2.n : Int))
    (k false)
    (draymanref01_Same_l0_run
      (fun x6 =>
        (k x6))
      ((k true))
      1000 a1 b2 0))

noncomputable def draymanref01_Same_sp {α : Type} (draymanref01_Same : draymanref01_Same_T α) : FunSpec α := ⟨91, [.sl (.int .i64 (.nil)), .sl (.int .i64 (.nil))], [], fun ds k => draymanref01_Same (hdQ (.int .i64 (.nil)) ds) (hdQ (.int .i64 (.nil)) ds.tail) (fun r1 => k (enc dep (.bool) [.b r1]).1 [])⟩

noncomputable def draymanref01_Same_spec {α : Type} : FunSpec α := draymanref01_Same_sp draymanref01_Same

noncomputable def draymanref01_Same_C {α : Type} : List (FunSpec α) := []

noncomputable def draymanref01_Same_q : FuncId → Bool := fun f => false

noncomputable def draymanref01_Same_inl : FuncId → Bool := fun f => false

noncomputable def draymanref01_Same_ann : FuncId → AnnT := fun f p => if f = 91 then (if p = [true, false, true, true] then ⟨[0, 1, 5], [], [], [4], 0, [], []⟩ else ⟨[], [], [], [], 0, [], []⟩) else ⟨[], [], [], [], 0, [], []⟩

noncomputable def draymanref01_Same_l0_t : List Sh := [.sl (.int .i64 (.nil)), .sl (.int .i64 (.nil)), .dead, .dead, .dead, .int .i64, .dead, .dead, .dead, .dead, .dead, .dead, .dead, .dead, .dead, .dead, .dead, .dead, .dead, .dead, .dead, .dead, .dead, .dead, .dead, .dead]
noncomputable def draymanref01_Same_l0_s : List (List Sh) := []
noncomputable def draymanref01_Same_l0_h : List BSh := []

noncomputable def draymanref01_Same_l0_spec {α : Type} : LoopSpec α := ⟨6, 91, [true, false, true, true], draymanref01_Same_l0_t, draymanref01_Same_l0_s, draymanref01_Same_l0_h, fun ds k => draymanref01_Same_l0_run (fun y1 => k .ret (encSt [.dead, .dead, .dead, .dead, .bool, .dead, .dead, .dead, .dead, .dead, .dead, .dead, .dead, .dead, .dead, .dead, .dead, .dead, .dead, .dead, .dead, .dead, .dead, .dead, .dead, .dead] [] [] [.b y1])) (k (.exit 0) (encSt [.dead, .dead, .dead, .dead, .dead, .dead, .dead, .dead, .dead, .dead, .dead, .dead, .dead, .dead, .dead, .dead, .dead, .dead, .dead, .dead, .dead, .dead, .dead, .dead, .dead, .dead] [] [] [])) 1000 (hdQ (.int .i64 (.nil)) ds) (hdQ (.int .i64 (.nil)) ds.tail) (hdI ds.tail.tail)⟩

noncomputable def draymanref01_Same_loops {α : Type} : List (LoopSpec α) := [draymanref01_Same_l0_spec]

noncomputable def draymanref01_Same_l0_ev {α : Type} (n : Nat) (st : St) (k : X → St → Option α) : Option α := loopN (evCode Go.Proofs.Try.prog (callD Go.Proofs.Try.prog (envOf (draymanref01_Same_C) draymanref01_Same_q draymanref01_Same_inl 1000 draymanref01_Same_ann false (draymanref01_Same_loops) (fun _ => none)) 6) (((envOf (draymanref01_Same_C) draymanref01_Same_q draymanref01_Same_inl 1000 draymanref01_Same_ann false (draymanref01_Same_loops) (fun _ => none)) : Env α).L 6 91) 1000 (draymanref01_Same_ann 91) (false :: [true, false, true, true]) (loopC Go.Proofs.Try.prog 91 [true, false, true, true])) ((draymanref01_Same_ann 91 [true, false, true, true]).head 0) ((draymanref01_Same_ann 91 [true, false, true, true]).leave 0) n st k

theorem draymanref01_Same_l0_eq {α : Type} : ∀ (n : Nat) (a3 : Seq (Int × Unit)) (b4 : Seq (Int × Unit)) (i5 : Int) (k : X → St → Option α), draymanref01_Same_l0_ev n (encSt draymanref01_Same_l0_t draymanref01_Same_l0_s draymanref01_Same_l0_h [.q (.int .i64 (.nil)) a3, .q (.int .i64 (.nil)) b4, .i i5]) k = draymanref01_Same_l0_run (fun y1 => k .ret (encSt [.dead, .dead, .dead, .dead, .bool, .dead, .dead, .dead, .dead, .dead, .dead, .dead, .dead, .dead, .dead, .dead, .dead, .dead, .dead, .dead, .dead, .dead, .dead, .dead, .dead, .dead] [] [] [.b y1])) (k (.exit 0) (encSt [.dead, .dead, .dead, .dead, .dead, .dead, .dead, .dead, .dead, .dead, .dead, .dead, .dead, .dead, .dead, .dead, .dead, .dead, .dead, .dead, .dead, .dead, .dead, .dead, .dead, .dead] [] [] [])) n a3 b4 i5 := by
  intro n
  induction n with
  | zero => intros; kernel_rfl
  | succ n ih =>
    intro a3 b4 i5 k
    have e : (fun (a3 : Seq (Int × Unit)) (b4 : Seq (Int × Unit)) (i5 : Int) => draymanref01_Same_l0_ev n (encSt draymanref01_Same_l0_t draymanref01_Same_l0_s draymanref01_Same_l0_h [.q (.int .i64 (.nil)) a3, .q (.int .i64 (.nil)) b4, .i i5]) k) = (fun (a3 : Seq (Int × Unit)) (b4 : Seq (Int × Unit)) (i5 : Int) => draymanref01_Same_l0_run (fun y1 => k .ret (encSt [.dead, .dead, .dead, .dead, .bool, .dead, .dead, .dead, .dead, .dead, .dead, .dead, .dead, .dead, .dead, .dead, .dead, .dead, .dead, .dead, .dead, .dead, .dead, .dead, .dead, .dead] [] [] [.b y1])) (k (.exit 0) (encSt [.dead, .dead, .dead, .dead, .dead, .dead, .dead, .dead, .dead, .dead, .dead, .dead, .dead, .dead, .dead, .dead, .dead, .dead, .dead, .dead, .dead, .dead, .dead, .dead, .dead, .dead] [] [] [])) n a3 b4 i5) := by
      funext a3 b4 i5
      exact ih a3 b4 i5 k
    have h1 : draymanref01_Same_l0_ev (n + 1) (encSt draymanref01_Same_l0_t draymanref01_Same_l0_s draymanref01_Same_l0_h [.q (.int .i64 (.nil)) a3, .q (.int .i64 (.nil)) b4, .i i5]) k = draymanref01_Same_l0_step (fun y1 => k .ret (encSt [.dead, .dead, .dead, .dead, .bool, .dead, .dead, .dead, .dead, .dead, .dead, .dead, .dead, .dead, .dead, .dead, .dead, .dead, .dead, .dead, .dead, .dead, .dead, .dead, .dead, .dead] [] [] [.b y1])) (k (.exit 0) (encSt [.dead, .dead, .dead, .dead, .dead, .dead, .dead, .dead, .dead, .dead, .dead, .dead, .dead, .dead, .dead, .dead, .dead, .dead, .dead, .dead, .dead, .dead, .dead, .dead, .dead, .dead] [] [] [])) (fun (a3 : Seq (Int × Unit)) (b4 : Seq (Int × Unit)) (i5 : Int) => draymanref01_Same_l0_ev n (encSt draymanref01_Same_l0_t draymanref01_Same_l0_s draymanref01_Same_l0_h [.q (.int .i64 (.nil)) a3, .q (.int .i64 (.nil)) b4, .i i5]) k) a3 b4 i5 := by kernel_rfl
    have h2 := congrArg (fun r => draymanref01_Same_l0_step (fun y1 => k .ret (encSt [.dead, .dead, .dead, .dead, .bool, .dead, .dead, .dead, .dead, .dead, .dead, .dead, .dead, .dead, .dead, .dead, .dead, .dead, .dead, .dead, .dead, .dead, .dead, .dead, .dead, .dead] [] [] [.b y1])) (k (.exit 0) (encSt [.dead, .dead, .dead, .dead, .dead, .dead, .dead, .dead, .dead, .dead, .dead, .dead, .dead, .dead, .dead, .dead, .dead, .dead, .dead, .dead, .dead, .dead, .dead, .dead, .dead, .dead] [] [] [])) r a3 b4 i5) e
    have h3 : draymanref01_Same_l0_step (fun y1 => k .ret (encSt [.dead, .dead, .dead, .dead, .bool, .dead, .dead, .dead, .dead, .dead, .dead, .dead, .dead, .dead, .dead, .dead, .dead, .dead, .dead, .dead, .dead, .dead, .dead, .dead, .dead, .dead] [] [] [.b y1])) (k (.exit 0) (encSt [.dead, .dead, .dead, .dead, .dead, .dead, .dead, .dead, .dead, .dead, .dead, .dead, .dead, .dead, .dead, .dead, .dead, .dead, .dead, .dead, .dead, .dead, .dead, .dead, .dead, .dead] [] [] [])) (fun (a3 : Seq (Int × Unit)) (b4 : Seq (Int × Unit)) (i5 : Int) => draymanref01_Same_l0_run (fun y1 => k .ret (encSt [.dead, .dead, .dead, .dead, .bool, .dead, .dead, .dead, .dead, .dead, .dead, .dead, .dead, .dead, .dead, .dead, .dead, .dead, .dead, .dead, .dead, .dead, .dead, .dead, .dead, .dead] [] [] [.b y1])) (k (.exit 0) (encSt [.dead, .dead, .dead, .dead, .dead, .dead, .dead, .dead, .dead, .dead, .dead, .dead, .dead, .dead, .dead, .dead, .dead, .dead, .dead, .dead, .dead, .dead, .dead, .dead, .dead, .dead] [] [] [])) n a3 b4 i5) a3 b4 i5 = draymanref01_Same_l0_run (fun y1 => k .ret (encSt [.dead, .dead, .dead, .dead, .bool, .dead, .dead, .dead, .dead, .dead, .dead, .dead, .dead, .dead, .dead, .dead, .dead, .dead, .dead, .dead, .dead, .dead, .dead, .dead, .dead, .dead] [] [] [.b y1])) (k (.exit 0) (encSt [.dead, .dead, .dead, .dead, .dead, .dead, .dead, .dead, .dead, .dead, .dead, .dead, .dead, .dead, .dead, .dead, .dead, .dead, .dead, .dead, .dead, .dead, .dead, .dead, .dead, .dead] [] [] [])) (n + 1) a3 b4 i5 := by kernel_rfl
    exact h1.trans (h2.trans h3)

theorem draymanref01_Same_l0_ok {α : Type} : (draymanref01_Same_l0_spec : LoopSpec α).ok Go.Proofs.Try.prog (envOf (draymanref01_Same_C) draymanref01_Same_q draymanref01_Same_inl 1000 draymanref01_Same_ann false (draymanref01_Same_loops) (fun _ => none)) := by
  intro ds k
  have h1 : draymanref01_Same_l0_ev 1000 (encSt draymanref01_Same_l0_t draymanref01_Same_l0_s draymanref01_Same_l0_h ds) k = draymanref01_Same_l0_ev 1000 (encSt draymanref01_Same_l0_t draymanref01_Same_l0_s draymanref01_Same_l0_h [.q (.int .i64 (.nil)) (hdQ (.int .i64 (.nil)) ds), .q (.int .i64 (.nil)) (hdQ (.int .i64 (.nil)) ds.tail), .i (hdI ds.tail.tail)]) k := by kernel_rfl
  have h2 := draymanref01_Same_l0_eq 1000 (hdQ (.int .i64 (.nil)) ds) (hdQ (.int .i64 (.nil)) ds.tail) (hdI ds.tail.tail) k
  exact h1.trans h2

theorem draymanref01_Same_ev {α : Type} : EvOk (α := α) Go.Proofs.Try.prog (envOf (draymanref01_Same_C) draymanref01_Same_q draymanref01_Same_inl 1000 draymanref01_Same_ann false (draymanref01_Same_loops) (fun _ => none)) 6 (draymanref01_Same_sp (draymanref01_Same)) := by intro ds k; kernel_rfl

theorem draymanref01_Same_ok {α : Type} : (draymanref01_Same_spec : FunSpec α).ok Go.Proofs.Try.prog :=
  FunSpec.ok_of (sp := draymanref01_Same_spec) (C := draymanref01_Same_C) (q := draymanref01_Same_q) (inl := draymanref01_Same_inl) (N := 1000) (ann := draymanref01_Same_ann) (fr := false) (D := 6) (l := (draymanref01_Same_loops)) (hk := (fun _ => none)) okNil (lokCons (draymanref01_Same_l0_ok) lokNil) noHooks (draymanref01_Same_ev)

end
end Go.Rv.Try

set_option linter.unusedVariables false
set_option maxRecDepth 100000
set_option maxHeartbeats 4000000
namespace Go.Rv.Try
open Go Go.Rv Go.RowKit
noncomputable section

-- drayman/draymanref18.Same

abbrev draymanref18_Same_T (α : Type) : Type := (Int × Int × (Seq (Int × Unit)) × Unit) → (Int × Int × (Seq (Int × Unit)) × Unit) → (Bool → Option α) → Option α

noncomputable def draymanref18_Same_g {α : Type} (draymanref01_Same : draymanref01_Same_T α) (a1 : Int × Int × (Seq (Int × Unit)) × Unit) (b2 : Int × Int × (Seq (Int × Unit)) × Unit) (k : Bool → Option α) : Option α :=
  (cond (a1.1 == b2.1)
    (cond (a1.2.1 == b2.2.1)
      (draymanref01_Same a1.2.2.1 b2.2.2.1 fun r3 =>
        (k r3))
      (k false))
    (k false))

noncomputable def draymanref18_Same {α : Type} : draymanref18_Same_T α := draymanref18_Same_g draymanref01_Same

noncomputable def draymanref18_Same_sp {α : Type} (draymanref18_Same : draymanref18_Same_T α) : FunSpec α := ⟨69, [.agg [.int .i64, .int .i64, .sl (.int .i64 (.nil))], .agg [.int .i64, .int .i64, .sl (.int .i64 (.nil))]], [], fun ds k => draymanref18_Same (hdI ds, hdI ds.tail, hdQ (.int .i64 (.nil)) ds.tail.tail, ()) (hdI ds.tail.tail.tail, hdI ds.tail.tail.tail.tail, hdQ (.int .i64 (.nil)) ds.tail.tail.tail.tail.tail, ()) (fun r1 => k (enc dep (.bool) [.b r1]).1 [])⟩

noncomputable def draymanref18_Same_spec {α : Type} : FunSpec α := draymanref18_Same_sp draymanref18_Same

noncomputable def draymanref18_Same_C {α : Type} (draymanref01_Same : draymanref01_Same_T α) : List (FunSpec α) := [draymanref01_Same_sp draymanref01_Same]

noncomputable def draymanref18_Same_q : FuncId → Bool := fun f => Nat.beq f 91

noncomputable def draymanref18_Same_inl : FuncId → Bool := fun f => false

noncomputable def draymanref18_Same_ann : FuncId → AnnT := fun f p => ⟨[], [], [], [], 0, [], []⟩

noncomputable def draymanref18_Same_loops {α : Type} (draymanref01_Same : draymanref01_Same_T α) : List (LoopSpec α) := []

theorem draymanref18_Same_ev {α : Type} (draymanref01_Same : draymanref01_Same_T α) : EvOk (α := α) Go.Proofs.Try.prog (envOf (draymanref18_Same_C draymanref01_Same) draymanref18_Same_q draymanref18_Same_inl 1000 draymanref18_Same_ann false (draymanref18_Same_loops draymanref01_Same) (fun _ => none)) 6 (draymanref18_Same_sp (draymanref18_Same_g draymanref01_Same)) := by intro ds k; kernel_rfl

theorem draymanref18_Same_ok {α : Type} : (draymanref18_Same_spec : FunSpec α).ok Go.Proofs.Try.prog :=
  FunSpec.ok_of (sp := draymanref18_Same_spec) (C := draymanref18_Same_C draymanref01_Same) (q := draymanref18_Same_q) (inl := draymanref18_Same_inl) (N := 1000) (ann := draymanref18_Same_ann) (fr := false) (D := 6) (l := (draymanref18_Same_loops draymanref01_Same)) (hk := (fun _ => none)) (okCons draymanref01_Same_ok okNil) lokNil noHooks (draymanref18_Same_ev draymanref01_Same)

end
end Go.Rv.Try

set_option linter.unusedVariables false
set_option maxRecDepth 100000
set_option maxHeartbeats 4000000
namespace Go.Rv.Try
open Go Go.Rv Go.RowKit
noncomputable section

-- slices.Equal[[]int,int]

abbrev slices_Equal_int_int_T (α : Type) : Type := (Seq (Int × Unit)) → (Seq (Int × Unit)) → (Bool → Option α) → Option α

noncomputable def slices_Equal_int_int_l0_step {α : Type} (kr : (Bool) → Option α) (k0 : Option α) (rec : (Seq (Int × Unit)) → (Seq (Int × Unit)) → (Int) → (Int) → Option α) (x3 : Seq (Int × Unit)) (x4 : Seq (Int × Unit)) (x5 : Int) (x6 : Int) : Option α :=
  (cond (decide (x6 < x5))
    (cond (((decide ((0 : Int) ≤ x6)) && (decide (x6 < (x3.n : Int)))) && ((decide ((0 : Int) ≤ x6)) && (decide (x6 < (x3.n : Int)))))
      (cond (((decide ((0 : Int) ≤ x6)) && (decide (x6 < (x4.n : Int)))) && ((decide ((0 : Int) ≤ x6)) && (decide (x6 < (x4.n : Int)))))
        (cond ((x3.g x6.toNat).1 != (x4.g x6.toNat).1)
          (kr false)
          (rec x3 x4 x5 (IntKind.i64.wrap (x6 + 1))))
        none)
      none)
    (k0))

noncomputable def slices_Equal_int_int_l0_run {α : Type} (kr : (Bool) → Option α) (k0 : Option α) : Nat → (Seq (Int × Unit)) → (Seq (Int × Unit)) → (Int) → (Int) → Option α
  | 0, _, _, _, _ => none
  | n + 1, x3, x4, x5, x6 => slices_Equal_int_int_l0_step kr k0 (fun x3 x4 x5 x6 => slices_Equal_int_int_l0_run kr k0 n x3 x4 x5 x6) x3 x4 x5 x6

noncomputable def slices_Equal_int_int {α : Type} (x1 : Seq (Int × Unit)) (x2 : Seq (Int × Unit)) (k : Bool → Option α) : Option α :=
  (cond ((x1.n : Int) != (x2.n : Int))
    (k false)
    (slices_Equal_int_int_l0_run
      (fun x7 =>
        (k x7))
      ((k true))
      1000 x1 x2 (x1.n : Int) 0))

noncomputable def slices_Equal_int_int_sp {α : Type} (slices_Equal_int_int : slices_Equal_int_int_T α) : FunSpec α := ⟨92, [.sl (.int .i64 (.nil)), .sl (.int .i64 (.nil))], [], fun ds k => slices_Equal_int_int (hdQ (.int .i64 (.nil)) ds) (hdQ (.int .i64 (.nil)) ds.tail) (fun r1 => k (enc dep (.bool) [.b r1]).1 [])⟩

noncomputable def slices_Equal_int_int_spec {α : Type} : FunSpec α := slices_Equal_int_int_sp slices_Equal_int_int

noncomputable def slices_Equal_int_int_C {α : Type} : List (FunSpec α) := []

noncomputable def slices_Equal_int_int_q : FuncId → Bool := fun f => false

noncomputable def slices_Equal_int_int_inl : FuncId → Bool := fun f => false

noncomputable def slices_Equal_int_int_ann : FuncId → AnnT := fun f p => if f = 92 then (if p = [true, false, true, true] then ⟨[0, 1, 12, 13], [], [], [4], 0, [], []⟩ else ⟨[], [], [], [], 0, [], []⟩) else ⟨[], [], [], [], 0, [], []⟩

noncomputable def slices_Equal_int_int_l0_t : List Sh := [.sl (.int .i64 (.nil)), .sl (.int .i64 (.nil)), .dead, .dead, .dead, .dead, .dead, .dead, .dead, .dead, .dead, .dead, .int .i64, .int .i64, .dead, .dead, .dead, .dead, .dead, .dead, .dead, .dead, .dead, .dead, .dead, .dead]
noncomputable def slices_Equal_int_int_l0_s : List (List Sh) := []
noncomputable def slices_Equal_int_int_l0_h : List BSh := []

noncomputable def slices_Equal_int_int_l0_spec {α : Type} : LoopSpec α := ⟨6, 92, [true, false, true, true], slices_Equal_int_int_l0_t, slices_Equal_int_int_l0_s, slices_Equal_int_int_l0_h, fun ds k => slices_Equal_int_int_l0_run (fun y1 => k .ret (encSt [.dead, .dead, .dead, .dead, .bool, .dead, .dead, .dead, .dead, .dead, .dead, .dead, .dead, .dead, .dead, .dead, .dead, .dead, .dead, .dead, .dead, .dead, .dead, .dead, .dead, .dead] [] [] [.b y1])) (k (.exit 0) (encSt [.dead, .dead, .dead, .dead, .dead, .dead, .dead, .dead, .dead, .dead, .dead, .dead, .dead, .dead, .dead, .dead, .dead, .dead, .dead, .dead, .dead, .dead, .dead, .dead, .dead, .dead] [] [] [])) 1000 (hdQ (.int .i64 (.nil)) ds) (hdQ (.int .i64 (.nil)) ds.tail) (hdI ds.tail.tail) (hdI ds.tail.tail.tail)⟩

noncomputable def slices_Equal_int_int_loops {α : Type} : List (LoopSpec α) := [slices_Equal_int_int_l0_spec]

noncomputable def slices_Equal_int_int_l0_ev {α : Type} (n : Nat) (st : St) (k : X → St → Option α) : Option α := loopN (evCode Go.Proofs.Try.prog (callD Go.Proofs.Try.prog (envOf (slices_Equal_int_int_C) slices_Equal_int_int_q slices_Equal_int_int_inl 1000 slices_Equal_int_int_ann false (slices_Equal_int_int_loops) (fun _ => none)) 6) (((envOf (slices_Equal_int_int_C) slices_Equal_int_int_q slices_Equal_int_int_inl 1000 slices_Equal_int_int_ann false (slices_Equal_int_int_loops) (fun _ => none)) : Env α).L 6 92) 1000 (slices_Equal_int_int_ann 92) (false :: [true, false, true, true]) (loopC Go.Proofs.Try.prog 92 [true, false, true, true])) ((slices_Equal_int_int_ann 92 [true, false, true, true]).head 0) ((slices_Equal_int_int_ann 92 [true, false, true, true]).leave 0) n st k

theorem slices_Equal_int_int_l0_eq {α : Type} : ∀ (n : Nat) (x3 : Seq (Int × Unit)) (x4 : Seq (Int × Unit)) (x5 : Int) (x6 : Int) (k : X → St → Option α), slices_Equal_int_int_l0_ev n (encSt slices_Equal_int_int_l0_t slices_Equal_int_int_l0_s slices_Equal_int_int_l0_h [.q (.int .i64 (.nil)) x3, .q (.int .i64 (.nil)) x4, .i x5, .i x6]) k = slices_Equal_int_int_l0_run (fun y1 => k .ret (encSt [.dead, .dead, .dead, .dead, .bool, .dead, .dead, .dead, .dead, .dead, .dead, .dead, .dead, .dead, .dead, .dead, .dead, .dead, .dead, .dead, .dead, .dead, .dead, .dead, .dead, .dead] [] [] [.b y1])) (k (.exit 0) (encSt [.dead, .dead, .dead, .dead, .dead, .dead, .dead, .dead, .dead, .dead, .dead, .dead, .dead, .dead, .dead, .dead, .dead, .dead, .dead, .dead, .dead, .dead, .dead, .dead, .dead, .dead] [] [] [])) n x3 x4 x5 x6 := by
  intro n
  induction n with
  | zero => intros; kernel_rfl
  | succ n ih =>
    intro x3 x4 x5 x6 k
    have e : (fun (x3 : Seq (Int × Unit)) (x4 : Seq (Int × Unit)) (x5 : Int) (x6 : Int) => slices_Equal_int_int_l0_ev n (encSt slices_Equal_int_int_l0_t slices_Equal_int_int_l0_s slices_Equal_int_int_l0_h [.q (.int .i64 (.nil)) x3, .q (.int .i64 (.nil)) x4, .i x5, .i x6]) k) = (fun (x3 : Seq (Int × Unit)) (x4 : Seq (Int × Unit)) (x5 : Int) (x6 : Int) => slices_Equal_int_int_l0_run (fun y1 => k .ret (encSt [.dead, .dead, .dead, .dead, .bool, .dead, .dead, .dead, .dead, .dead, .dead, .dead, .dead, .dead, .dead, .dead, .dead, .dead, .dead, .dead, .dead, .dead, .dead, .dead, .dead, .dead] [] [] [.b y1])) (k (.exit 0) (encSt [.dead, .dead, .dead, .dead, .dead, .dead, .dead, .dead, .dead, .dead, .dead, .dead, .dead, .dead, .dead, .dead, .dead, .dead, .dead, .dead, .dead, .dead, .dead, .dead, .dead, .dead] [] [] [])) n x3 x4 x5 x6) := by
      funext x3 x4 x5 x6
      exact ih x3 x4 x5 x6 k
    have h1 : slices_Equal_int_int_l0_ev (n + 1) (encSt slices_Equal_int_int_l0_t slices_Equal_int_int_l0_s slices_Equal_int_int_l0_h [.q (.int .i64 (.nil)) x3, .q (.int .i64 (.nil)) x4, .i x5, .i x6]) k = slices_Equal_int_int_l0_step (fun y1 => k .ret (encSt [.dead, .dead, .dead, .dead, .bool, .dead, .dead, .dead, .dead, .dead, .dead, .dead, .dead, .dead, .dead, .dead, .dead, .dead, .dead, .dead, .dead, .dead, .dead, .dead, .dead, .dead] [] [] [.b y1])) (k (.exit 0) (encSt [.dead, .dead, .dead, .dead, .dead, .dead, .dead, .dead, .dead, .dead, .dead, .dead, .dead, .dead, .dead, .dead, .dead, .dead, .dead, .dead, .dead, .dead, .dead, .dead, .dead, .dead] [] [] [])) (fun (x3 : Seq (Int × Unit)) (x4 : Seq (Int × Unit)) (x5 : Int) (x6 : Int) => slices_Equal_int_int_l0_ev n (encSt slices_Equal_int_int_l0_t slices_Equal_int_int_l0_s slices_Equal_int_int_l0_h [.q (.int .i64 (.nil)) x3, .q (.int .i64 (.nil)) x4, .i x5, .i x6]) k) x3 x4 x5 x6 := by kernel_rfl
    have h2 := congrArg (fun r => slices_Equal_int_int_l0_step (fun y1 => k .ret (encSt [.dead, .dead, .dead, .dead, .bool, .dead, .dead, .dead, .dead, .dead, .dead, .dead, .dead, .dead, .dead, .dead, .dead, .dead, .dead, .dead, .dead, .dead, .dead, .dead, .dead, .dead] [] [] [.b y1])) (k (.exit 0) (encSt [.dead, .dead, .dead, .dead, .dead, .dead, .dead, .dead, .dead, .dead, .dead, .dead, .dead, .dead, .dead, .dead, .dead, .dead, .dead, .dead, .dead, .dead, .dead, .dead, .dead, .dead] [] [] [])) r x3 x4 x5 x6) e
    have h3 : slices_Equal_int_int_l0_step (fun y1 => k .ret (encSt [.dead, .dead, .dead, .dead, .bool, .dead, .dead, .dead, .dead, .dead, .dead, .dead, .dead, .dead, .dead, .dead, .dead, .dead, .dead, .dead, .dead, .dead, .dead, .dead, .dead, .dead] [] [] [.b y1])) (k (.exit 0) (encSt [.dead, .dead, .dead, .dead, .dead, .dead, .dead, .dead, .dead, .dead, .dead, .dead, .dead, .dead, .dead, .dead, .dead, .dead, .dead, .dead, .dead, .dead, .dead, .dead, .dead, .dead] [] [] [])) (fun (x3 : Seq (Int × Unit)) (x4 : Seq (Int × Unit)) (x5 : Int) (x6 : Int) => slices_Equal_int_int_l0_run (fun y1 => k .ret (encSt [.dead, .dead, .dead, .dead, .bool, .dead, .dead, .dead, .dead, .dead, .dead, .dead, .dead, .dead, .dead, .dead, .dead, .dead, .dead, .dead, .dead, .dead, .dead, .dead, .dead, .dead] [] [] [.b y1])) (k (.exit 0) (encSt [.dead, .dead, .dead, .dead, .dead, .dead, .dead, .dead, .dead, .dead, .dead, .dead, .dead, .dead, .dead, .dead, .dead, .dead, .dead, .dead, .dead, .dead, .dead, .dead, .dead, .dead] [] [] [])) n x3 x4 x5 x6) x3 x4 x5 x6 = slices_Equal_int_int_l0_run (fun y1 => k .ret (encSt [.dead, .dead, .dead, .dead, .bool, .dead, .dead, .dead, .dead, .dead, .dead, .dead, .dead, .dead, .dead, .dead, .dead, .dead, .dead, .dead, .dead, .dead, .dead, .dead, .dead, .dead] [] [] [.b y1])) (k (.exit 0) (encSt [.dead, .dead, .dead, .dead, .dead, .dead, .dead, .dead, .dead, .dead, .dead, .dead, .dead, .dead, .dead, .dead, .dead, .dead, .dead, .dead, .dead, .dead, .dead, .dead, .dead, .dead] [] [] [])) (n + 1) x3 x4 x5 x6 := by kernel_rfl
    exact h1.trans (h2.trans h3)

theorem slices_Equal_int_int_l0_ok {α : Type} : (slices_Equal_int_int_l0_spec : LoopSpec α).ok Go.Proofs.Try.prog (envOf (slices_Equal_int_int_C) slices_Equal_int_int_q slices_Equal_int_int_inl 1000 slices_Equal_int_int_ann false (slices_Equal_int_int_loops) (fun _ => none)) := by
  intro ds k
  have h1 : slices_Equal_int_int_l0_ev 1000 (encSt slices_Equal_int_int_l0_t slices_Equal_int_int_l0_s slices_Equal_int_int_l0_h ds) k = slices_Equal_int_int_l0_ev 1000 (encSt slices_Equal_int_int_l0_t slices_Equal_int_int_l0_s slices_Equal_int_int_l0_h [.q (.int .i64 (.nil)) (hdQ (.int .i64 (.nil)) ds), .q (.int .i64 (.nil)) (hdQ (.int .i64 (.nil)) ds.tail), .i (hdI ds.tail.tail), .i (hdI ds.tail.tail.tail)]) k := by kernel_rfl
  have h2 := slices_Equal_int_int_l0_eq 1000 (hdQ (.int .i64 (.nil)) ds) (hdQ (.int .i64 (.nil)) ds.tail) (hdI ds.tail.tail) (hdI ds.tail.tail.tail) k
  exact h1.trans h2

theorem slices_Equal_int_int_ev {α : Type} : EvOk (α := α) Go.Proofs.Try.prog (envOf (slices_Equal_int_int_C) slices_Equal_int_int_q slices_Equal_int_int_inl 1000 slices_Equal_int_int_ann false (slices_Equal_int_int_loops) (fun _ => none)) 6 (slices_Equal_int_int_sp (slices_Equal_int_int)) := by intro ds k; kernel_rfl

theorem slices_Equal_int_int_ok {α : Type} : (slices_Equal_int_int_spec : FunSpec α).ok Go.Proofs.Try.prog :=
  FunSpec.ok_of (sp := slices_Equal_int_int_spec) (C := slices_Equal_int_int_C) (q := slices_Equal_int_int_q) (inl := slices_Equal_int_int_inl) (N := 1000) (ann := slices_Equal_int_int_ann) (fr := false) (D := 6) (l := (slices_Equal_int_int_loops)) (hk := (fun _ => none)) okNil (lokCons (slices_Equal_int_int_l0_ok) lokNil) noHooks (slices_Equal_int_int_ev)

end
end Go.Rv.Try

set_option linter.unusedVariables false
set_option maxRecDepth 100000
set_option maxHeartbeats 4000000
namespace Go.Rv.Try
open Go Go.Rv Go.RowKit
noncomputable section

-- drayman/inbox.Same

abbrev inbox_Same_T (α : Type) : Type := (Int × Int × (Seq (Int × Unit)) × Unit) → (Int × Int × (Seq (Int × Unit)) × Unit) → (Bool → Option α) → Option α

noncomputable def inbox_Same_g {α : Type} (slices_Equal_int_int : slices_Equal_int_int_T α) (a1 : Int × Int × (Seq (Int × Unit)) × Unit) (b2 : Int × Int × (Seq (Int × Unit)) × Unit) (k : Bool → Option α) : Option α :=
  (cond (a1.1 == b2.1)
    (cond (a1.2.1 == b2.2.1)
      (slices_Equal_int_int a1.2.2.1 b2.2.2.1 fun r3 =>
        (k r3))
      (k false))
    (k false))

noncomputable def inbox_Same {α : Type} : inbox_Same_T α := inbox_Same_g slices_Equal_int_int

noncomputable def inbox_Same_sp {α : Type} (inbox_Same : inbox_Same_T α) : FunSpec α := ⟨70, [.agg [.int .i64, .int .i64, .sl (.int .i64 (.nil))], .agg [.int .i64, .int .i64, .sl (.int .i64 (.nil))]], [], fun ds k => inbox_Same (hdI ds, hdI ds.tail, hdQ (.int .i64 (.nil)) ds.tail.tail, ()) (hdI ds.tail.tail.tail, hdI ds.tail.tail.tail.tail, hdQ (.int .i64 (.nil)) ds.tail.tail.tail.tail.tail, ()) (fun r1 => k (enc dep (.bool) [.b r1]).1 [])⟩

noncomputable def inbox_Same_spec {α : Type} : FunSpec α := inbox_Same_sp inbox_Same

noncomputable def inbox_Same_C {α : Type} (slices_Equal_int_int : slices_Equal_int_int_T α) : List (FunSpec α) := [slices_Equal_int_int_sp slices_Equal_int_int]

noncomputable def inbox_Same_q : FuncId → Bool := fun f => Nat.beq f 92

noncomputable def inbox_Same_inl : FuncId → Bool := fun f => false

noncomputable def inbox_Same_ann : FuncId → AnnT := fun f p => ⟨[], [], [], [], 0, [], []⟩

noncomputable def inbox_Same_loops {α : Type} (slices_Equal_int_int : slices_Equal_int_int_T α) : List (LoopSpec α) := []

theorem inbox_Same_ev {α : Type} (slices_Equal_int_int : slices_Equal_int_int_T α) : EvOk (α := α) Go.Proofs.Try.prog (envOf (inbox_Same_C slices_Equal_int_int) inbox_Same_q inbox_Same_inl 1000 inbox_Same_ann false (inbox_Same_loops slices_Equal_int_int) (fun _ => none)) 6 (inbox_Same_sp (inbox_Same_g slices_Equal_int_int)) := by intro ds k; kernel_rfl

theorem inbox_Same_ok {α : Type} : (inbox_Same_spec : FunSpec α).ok Go.Proofs.Try.prog :=
  FunSpec.ok_of (sp := inbox_Same_spec) (C := inbox_Same_C slices_Equal_int_int) (q := inbox_Same_q) (inl := inbox_Same_inl) (N := 1000) (ann := inbox_Same_ann) (fr := false) (D := 6) (l := (inbox_Same_loops slices_Equal_int_int)) (hk := (fun _ => none)) (okCons slices_Equal_int_int_ok okNil) lokNil noHooks (inbox_Same_ev slices_Equal_int_int)

end
end Go.Rv.Try

set_option linter.unusedVariables false
set_option maxRecDepth 100000
set_option maxHeartbeats 4000000
namespace Go.Rv.Try
open Go Go.Rv Go.RowKit
noncomputable section

-- drayman/draymanlaw18.InboxTells

abbrev draymanlaw18_InboxTells_T (α : Type) : Type := (Int × Int × (Seq (Int × Unit)) × Unit) → (Int × Int × (Seq (Int × Unit)) × Unit) → Int → (Bool → Option α) → Option α

noncomputable def draymanlaw18_InboxTells_g {α : Type} (draymanlaw18_awake : draymanlaw18_awake_T α) (inbox_Mark : inbox_Mark_T α) (draymanref18_Mark : draymanref18_Mark_T α) (inbox_Fit : inbox_Fit_T α) (draymanref18_Fit : draymanref18_Fit_T α) (inbox_Had : inbox_Had_T α) (draymanref18_Had : draymanref18_Had_T α) (draymanref18_Same : draymanref18_Same_T α) (inbox_Same : inbox_Same_T α) (inbox_New : inbox_New_T α) (x1 : Int × Int × (Seq (Int × Unit)) × Unit) (x2 : Int × Int × (Seq (Int × Unit)) × Unit) (x3 : Int) (k : Bool → Option α) : Option α :=
  (cond (!(decide ((x1.2.2.1.n : Int) > 20)))
    (cond (decide ((x2.2.2.1.n : Int) > 20))
      (draymanlaw18_awake fun r4 =>
        (k r4))
      (inbox_Mark x1 x3 fun r5 r6 =>
        (draymanref18_Mark x1 x3 fun r7 r8 =>
          (inbox_Fit x1 fun r9 =>
            (draymanref18_Fit x1 fun r10 =>
              (cond (r9 == r10)
                (inbox_Had x1 x3 fun r11 =>
                  (draymanref18_Had x1 x3 fun r12 =>
                    (cond (r11 == r12)
                      (draymanref18_Same r5 r7 fun r13 =>
                        (cond r13
                          (cond (r6 == r8)
                            (inbox_Same x1 x2 fun r14 =>
                              (draymanref18_Same x1 x2 fun r15 =>
                                (cond (r14 == r15)
                                  (inbox_New x3 fun r16 =>
                                    (draymanref18_Same r16 (x3, 0, (⟨true, 0, (fun _ => (0, ()))⟩ : Seq (Int × Unit)), ()) fun r17 =>
                                      (cond r17
                                        (draymanlaw18_awake fun r18 =>
                                          (k r18))
                                        (k false))))
                                  (k false))))
                            (k false))
                          (k false)))
                      (k false))))
                (k false)))))))
    (draymanlaw18_awake fun r19 =>
      (k r19)))

noncomputable def draymanlaw18_InboxTells {α : Type} : draymanlaw18_InboxTells_T α := draymanlaw18_InboxTells_g draymanlaw18_awake inbox_Mark draymanref18_Mark inbox_Fit draymanref18_Fit inbox_Had draymanref18_Had draymanref18_Same inbox_Same inbox_New

noncomputable def draymanlaw18_InboxTells_sp {α : Type} (draymanlaw18_InboxTells : draymanlaw18_InboxTells_T α) : FunSpec α := ⟨14, [.agg [.int .i64, .int .i64, .sl (.int .i64 (.nil))], .agg [.int .i64, .int .i64, .sl (.int .i64 (.nil))], .int .i64], [], fun ds k => draymanlaw18_InboxTells (hdI ds, hdI ds.tail, hdQ (.int .i64 (.nil)) ds.tail.tail, ()) (hdI ds.tail.tail.tail, hdI ds.tail.tail.tail.tail, hdQ (.int .i64 (.nil)) ds.tail.tail.tail.tail.tail, ()) (hdI ds.tail.tail.tail.tail.tail.tail) (fun r1 => k (enc dep (.bool) [.b r1]).1 [])⟩

noncomputable def draymanlaw18_InboxTells_spec {α : Type} : FunSpec α := draymanlaw18_InboxTells_sp draymanlaw18_InboxTells

noncomputable def draymanlaw18_InboxTells_C {α : Type} (draymanlaw18_awake : draymanlaw18_awake_T α) (inbox_Mark : inbox_Mark_T α) (draymanref18_Mark : draymanref18_Mark_T α) (inbox_Fit : inbox_Fit_T α) (draymanref18_Fit : draymanref18_Fit_T α) (inbox_Had : inbox_Had_T α) (draymanref18_Had : draymanref18_Had_T α) (draymanref18_Same : draymanref18_Same_T α) (inbox_Same : inbox_Same_T α) (inbox_New : inbox_New_T α) : List (FunSpec α) := [draymanlaw18_awake_sp draymanlaw18_awake, inbox_Mark_sp inbox_Mark, draymanref18_Mark_sp draymanref18_Mark, inbox_Fit_sp inbox_Fit, draymanref18_Fit_sp draymanref18_Fit, inbox_Had_sp inbox_Had, draymanref18_Had_sp draymanref18_Had, draymanref18_Same_sp draymanref18_Same, inbox_Same_sp inbox_Same, inbox_New_sp inbox_New]

noncomputable def draymanlaw18_InboxTells_q : FuncId → Bool := fun f => Nat.beq f 61 || Nat.beq f 63 || Nat.beq f 65 || Nat.beq f 67 || Nat.beq f 68 || Nat.beq f 69 || Nat.beq f 70

noncomputable def draymanlaw18_InboxTells_inl : FuncId → Bool := fun f => false

noncomputable def draymanlaw18_InboxTells_ann : FuncId → AnnT := fun f p => if f = 14 then (if p = [false, true, true, true, true] then ⟨[], [], [], [], 2, [], []⟩ else ⟨[], [], [], [], 0, [], []⟩) else ⟨[], [], [], [], 0, [], []⟩

noncomputable def draymanlaw18_InboxTells_loops {α : Type} (draymanlaw18_awake : draymanlaw18_awake_T α) (inbox_Mark : inbox_Mark_T α) (draymanref18_Mark : draymanref18_Mark_T α) (inbox_Fit : inbox_Fit_T α) (draymanref18_Fit : draymanref18_Fit_T α) (inbox_Had : inbox_Had_T α) (draymanref18_Had : draymanref18_Had_T α) (draymanref18_Same : draymanref18_Same_T α) (inbox_Same : inbox_Same_T α) (inbox_New : inbox_New_T α) : List (LoopSpec α) := []

theorem draymanlaw18_InboxTells_ev {α : Type} (draymanlaw18_awake : draymanlaw18_awake_T α) (inbox_Mark : inbox_Mark_T α) (draymanref18_Mark : draymanref18_Mark_T α) (inbox_Fit : inbox_Fit_T α) (draymanref18_Fit : draymanref18_Fit_T α) (inbox_Had : inbox_Had_T α) (draymanref18_Had : draymanref18_Had_T α) (draymanref18_Same : draymanref18_Same_T α) (inbox_Same : inbox_Same_T α) (inbox_New : inbox_New_T α) : EvOk (α := α) Go.Proofs.Try.prog (envOf (draymanlaw18_InboxTells_C draymanlaw18_awake inbox_Mark draymanref18_Mark inbox_Fit draymanref18_Fit inbox_Had draymanref18_Had draymanref18_Same inbox_Same inbox_New) draymanlaw18_InboxTells_q draymanlaw18_InboxTells_inl 1000 draymanlaw18_InboxTells_ann false (draymanlaw18_InboxTells_loops draymanlaw18_awake inbox_Mark draymanref18_Mark inbox_Fit draymanref18_Fit inbox_Had draymanref18_Had draymanref18_Same inbox_Same inbox_New) (fun _ => none)) 6 (draymanlaw18_InboxTells_sp (draymanlaw18_InboxTells_g draymanlaw18_awake inbox_Mark draymanref18_Mark inbox_Fit draymanref18_Fit inbox_Had draymanref18_Had draymanref18_Same inbox_Same inbox_New)) := by intro ds k; kernel_rfl

theorem draymanlaw18_InboxTells_ok {α : Type} : (draymanlaw18_InboxTells_spec : FunSpec α).ok Go.Proofs.Try.prog :=
  FunSpec.ok_of (sp := draymanlaw18_InboxTells_spec) (C := draymanlaw18_InboxTells_C draymanlaw18_awake inbox_Mark draymanref18_Mark inbox_Fit draymanref18_Fit inbox_Had draymanref18_Had draymanref18_Same inbox_Same inbox_New) (q := draymanlaw18_InboxTells_q) (inl := draymanlaw18_InboxTells_inl) (N := 1000) (ann := draymanlaw18_InboxTells_ann) (fr := false) (D := 6) (l := (draymanlaw18_InboxTells_loops draymanlaw18_awake inbox_Mark draymanref18_Mark inbox_Fit draymanref18_Fit inbox_Had draymanref18_Had draymanref18_Same inbox_Same inbox_New)) (hk := (fun _ => none)) (okCons draymanlaw18_awake_ok (okCons inbox_Mark_ok (okCons draymanref18_Mark_ok (okCons inbox_Fit_ok (okCons draymanref18_Fit_ok (okCons inbox_Had_ok (okCons draymanref18_Had_ok (okCons draymanref18_Same_ok (okCons inbox_Same_ok (okCons inbox_New_ok okNil)))))))))) lokNil noHooks (draymanlaw18_InboxTells_ev draymanlaw18_awake inbox_Mark draymanref18_Mark inbox_Fit draymanref18_Fit inbox_Had draymanref18_Had draymanref18_Same inbox_Same inbox_New)

end
end Go.Rv.Try
