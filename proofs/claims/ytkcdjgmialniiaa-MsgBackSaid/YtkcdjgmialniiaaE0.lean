/- What the functions of the program compute, each with the proof that its code computes it. Written by a program (rvp2.py). -/
import Derived.Test.YtkcdjgmialniiaaProg
import Derived.Test.YtkcdjgmialniiaaRvP
import Derived.Test.YtkcdjgmialniiaaFx
import Derived.Test.YtkcdjgmialniiaaHooks

namespace Go.Rv.Try
abbrev Z0 : Type := (Int × Int × Int × Bool × Int × Int × Bool × Unit)
end Go.Rv.Try
set_option linter.unusedVariables false
set_option maxRecDepth 100000
set_option maxHeartbeats 4000000
namespace Go.Rv.Try
open Go Go.Rv Go.RowKit
noncomputable section

-- drayman/msg.id

abbrev msg_id_T (α : Type) : Type := (Seq (Int × Unit)) → (Bool → Option α) → Option α

noncomputable def msg_id_l0_step {α : Type} (kr : (Bool) → Option α) (k0 : Option α) (rec : (Seq (Int × Unit)) → (Int) → (Int) → Option α) (x2 : Seq (Int × Unit)) (x3 : Int) (x4 : Int) : Option α :=
  (cond (decide (x4 < x3))
    (cond ((decide ((0 : Int) ≤ x4)) && (decide (x4 < (x2.n : Int))))
      (cond (!(decide ((x2.g x4.toNat).1 < 1)))
        (cond (decide ((x2.g x4.toNat).1 > 1099511627776))
          (kr false)
          (rec x2 x3 (IntKind.i64.wrap (x4 + 1))))
        (kr false))
      none)
    (k0))

noncomputable def msg_id_l0_run {α : Type} (kr : (Bool) → Option α) (k0 : Option α) : Nat → (Seq (Int × Unit)) → (Int) → (Int) → Option α
  | 0, _, _, _ => none
  | n + 1, x2, x3, x4 => msg_id_l0_step kr k0 (fun x2 x3 x4 => msg_id_l0_run kr k0 n x2 x3 x4) x2 x3 x4

noncomputable def msg_id {α : Type} (l1 : Seq (Int × Unit)) (k : Bool → Option α) : Option α :=
  (msg_id_l0_run
    (fun x5 =>
      (k x5))
    ((k true))
    1000 l1 (l1.n : Int) 0)

noncomputable def msg_id_sp {α : Type} (msg_id : msg_id_T α) : FunSpec α := ⟨102, [.sl (.int .i64 (.nil))], [], fun ds k => msg_id (hdQ (.int .i64 (.nil)) ds) (fun r1 => k (enc dep (.bool) [.b r1]).1 [])⟩

noncomputable def msg_id_spec {α : Type} : FunSpec α := msg_id_sp msg_id

noncomputable def msg_id_C {α : Type} : List (FunSpec α) := []

noncomputable def msg_id_q : FuncId → Bool := fun f => false

noncomputable def msg_id_inl : FuncId → Bool := fun f => false

noncomputable def msg_id_ann : FuncId → AnnT := fun f p => if f = 102 then (if p = [true, false, true] then ⟨[5, 6, 7], [], [], [2], 0, [], [], none⟩ else ⟨[], [], [], [], 0, [], [], none⟩) else ⟨[], [], [], [], 0, [], [], none⟩

noncomputable def msg_id_l0_t : List Sh := [.dead, .dead, .dead, .dead, .dead, .sl (.int .i64 (.nil)), .int .i64, .int .i64, .dead, .dead, .dead, .dead, .dead, .dead, .dead, .dead, .dead, .dead]
noncomputable def msg_id_l0_s : List (List Sh) := []
noncomputable def msg_id_l0_h : List BSh := []

noncomputable def msg_id_l0_spec {α : Type} : LoopSpec α := ⟨6, 102, [true, false, true], msg_id_l0_t, msg_id_l0_s, msg_id_l0_h, fun ds k => msg_id_l0_run (fun y1 => k .ret (encSt [.dead, .dead, .bool, .dead, .dead, .dead, .dead, .dead, .dead, .dead, .dead, .dead, .dead, .dead, .dead, .dead, .dead, .dead] [] [] [.b y1])) (k (.exit 0) (encSt [.dead, .dead, .dead, .dead, .dead, .dead, .dead, .dead, .dead, .dead, .dead, .dead, .dead, .dead, .dead, .dead, .dead, .dead] [] [] [])) 1000 (hdQ (.int .i64 (.nil)) ds) (hdI ds.tail) (hdI ds.tail.tail)⟩

noncomputable def msg_id_loops {α : Type} : List (LoopSpec α) := [msg_id_l0_spec]

noncomputable def msg_id_l0_ev {α : Type} (n : Nat) (st : St) (k : X → St → Option α) : Option α := loopN (evCode Go.Proofs.Try.prog (callD Go.Proofs.Try.prog (envOf (msg_id_C) msg_id_q msg_id_inl 1000 msg_id_ann false (msg_id_loops) (fun _ => none)) 6) (((envOf (msg_id_C) msg_id_q msg_id_inl 1000 msg_id_ann false (msg_id_loops) (fun _ => none)) : Env α).L 6 102) 1000 (msg_id_ann 102) (false :: [true, false, true]) (loopC Go.Proofs.Try.prog 102 [true, false, true])) ((msg_id_ann 102 [true, false, true]).head 0) ((msg_id_ann 102 [true, false, true]).leave 0) n st k

theorem msg_id_l0_eq {α : Type} : ∀ (n : Nat) (x2 : Seq (Int × Unit)) (x3 : Int) (x4 : Int) (k : X → St → Option α), msg_id_l0_ev n (encSt msg_id_l0_t msg_id_l0_s msg_id_l0_h [.q (.int .i64 (.nil)) x2, .i x3, .i x4]) k = msg_id_l0_run (fun y1 => k .ret (encSt [.dead, .dead, .bool, .dead, .dead, .dead, .dead, .dead, .dead, .dead, .dead, .dead, .dead, .dead, .dead, .dead, .dead, .dead] [] [] [.b y1])) (k (.exit 0) (encSt [.dead, .dead, .dead, .dead, .dead, .dead, .dead, .dead, .dead, .dead, .dead, .dead, .dead, .dead, .dead, .dead, .dead, .dead] [] [] [])) n x2 x3 x4 := by
  intro n
  induction n with
  | zero => intros; kernel_rfl
  | succ n ih =>
    intro x2 x3 x4 k
    have e : (fun (x2 : Seq (Int × Unit)) (x3 : Int) (x4 : Int) => msg_id_l0_ev n (encSt msg_id_l0_t msg_id_l0_s msg_id_l0_h [.q (.int .i64 (.nil)) x2, .i x3, .i x4]) k) = (fun (x2 : Seq (Int × Unit)) (x3 : Int) (x4 : Int) => msg_id_l0_run (fun y1 => k .ret (encSt [.dead, .dead, .bool, .dead, .dead, .dead, .dead, .dead, .dead, .dead, .dead, .dead, .dead, .dead, .dead, .dead, .dead, .dead] [] [] [.b y1])) (k (.exit 0) (encSt [.dead, .dead, .dead, .dead, .dead, .dead, .dead, .dead, .dead, .dead, .dead, .dead, .dead, .dead, .dead, .dead, .dead, .dead] [] [] [])) n x2 x3 x4) := by
      funext x2 x3 x4
      exact ih x2 x3 x4 k
    have h1 : msg_id_l0_ev (n + 1) (encSt msg_id_l0_t msg_id_l0_s msg_id_l0_h [.q (.int .i64 (.nil)) x2, .i x3, .i x4]) k = msg_id_l0_step (fun y1 => k .ret (encSt [.dead, .dead, .bool, .dead, .dead, .dead, .dead, .dead, .dead, .dead, .dead, .dead, .dead, .dead, .dead, .dead, .dead, .dead] [] [] [.b y1])) (k (.exit 0) (encSt [.dead, .dead, .dead, .dead, .dead, .dead, .dead, .dead, .dead, .dead, .dead, .dead, .dead, .dead, .dead, .dead, .dead, .dead] [] [] [])) (fun (x2 : Seq (Int × Unit)) (x3 : Int) (x4 : Int) => msg_id_l0_ev n (encSt msg_id_l0_t msg_id_l0_s msg_id_l0_h [.q (.int .i64 (.nil)) x2, .i x3, .i x4]) k) x2 x3 x4 := by kernel_rfl
    have h2 := congrArg (fun r => msg_id_l0_step (fun y1 => k .ret (encSt [.dead, .dead, .bool, .dead, .dead, .dead, .dead, .dead, .dead, .dead, .dead, .dead, .dead, .dead, .dead, .dead, .dead, .dead] [] [] [.b y1])) (k (.exit 0) (encSt [.dead, .dead, .dead, .dead, .dead, .dead, .dead, .dead, .dead, .dead, .dead, .dead, .dead, .dead, .dead, .dead, .dead, .dead] [] [] [])) r x2 x3 x4) e
    have h3 : msg_id_l0_step (fun y1 => k .ret (encSt [.dead, .dead, .bool, .dead, .dead, .dead, .dead, .dead, .dead, .dead, .dead, .dead, .dead, .dead, .dead, .dead, .dead, .dead] [] [] [.b y1])) (k (.exit 0) (encSt [.dead, .dead, .dead, .dead, .dead, .dead, .dead, .dead, .dead, .dead, .dead, .dead, .dead, .dead, .dead, .dead, .dead, .dead] [] [] [])) (fun (x2 : Seq (Int × Unit)) (x3 : Int) (x4 : Int) => msg_id_l0_run (fun y1 => k .ret (encSt [.dead, .dead, .bool, .dead, .dead, .dead, .dead, .dead, .dead, .dead, .dead, .dead, .dead, .dead, .dead, .dead, .dead, .dead] [] [] [.b y1])) (k (.exit 0) (encSt [.dead, .dead, .dead, .dead, .dead, .dead, .dead, .dead, .dead, .dead, .dead, .dead, .dead, .dead, .dead, .dead, .dead, .dead] [] [] [])) n x2 x3 x4) x2 x3 x4 = msg_id_l0_run (fun y1 => k .ret (encSt [.dead, .dead, .bool, .dead, .dead, .dead, .dead, .dead, .dead, .dead, .dead, .dead, .dead, .dead, .dead, .dead, .dead, .dead] [] [] [.b y1])) (k (.exit 0) (encSt [.dead, .dead, .dead, .dead, .dead, .dead, .dead, .dead, .dead, .dead, .dead, .dead, .dead, .dead, .dead, .dead, .dead, .dead] [] [] [])) (n + 1) x2 x3 x4 := by kernel_rfl
    exact h1.trans (h2.trans h3)

theorem msg_id_l0_ok {α : Type} : (msg_id_l0_spec : LoopSpec α).ok Go.Proofs.Try.prog (envOf (msg_id_C) msg_id_q msg_id_inl 1000 msg_id_ann false (msg_id_loops) (fun _ => none)) := by
  intro ds k
  have h1 : msg_id_l0_ev 1000 (encSt msg_id_l0_t msg_id_l0_s msg_id_l0_h ds) k = msg_id_l0_ev 1000 (encSt msg_id_l0_t msg_id_l0_s msg_id_l0_h [.q (.int .i64 (.nil)) (hdQ (.int .i64 (.nil)) ds), .i (hdI ds.tail), .i (hdI ds.tail.tail)]) k := by kernel_rfl
  have h2 := msg_id_l0_eq 1000 (hdQ (.int .i64 (.nil)) ds) (hdI ds.tail) (hdI ds.tail.tail) k
  exact h1.trans h2

theorem msg_id_ev {α : Type} : EvOk (α := α) Go.Proofs.Try.prog (envOf (msg_id_C) msg_id_q msg_id_inl 1000 msg_id_ann false (msg_id_loops) (fun _ => none)) 6 (msg_id_sp (msg_id)) := by intro ds k; kernel_rfl

theorem msg_id_ok {α : Type} : (msg_id_spec : FunSpec α).ok Go.Proofs.Try.prog :=
  FunSpec.ok_of (sp := msg_id_spec) (C := msg_id_C) (q := msg_id_q) (inl := msg_id_inl) (N := 1000) (ann := msg_id_ann) (fr := false) (D := 6) (l := (msg_id_loops)) (hk := (fun _ => none)) okNil (lokCons (msg_id_l0_ok) lokNil) noHooks (msg_id_ev)

end
end Go.Rv.Try

set_option linter.unusedVariables false
set_option maxRecDepth 100000
set_option maxHeartbeats 4000000
namespace Go.Rv.Try
open Go Go.Rv Go.RowKit
noncomputable section

-- drayman/outbox.id

abbrev outbox_id_T (α : Type) : Type := Int → (Bool → Option α) → Option α

noncomputable def outbox_id {α : Type} (n1 : Int) (k : Bool → Option α) : Option α :=
  (cond (decide ((1 : Int) ≤ n1))
    (k (decide (n1 ≤ 1099511627776)))
    (k false))

noncomputable def outbox_id_sp {α : Type} (outbox_id : outbox_id_T α) : FunSpec α := ⟨145, [.int .i64], [], fun ds k => outbox_id (hdI ds) (fun r1 => k (enc dep (.bool) [.b r1]).1 [])⟩

noncomputable def outbox_id_spec {α : Type} : FunSpec α := outbox_id_sp outbox_id

noncomputable def outbox_id_C {α : Type} : List (FunSpec α) := []

noncomputable def outbox_id_q : FuncId → Bool := fun f => false

noncomputable def outbox_id_inl : FuncId → Bool := fun f => false

noncomputable def outbox_id_ann : FuncId → AnnT := fun f p => ⟨[], [], [], [], 0, [], [], none⟩

noncomputable def outbox_id_loops {α : Type} : List (LoopSpec α) := []

theorem outbox_id_ev {α : Type} : EvOk (α := α) Go.Proofs.Try.prog (envOf (outbox_id_C) outbox_id_q outbox_id_inl 1000 outbox_id_ann false (outbox_id_loops) (fun _ => none)) 6 (outbox_id_sp (outbox_id)) := by intro ds k; kernel_rfl

theorem outbox_id_ok {α : Type} : (outbox_id_spec : FunSpec α).ok Go.Proofs.Try.prog :=
  FunSpec.ok_of (sp := outbox_id_spec) (C := outbox_id_C) (q := outbox_id_q) (inl := outbox_id_inl) (N := 1000) (ann := outbox_id_ann) (fr := false) (D := 6) (l := (outbox_id_loops)) (hk := (fun _ => none)) okNil lokNil noHooks (outbox_id_ev)

end
end Go.Rv.Try

set_option linter.unusedVariables false
set_option maxRecDepth 100000
set_option maxHeartbeats 4000000
namespace Go.Rv.Try
open Go Go.Rv Go.RowKit
noncomputable section

-- drayman/outbox.Service

abbrev outbox_Service_T (α : Type) : Type := Int → (Int → Option α) → Option α

noncomputable def outbox_Service {α : Type} (op1 : Int) (k : Int → Option α) : Option α :=
  (cond (op1 == 2)
    (cond (op1 == 2)
      (k 1)
      (cond (op1 == 4)
        (k 2)
        (k 0)))
    (cond (op1 == 6)
      (k 1)
      (cond (op1 == 4)
        (k 2)
        (k 0))))

noncomputable def outbox_Service_sp {α : Type} (outbox_Service : outbox_Service_T α) : FunSpec α := ⟨81, [.int .i64], [], fun ds k => outbox_Service (hdI ds) (fun r1 => k (enc dep (.int .i64) [.i r1]).1 [])⟩

noncomputable def outbox_Service_spec {α : Type} : FunSpec α := outbox_Service_sp outbox_Service

noncomputable def outbox_Service_C {α : Type} : List (FunSpec α) := []

noncomputable def outbox_Service_q : FuncId → Bool := fun f => false

noncomputable def outbox_Service_inl : FuncId → Bool := fun f => false

noncomputable def outbox_Service_ann : FuncId → AnnT := fun f p => ⟨[], [], [], [], 0, [], [], none⟩

noncomputable def outbox_Service_loops {α : Type} : List (LoopSpec α) := []

theorem outbox_Service_ev {α : Type} : EvOk (α := α) Go.Proofs.Try.prog (envOf (outbox_Service_C) outbox_Service_q outbox_Service_inl 1000 outbox_Service_ann false (outbox_Service_loops) (fun _ => none)) 6 (outbox_Service_sp (outbox_Service)) := by intro ds k; kernel_rfl

theorem outbox_Service_ok {α : Type} : (outbox_Service_spec : FunSpec α).ok Go.Proofs.Try.prog :=
  FunSpec.ok_of (sp := outbox_Service_spec) (C := outbox_Service_C) (q := outbox_Service_q) (inl := outbox_Service_inl) (N := 1000) (ann := outbox_Service_ann) (fr := false) (D := 6) (l := (outbox_Service_loops)) (hk := (fun _ => none)) okNil lokNil noHooks (outbox_Service_ev)

end
end Go.Rv.Try

set_option linter.unusedVariables false
set_option maxRecDepth 100000
set_option maxHeartbeats 4000000
namespace Go.Rv.Try
open Go Go.Rv Go.RowKit
noncomputable section

-- drayman/num.Fit

abbrev num_Fit_T (α : Type) : Type := Int → (Bool → Option α) → Option α

noncomputable def num_Fit {α : Type} (n1 : Int) (k : Bool → Option α) : Option α :=
  (cond (decide (n1 ≥ 0))
    (k (decide (n1 ≤ 1099511627776)))
    (k false))

noncomputable def num_Fit_sp {α : Type} (num_Fit : num_Fit_T α) : FunSpec α := ⟨124, [.int .i64], [], fun ds k => num_Fit (hdI ds) (fun r1 => k (enc dep (.bool) [.b r1]).1 [])⟩

noncomputable def num_Fit_spec {α : Type} : FunSpec α := num_Fit_sp num_Fit

noncomputable def num_Fit_C {α : Type} : List (FunSpec α) := []

noncomputable def num_Fit_q : FuncId → Bool := fun f => false

noncomputable def num_Fit_inl : FuncId → Bool := fun f => false

noncomputable def num_Fit_ann : FuncId → AnnT := fun f p => ⟨[], [], [], [], 0, [], [], none⟩

noncomputable def num_Fit_loops {α : Type} : List (LoopSpec α) := []

theorem num_Fit_ev {α : Type} : EvOk (α := α) Go.Proofs.Try.prog (envOf (num_Fit_C) num_Fit_q num_Fit_inl 1000 num_Fit_ann false (num_Fit_loops) (fun _ => none)) 6 (num_Fit_sp (num_Fit)) := by intro ds k; kernel_rfl

theorem num_Fit_ok {α : Type} : (num_Fit_spec : FunSpec α).ok Go.Proofs.Try.prog :=
  FunSpec.ok_of (sp := num_Fit_spec) (C := num_Fit_C) (q := num_Fit_q) (inl := num_Fit_inl) (N := 1000) (ann := num_Fit_ann) (fr := false) (D := 6) (l := (num_Fit_loops)) (hk := (fun _ => none)) okNil lokNil noHooks (num_Fit_ev)

end
end Go.Rv.Try

set_option linter.unusedVariables false
set_option maxRecDepth 100000
set_option maxHeartbeats 4000000
namespace Go.Rv.Try
open Go Go.Rv Go.RowKit
noncomputable section

-- drayman/outbox.one

abbrev outbox_one_T (α : Type) : Type := Z0 → (Bool → Option α) → Option α

noncomputable def outbox_one_g {α : Type} (outbox_id : outbox_id_T α) (outbox_Service : outbox_Service_T α) (num_Fit : num_Fit_T α) (x1 : Int × Int × Int × Bool × Int × Int × Bool × Unit) (k : Bool → Option α) : Option α :=
  (outbox_id x1.1 fun r2 =>
    (cond r2
      (outbox_id x1.2.1 fun r3 =>
        (cond r3
          (cond (decide ((0 : Int) ≤ x1.2.2.1))
            (cond (decide (x1.2.2.1 < 6))
              (outbox_Service x1.2.2.2.2.1 fun r4 =>
                (cond (r4 != 0)
                  (num_Fit x1.2.2.2.2.2.1 fun r5 =>
                    (k r5))
                  (k false)))
              (k false))
            (k false))
          (k false)))
      (k false)))

noncomputable def outbox_one {α : Type} : outbox_one_T α := outbox_one_g outbox_id outbox_Service num_Fit

noncomputable def outbox_one_sp {α : Type} (outbox_one : outbox_one_T α) : FunSpec α := ⟨133, [.agg [.int .i64, .int .i64, .int .i64, .bool, .int .i64, .int .i64, .bool]], [], fun ds k => outbox_one (hdI ds, hdI ds.tail, hdI ds.tail.tail, hdB ds.tail.tail.tail, hdI ds.tail.tail.tail.tail, hdI ds.tail.tail.tail.tail.tail, hdB ds.tail.tail.tail.tail.tail.tail, ()) (fun r1 => k (enc dep (.bool) [.b r1]).1 [])⟩

noncomputable def outbox_one_spec {α : Type} : FunSpec α := outbox_one_sp outbox_one

noncomputable def outbox_one_C {α : Type} (outbox_id : outbox_id_T α) (outbox_Service : outbox_Service_T α) (num_Fit : num_Fit_T α) : List (FunSpec α) := [outbox_id_sp outbox_id, outbox_Service_sp outbox_Service, num_Fit_sp num_Fit]

noncomputable def outbox_one_q : FuncId → Bool := fun f => Nat.beq f 81 || Nat.beq f 124 || Nat.beq f 145

noncomputable def outbox_one_inl : FuncId → Bool := fun f => false

noncomputable def outbox_one_ann : FuncId → AnnT := fun f p => ⟨[], [], [], [], 0, [], [], none⟩

noncomputable def outbox_one_loops {α : Type} (outbox_id : outbox_id_T α) (outbox_Service : outbox_Service_T α) (num_Fit : num_Fit_T α) : List (LoopSpec α) := []

theorem outbox_one_ev {α : Type} (outbox_id : outbox_id_T α) (outbox_Service : outbox_Service_T α) (num_Fit : num_Fit_T α) : EvOk (α := α) Go.Proofs.Try.prog (envOf (outbox_one_C outbox_id outbox_Service num_Fit) outbox_one_q outbox_one_inl 1000 outbox_one_ann false (outbox_one_loops outbox_id outbox_Service num_Fit) (fun _ => none)) 6 (outbox_one_sp (outbox_one_g outbox_id outbox_Service num_Fit)) := by intro ds k; kernel_rfl

theorem outbox_one_ok {α : Type} : (outbox_one_spec : FunSpec α).ok Go.Proofs.Try.prog :=
  FunSpec.ok_of (sp := outbox_one_spec) (C := outbox_one_C outbox_id outbox_Service num_Fit) (q := outbox_one_q) (inl := outbox_one_inl) (N := 1000) (ann := outbox_one_ann) (fr := false) (D := 6) (l := (outbox_one_loops outbox_id outbox_Service num_Fit)) (hk := (fun _ => none)) (okCons outbox_id_ok (okCons outbox_Service_ok (okCons num_Fit_ok okNil))) lokNil noHooks (outbox_one_ev outbox_id outbox_Service num_Fit)

end
end Go.Rv.Try

set_option linter.unusedVariables false
set_option maxRecDepth 100000
set_option maxHeartbeats 4000000
namespace Go.Rv.Try
open Go Go.Rv Go.RowKit
noncomputable section

-- drayman/outbox.Fit

abbrev outbox_Fit_T (α : Type) : Type := (Seq Z0) → (Bool → Option α) → Option α

noncomputable def outbox_Fit_l0_step {α : Type} (outbox_one : outbox_one_T α) (kr : (Bool) → (List ((Int × Unit) × (Bool × Unit))) → Option α) (k0 : (Seq Z0) → (List ((Int × Unit) × (Bool × Unit))) → Option α) (rec : (Seq Z0) → (Int) → (Seq Z0) → (Int) → (Int) → (List ((Int × Unit) × (Bool × Unit))) → Option α) (l2 : Seq Z0) (last3 : Int) (x4 : Seq Z0) (x5 : Int) (x6 : Int) (m7 : List ((Int × Unit) × (Bool × Unit))) : Option α :=
  (cond (decide (x6 < x5))
    (cond ((decide ((0 : Int) ≤ x6)) && (decide (x6 < (x4.n : Int))))
      (outbox_one (x4.g x6.toNat) fun r8 =>
        (cond (!(!r8))
          (cond (!(decide ((x4.g x6.toNat).1 ≤ last3)))
            (cond (mGetD (.int .i64 (.nil)) m7 ((x4.g x6.toNat).2.1, ()) (false, ())).1
              (kr false m7)
              (rec l2 ((x4.g x6.toNat).1) x4 x5 (IntKind.i64.wrap (x6 + 1)) (mPut (.int .i64 (.nil)) m7 ((x4.g x6.toNat).2.1, ()) (true, ()))))
            (kr false m7))
          (kr false m7)))
      none)
    (k0 l2 m7))

noncomputable def outbox_Fit_l0_run {α : Type} (outbox_one : outbox_one_T α) (kr : (Bool) → (List ((Int × Unit) × (Bool × Unit))) → Option α) (k0 : (Seq Z0) → (List ((Int × Unit) × (Bool × Unit))) → Option α) : Nat → (Seq Z0) → (Int) → (Seq Z0) → (Int) → (Int) → (List ((Int × Unit) × (Bool × Unit))) → Option α
  | 0, _, _, _, _, _, _ => none
  | n + 1, l2, last3, x4, x5, x6, m7 => outbox_Fit_l0_step outbox_one kr k0 (fun l2 last3 x4 x5 x6 m7 => outbox_Fit_l0_run outbox_one kr k0 n l2 last3 x4 x5 x6 m7) l2 last3 x4 x5 x6 m7

noncomputable def outbox_Fit_g {α : Type} (outbox_one : outbox_one_T α) (l1 : Seq Z0) (k : Bool → Option α) : Option α :=
  (outbox_Fit_l0_run outbox_one
    (fun x9 m10 =>
      (k x9))
    (fun x11 m12 =>
      (k (decide ((x11.n : Int) ≤ 16))))
    1000 l1 0 l1 (l1.n : Int) 0 ([] : List ((Int × Unit) × (Bool × Unit))))

noncomputable def outbox_Fit {α : Type} : outbox_Fit_T α := outbox_Fit_g outbox_one

noncomputable def outbox_Fit_sp {α : Type} (outbox_Fit : outbox_Fit_T α) : FunSpec α := ⟨103, [.sl (.int .i64 (.int .i64 (.int .i64 (.bool (.int .i64 (.int .i64 (.bool (.nil))))))))], [], fun ds k => outbox_Fit (hdQ (.int .i64 (.int .i64 (.int .i64 (.bool (.int .i64 (.int .i64 (.bool (.nil)))))))) ds) (fun r1 => k (enc dep (.bool) [.b r1]).1 [])⟩

noncomputable def outbox_Fit_spec {α : Type} : FunSpec α := outbox_Fit_sp outbox_Fit

noncomputable def outbox_Fit_C {α : Type} (outbox_one : outbox_one_T α) : List (FunSpec α) := [outbox_one_sp outbox_one]

noncomputable def outbox_Fit_q : FuncId → Bool := fun f => Nat.beq f 133

noncomputable def outbox_Fit_inl : FuncId → Bool := fun f => false

noncomputable def outbox_Fit_ann : FuncId → AnnT := fun f p => if f = 103 then (if p = [true, false, true, true, true] then ⟨[0, 3, 4, 8, 9, 10], [], [0], [2], 0, [], [], none⟩ else if p = [true, true, false, true, true, false, true, false, true, true, true] then ⟨[], [0], [], [], 2, [], [], none⟩ else ⟨[], [], [], [], 0, [], [], none⟩) else ⟨[], [], [], [], 0, [], [], none⟩

noncomputable def outbox_Fit_l0_t : List Sh := [.sl (.int .i64 (.int .i64 (.int .i64 (.bool (.int .i64 (.int .i64 (.bool (.nil)))))))), .dead, .dead, .int .i64, .mp 0, .dead, .dead, .dead, .sl (.int .i64 (.int .i64 (.int .i64 (.bool (.int .i64 (.int .i64 (.bool (.nil)))))))), .int .i64, .int .i64, .dead, .dead, .dead, .dead, .dead, .dead, .dead, .dead, .dead, .dead, .dead, .dead, .dead, .dead, .dead, .dead, .dead, .dead, .dead, .dead, .dead, .dead, .dead, .dead, .dead, .dead, .dead]
noncomputable def outbox_Fit_l0_s : List (List Sh) := []
noncomputable def outbox_Fit_l0_h : List BSh := [.mp false false (.int .i64 (.nil)) (.bool (.nil))]

noncomputable def outbox_Fit_l0_spec {α : Type} (outbox_one : outbox_one_T α) : LoopSpec α := ⟨6, 103, [true, false, true, true, true], outbox_Fit_l0_t, outbox_Fit_l0_s, outbox_Fit_l0_h, fun ds k => outbox_Fit_l0_run outbox_one (fun y1 y2 => k .ret (encSt [.dead, .dead, .bool, .dead, .dead, .dead, .dead, .dead, .dead, .dead, .dead, .dead, .dead, .dead, .dead, .dead, .dead, .dead, .dead, .dead, .dead, .dead, .dead, .dead, .dead, .dead, .dead, .dead, .dead, .dead, .dead, .dead, .dead, .dead, .dead, .dead, .dead, .dead] [] [.mp false false (.int .i64 (.nil)) (.bool (.nil))] [.b y1, .m (.int .i64 (.nil)) (.bool (.nil)) y2])) (fun y1 y2 => k (.exit 0) (encSt [.sl (.int .i64 (.int .i64 (.int .i64 (.bool (.int .i64 (.int .i64 (.bool (.nil)))))))), .dead, .dead, .dead, .dead, .dead, .dead, .dead, .dead, .dead, .dead, .dead, .dead, .dead, .dead, .dead, .dead, .dead, .dead, .dead, .dead, .dead, .dead, .dead, .dead, .dead, .dead, .dead, .dead, .dead, .dead, .dead, .dead, .dead, .dead, .dead, .dead, .dead] [] [.mp false false (.int .i64 (.nil)) (.bool (.nil))] [.q (.int .i64 (.int .i64 (.int .i64 (.bool (.int .i64 (.int .i64 (.bool (.nil)))))))) y1, .m (.int .i64 (.nil)) (.bool (.nil)) y2])) 1000 (hdQ (.int .i64 (.int .i64 (.int .i64 (.bool (.int .i64 (.int .i64 (.bool (.nil)))))))) ds) (hdI ds.tail) (hdQ (.int .i64 (.int .i64 (.int .i64 (.bool (.int .i64 (.int .i64 (.bool (.nil)))))))) ds.tail.tail) (hdI ds.tail.tail.tail) (hdI ds.tail.tail.tail.tail) (hdM (.int .i64 (.nil)) (.bool (.nil)) ds.tail.tail.tail.tail.tail)⟩

noncomputable def outbox_Fit_loops {α : Type} (outbox_one : outbox_one_T α) : List (LoopSpec α) := [outbox_Fit_l0_spec outbox_one]

noncomputable def outbox_Fit_l0_ev {α : Type} (outbox_one : outbox_one_T α) (n : Nat) (st : St) (k : X → St → Option α) : Option α := loopN (evCode Go.Proofs.Try.prog (callD Go.Proofs.Try.prog (envOf (outbox_Fit_C outbox_one) outbox_Fit_q outbox_Fit_inl 1000 outbox_Fit_ann false (outbox_Fit_loops outbox_one) (fun _ => none)) 6) (((envOf (outbox_Fit_C outbox_one) outbox_Fit_q outbox_Fit_inl 1000 outbox_Fit_ann false (outbox_Fit_loops outbox_one) (fun _ => none)) : Env α).L 6 103) 1000 (outbox_Fit_ann 103) (false :: [true, false, true, true, true]) (loopC Go.Proofs.Try.prog 103 [true, false, true, true, true])) ((outbox_Fit_ann 103 [true, false, true, true, true]).head 1) ((outbox_Fit_ann 103 [true, false, true, true, true]).leave 1) n st k

theorem outbox_Fit_l0_eq {α : Type} (outbox_one : outbox_one_T α) : ∀ (n : Nat) (l2 : Seq Z0) (last3 : Int) (x4 : Seq Z0) (x5 : Int) (x6 : Int) (m7 : List ((Int × Unit) × (Bool × Unit))) (k : X → St → Option α), outbox_Fit_l0_ev outbox_one n (encSt outbox_Fit_l0_t outbox_Fit_l0_s outbox_Fit_l0_h [.q (.int .i64 (.int .i64 (.int .i64 (.bool (.int .i64 (.int .i64 (.bool (.nil)))))))) l2, .i last3, .q (.int .i64 (.int .i64 (.int .i64 (.bool (.int .i64 (.int .i64 (.bool (.nil)))))))) x4, .i x5, .i x6, .m (.int .i64 (.nil)) (.bool (.nil)) m7]) k = outbox_Fit_l0_run outbox_one (fun y1 y2 => k .ret (encSt [.dead, .dead, .bool, .dead, .dead, .dead, .dead, .dead, .dead, .dead, .dead, .dead, .dead, .dead, .dead, .dead, .dead, .dead, .dead, .dead, .dead, .dead, .dead, .dead, .dead, .dead, .dead, .dead, .dead, .dead, .dead, .dead, .dead, .dead, .dead, .dead, .dead, .dead] [] [.mp false false (.int .i64 (.nil)) (.bool (.nil))] [.b y1, .m (.int .i64 (.nil)) (.bool (.nil)) y2])) (fun y1 y2 => k (.exit 0) (encSt [.sl (.int .i64 (.int .i64 (.int .i64 (.bool (.int .i64 (.int .i64 (.bool (.nil)))))))), .dead, .dead, .dead, .dead, .dead, .dead, .dead, .dead, .dead, .dead, .dead, .dead, .dead, .dead, .dead, .dead, .dead, .dead, .dead, .dead, .dead, .dead, .dead, .dead, .dead, .dead, .dead, .dead, .dead, .dead, .dead, .dead, .dead, .dead, .dead, .dead, .dead] [] [.mp false false (.int .i64 (.nil)) (.bool (.nil))] [.q (.int .i64 (.int .i64 (.int .i64 (.bool (.int .i64 (.int .i64 (.bool (.nil)))))))) y1, .m (.int .i64 (.nil)) (.bool (.nil)) y2])) n l2 last3 x4 x5 x6 m7 := by
  intro n
  induction n with
  | zero => intros; kernel_rfl
  | succ n ih =>
    intro l2 last3 x4 x5 x6 m7 k
    have e : (fun (l2 : Seq Z0) (last3 : Int) (x4 : Seq Z0) (x5 : Int) (x6 : Int) (m7 : List ((Int × Unit) × (Bool × Unit))) => outbox_Fit_l0_ev outbox_one n (encSt outbox_Fit_l0_t outbox_Fit_l0_s outbox_Fit_l0_h [.q (.int .i64 (.int .i64 (.int .i64 (.bool (.int .i64 (.int .i64 (.bool (.nil)))))))) l2, .i last3, .q (.int .i64 (.int .i64 (.int .i64 (.bool (.int .i64 (.int .i64 (.bool (.nil)))))))) x4, .i x5, .i x6, .m (.int .i64 (.nil)) (.bool (.nil)) m7]) k) = (fun (l2 : Seq Z0) (last3 : Int) (x4 : Seq Z0) (x5 : Int) (x6 : Int) (m7 : List ((Int × Unit) × (Bool × Unit))) => outbox_Fit_l0_run outbox_one (fun y1 y2 => k .ret (encSt [.dead, .dead, .bool, .dead, .dead, .dead, .dead, .dead, .dead, .dead, .dead, .dead, .dead, .dead, .dead, .dead, .dead, .dead, .dead, .dead, .dead, .dead, .dead, .dead, .dead, .dead, .dead, .dead, .dead, .dead, .dead, .dead, .dead, .dead, .dead, .dead, .dead, .dead] [] [.mp false false (.int .i64 (.nil)) (.bool (.nil))] [.b y1, .m (.int .i64 (.nil)) (.bool (.nil)) y2])) (fun y1 y2 => k (.exit 0) (encSt [.sl (.int .i64 (.int .i64 (.int .i64 (.bool (.int .i64 (.int .i64 (.bool (.nil)))))))), .dead, .dead, .dead, .dead, .dead, .dead, .dead, .dead, .dead, .dead, .dead, .dead, .dead, .dead, .dead, .dead, .dead, .dead, .dead, .dead, .dead, .dead, .dead, .dead, .dead, .dead, .dead, .dead, .dead, .dead, .dead, .dead, .dead, .dead, .dead, .dead, .dead] [] [.mp false false (.int .i64 (.nil)) (.bool (.nil))] [.q (.int .i64 (.int .i64 (.int .i64 (.bool (.int .i64 (.int .i64 (.bool (.nil)))))))) y1, .m (.int .i64 (.nil)) (.bool (.nil)) y2])) n l2 last3 x4 x5 x6 m7) := by
      funext l2 last3 x4 x5 x6 m7
      exact ih l2 last3 x4 x5 x6 m7 k
    have h1 : outbox_Fit_l0_ev outbox_one (n + 1) (encSt outbox_Fit_l0_t outbox_Fit_l0_s outbox_Fit_l0_h [.q (.int .i64 (.int .i64 (.int .i64 (.bool (.int .i64 (.int .i64 (.bool (.nil)))))))) l2, .i last3, .q (.int .i64 (.int .i64 (.int .i64 (.bool (.int .i64 (.int .i64 (.bool (.nil)))))))) x4, .i x5, .i x6, .m (.int .i64 (.nil)) (.bool (.nil)) m7]) k = outbox_Fit_l0_step outbox_one (fun y1 y2 => k .ret (encSt [.dead, .dead, .bool, .dead, .dead, .dead, .dead, .dead, .dead, .dead, .dead, .dead, .dead, .dead, .dead, .dead, .dead, .dead, .dead, .dead, .dead, .dead, .dead, .dead, .dead, .dead, .dead, .dead, .dead, .dead, .dead, .dead, .dead, .dead, .dead, .dead, .dead, .dead] [] [.mp false false (.int .i64 (.nil)) (.bool (.nil))] [.b y1, .m (.int .i64 (.nil)) (.bool (.nil)) y2])) (fun y1 y2 => k (.exit 0) (encSt [.sl (.int .i64 (.int .i64 (.int .i64 (.bool (.int .i64 (.int .i64 (.bool (.nil)))))))), .dead, .dead, .dead, .dead, .dead, .dead, .dead, .dead, .dead, .dead, .dead, .dead, .dead, .dead, .dead, .dead, .dead, .dead, .dead, .dead, .dead, .dead, .dead, .dead, .dead, .dead, .dead, .dead, .dead, .dead, .dead, .dead, .dead, .dead, .dead, .dead, .dead] [] [.mp false false (.int .i64 (.nil)) (.bool (.nil))] [.q (.int .i64 (.int .i64 (.int .i64 (.bool (.int .i64 (.int .i64 (.bool (.nil)))))))) y1, .m (.int .i64 (.nil)) (.bool (.nil)) y2])) (fun (l2 : Seq Z0) (last3 : Int) (x4 : Seq Z0) (x5 : Int) (x6 : Int) (m7 : List ((Int × Unit) × (Bool × Unit))) => outbox_Fit_l0_ev outbox_one n (encSt outbox_Fit_l0_t outbox_Fit_l0_s outbox_Fit_l0_h [.q (.int .i64 (.int .i64 (.int .i64 (.bool (.int .i64 (.int .i64 (.bool (.nil)))))))) l2, .i last3, .q (.int .i64 (.int .i64 (.int .i64 (.bool (.int .i64 (.int .i64 (.bool (.nil)))))))) x4, .i x5, .i x6, .m (.int .i64 (.nil)) (.bool (.nil)) m7]) k) l2 last3 x4 x5 x6 m7 := by kernel_rfl
    have h2 := congrArg (fun r => outbox_Fit_l0_step outbox_one (fun y1 y2 => k .ret (encSt [.dead, .dead, .bool, .dead, .dead, .dead, .dead, .dead, .dead, .dead, .dead, .dead, .dead, .dead, .dead, .dead, .dead, .dead, .dead, .dead, .dead, .dead, .dead, .dead, .dead, .dead, .dead, .dead, .dead, .dead, .dead, .dead, .dead, .dead, .dead, .dead, .dead, .dead] [] [.mp false false (.int .i64 (.nil)) (.bool (.nil))] [.b y1, .m (.int .i64 (.nil)) (.bool (.nil)) y2])) (fun y1 y2 => k (.exit 0) (encSt [.sl (.int .i64 (.int .i64 (.int .i64 (.bool (.int .i64 (.int .i64 (.bool (.nil)))))))), .dead, .dead, .dead, .dead, .dead, .dead, .dead, .dead, .dead, .dead, .dead, .dead, .dead, .dead, .dead, .dead, .dead, .dead, .dead, .dead, .dead, .dead, .dead, .dead, .dead, .dead, .dead, .dead, .dead, .dead, .dead, .dead, .dead, .dead, .dead, .dead, .dead] [] [.mp false false (.int .i64 (.nil)) (.bool (.nil))] [.q (.int .i64 (.int .i64 (.int .i64 (.bool (.int .i64 (.int .i64 (.bool (.nil)))))))) y1, .m (.int .i64 (.nil)) (.bool (.nil)) y2])) r l2 last3 x4 x5 x6 m7) e
    have h3 : outbox_Fit_l0_step outbox_one (fun y1 y2 => k .ret (encSt [.dead, .dead, .bool, .dead, .dead, .dead, .dead, .dead, .dead, .dead, .dead, .dead, .dead, .dead, .dead, .dead, .dead, .dead, .dead, .dead, .dead, .dead, .dead, .dead, .dead, .dead, .dead, .dead, .dead, .dead, .dead, .dead, .dead, .dead, .dead, .dead, .dead, .dead] [] [.mp false false (.int .i64 (.nil)) (.bool (.nil))] [.b y1, .m (.int .i64 (.nil)) (.bool (.nil)) y2])) (fun y1 y2 => k (.exit 0) (encSt [.sl (.int .i64 (.int .i64 (.int .i64 (.bool (.int .i64 (.int .i64 (.bool (.nil)))))))), .dead, .dead, .dead, .dead, .dead, .dead, .dead, .dead, .dead, .dead, .dead, .dead, .dead, .dead, .dead, .dead, .dead, .dead, .dead, .dead, .dead, .dead, .dead, .dead, .dead, .dead, .dead, .dead, .dead, .dead, .dead, .dead, .dead, .dead, .dead, .dead, .dead] [] [.mp false false (.int .i64 (.nil)) (.bool (.nil))] [.q (.int .i64 (.int .i64 (.int .i64 (.bool (.int .i64 (.int .i64 (.bool (.nil)))))))) y1, .m (.int .i64 (.nil)) (.bool (.nil)) y2])) (fun (l2 : Seq Z0) (last3 : Int) (x4 : Seq Z0) (x5 : Int) (x6 : Int) (m7 : List ((Int × Unit) × (Bool × Unit))) => outbox_Fit_l0_run outbox_one (fun y1 y2 => k .ret (encSt [.dead, .dead, .bool, .dead, .dead, .dead, .dead, .dead, .dead, .dead, .dead, .dead, .dead, .dead, .dead, .dead, .dead, .dead, .dead, .dead, .dead, .dead, .dead, .dead, .dead, .dead, .dead, .dead, .dead, .dead, .dead, .dead, .dead, .dead, .dead, .dead, .dead, .dead] [] [.mp false false (.int .i64 (.nil)) (.bool (.nil))] [.b y1, .m (.int .i64 (.nil)) (.bool (.nil)) y2])) (fun y1 y2 => k (.exit 0) (encSt [.sl (.int .i64 (.int .i64 (.int .i64 (.bool (.int .i64 (.int .i64 (.bool (.nil)))))))), .dead, .dead, .dead, .dead, .dead, .dead, .dead, .dead, .dead, .dead, .dead, .dead, .dead, .dead, .dead, .dead, .dead, .dead, .dead, .dead, .dead, .dead, .dead, .dead, .dead, .dead, .dead, .dead, .dead, .dead, .dead, .dead, .dead, .dead, .dead, .dead, .dead] [] [.mp false false (.int .i64 (.nil)) (.bool (.nil))] [.q (.int .i64 (.int .i64 (.int .i64 (.bool (.int .i64 (.int .i64 (.bool (.nil)))))))) y1, .m (.int .i64 (.nil)) (.bool (.nil)) y2])) n l2 last3 x4 x5 x6 m7) l2 last3 x4 x5 x6 m7 = outbox_Fit_l0_run outbox_one (fun y1 y2 => k .ret (encSt [.dead, .dead, .bool, .dead, .dead, .dead, .dead, .dead, .dead, .dead, .dead, .dead, .dead, .dead, .dead, .dead, .dead, .dead, .dead, .dead, .dead, .dead, .dead, .dead, .dead, .dead, .dead, .dead, .dead, .dead, .dead, .dead, .dead, .dead, .dead, .dead, .dead, .dead] [] [.mp false false (.int .i64 (.nil)) (.bool (.nil))] [.b y1, .m (.int .i64 (.nil)) (.bool (.nil)) y2])) (fun y1 y2 => k (.exit 0) (encSt [.sl (.int .i64 (.int .i64 (.int .i64 (.bool (.int .i64 (.int .i64 (.bool (.nil)))))))), .dead, .dead, .dead, .dead, .dead, .dead, .dead, .dead, .dead, .dead, .dead, .dead, .dead, .dead, .dead, .dead, .dead, .dead, .dead, .dead, .dead, .dead, .dead, .dead, .dead, .dead, .dead, .dead, .dead, .dead, .dead, .dead, .dead, .dead, .dead, .dead, .dead] [] [.mp false false (.int .i64 (.nil)) (.bool (.nil))] [.q (.int .i64 (.int .i64 (.int .i64 (.bool (.int .i64 (.int .i64 (.bool (.nil)))))))) y1, .m (.int .i64 (.nil)) (.bool (.nil)) y2])) (n + 1) l2 last3 x4 x5 x6 m7 := by kernel_rfl
    exact h1.trans (h2.trans h3)

theorem outbox_Fit_l0_ok {α : Type} (outbox_one : outbox_one_T α) : (outbox_Fit_l0_spec outbox_one : LoopSpec α).ok Go.Proofs.Try.prog (envOf (outbox_Fit_C outbox_one) outbox_Fit_q outbox_Fit_inl 1000 outbox_Fit_ann false (outbox_Fit_loops outbox_one) (fun _ => none)) := by
  intro ds k
  have h1 : outbox_Fit_l0_ev outbox_one 1000 (encSt outbox_Fit_l0_t outbox_Fit_l0_s outbox_Fit_l0_h ds) k = outbox_Fit_l0_ev outbox_one 1000 (encSt outbox_Fit_l0_t outbox_Fit_l0_s outbox_Fit_l0_h [.q (.int .i64 (.int .i64 (.int .i64 (.bool (.int .i64 (.int .i64 (.bool (.nil)))))))) (hdQ (.int .i64 (.int .i64 (.int .i64 (.bool (.int .i64 (.int .i64 (.bool (.nil)))))))) ds), .i (hdI ds.tail), .q (.int .i64 (.int .i64 (.int .i64 (.bool (.int .i64 (.int .i64 (.bool (.nil)))))))) (hdQ (.int .i64 (.int .i64 (.int .i64 (.bool (.int .i64 (.int .i64 (.bool (.nil)))))))) ds.tail.tail), .i (hdI ds.tail.tail.tail), .i (hdI ds.tail.tail.tail.tail), .m (.int .i64 (.nil)) (.bool (.nil)) (hdM (.int .i64 (.nil)) (.bool (.nil)) ds.tail.tail.tail.tail.tail)]) k := by kernel_rfl
  have h2 := outbox_Fit_l0_eq outbox_one 1000 (hdQ (.int .i64 (.int .i64 (.int .i64 (.bool (.int .i64 (.int .i64 (.bool (.nil)))))))) ds) (hdI ds.tail) (hdQ (.int .i64 (.int .i64 (.int .i64 (.bool (.int .i64 (.int .i64 (.bool (.nil)))))))) ds.tail.tail) (hdI ds.tail.tail.tail) (hdI ds.tail.tail.tail.tail) (hdM (.int .i64 (.nil)) (.bool (.nil)) ds.tail.tail.tail.tail.tail) k
  exact h1.trans h2

theorem outbox_Fit_ev {α : Type} (outbox_one : outbox_one_T α) : EvOk (α := α) Go.Proofs.Try.prog (envOf (outbox_Fit_C outbox_one) outbox_Fit_q outbox_Fit_inl 1000 outbox_Fit_ann false (outbox_Fit_loops outbox_one) (fun _ => none)) 6 (outbox_Fit_sp (outbox_Fit_g outbox_one)) := by intro ds k; kernel_rfl

theorem outbox_Fit_ok {α : Type} : (outbox_Fit_spec : FunSpec α).ok Go.Proofs.Try.prog :=
  FunSpec.ok_of (sp := outbox_Fit_spec) (C := outbox_Fit_C outbox_one) (q := outbox_Fit_q) (inl := outbox_Fit_inl) (N := 1000) (ann := outbox_Fit_ann) (fr := false) (D := 6) (l := (outbox_Fit_loops outbox_one)) (hk := (fun _ => none)) (okCons outbox_one_ok okNil) (lokCons (outbox_Fit_l0_ok outbox_one) lokNil) noHooks (outbox_Fit_ev outbox_one)

end
end Go.Rv.Try

set_option linter.unusedVariables false
set_option maxRecDepth 100000
set_option maxHeartbeats 4000000
namespace Go.Rv.Try
open Go Go.Rv Go.RowKit
noncomputable section

-- drayman/msg.FitReply

abbrev msg_FitReply_T (α : Type) : Type := (Int × Int × Int × Int × Bool × Int × Int × Unit) → (Bool → Option α) → Option α

noncomputable def msg_FitReply_g {α : Type} (msg_id : msg_id_T α) (r1 : Int × Int × Int × Int × Bool × Int × Int × Unit) (k : Bool → Option α) : Option α :=
  (cond (r1.1 == 1)
    (cond (r1.1 == 1)
      (msg_id (⟨false, 3, (tSel [(r1.2.1, ()), (r1.2.2.1, ()), (r1.2.2.2.2.2.1, ())] (0, ()))⟩ : Seq (Int × Unit)) fun r2 =>
        (cond r2
          (cond (decide ((0 : Int) ≤ r1.2.2.2.1))
            (cond (decide (r1.2.2.2.1 < 6))
              (cond (decide ((1 : Int) ≤ r1.2.2.2.2.2.2.1))
                (k (decide (r1.2.2.2.2.2.2.1 ≤ 3)))
                (k false))
              (k false))
            (k false))
          (k false)))
      (k false))
    (cond (r1.1 == 2)
      (msg_id (⟨false, 3, (tSel [(r1.2.1, ()), (r1.2.2.1, ()), (r1.2.2.2.2.2.1, ())] (0, ()))⟩ : Seq (Int × Unit)) fun r3 =>
        (cond r3
          (cond (decide ((0 : Int) ≤ r1.2.2.2.1))
            (cond (decide (r1.2.2.2.1 < 6))
              (cond (decide ((1 : Int) ≤ r1.2.2.2.2.2.2.1))
                (k (decide (r1.2.2.2.2.2.2.1 ≤ 3)))
                (k false))
              (k false))
            (k false))
          (k false)))
      (k false)))

noncomputable def msg_FitReply {α : Type} : msg_FitReply_T α := msg_FitReply_g msg_id

noncomputable def msg_FitReply_sp {α : Type} (msg_FitReply : msg_FitReply_T α) : FunSpec α := ⟨51, [.agg [.int .i64, .int .i64, .int .i64, .int .i64, .bool, .int .i64, .int .i64]], [], fun ds k => msg_FitReply (hdI ds, hdI ds.tail, hdI ds.tail.tail, hdI ds.tail.tail.tail, hdB ds.tail.tail.tail.tail, hdI ds.tail.tail.tail.tail.tail, hdI ds.tail.tail.tail.tail.tail.tail, ()) (fun r1 => k (enc dep (.bool) [.b r1]).1 [])⟩

noncomputable def msg_FitReply_spec {α : Type} : FunSpec α := msg_FitReply_sp msg_FitReply

noncomputable def msg_FitReply_C {α : Type} (msg_id : msg_id_T α) : List (FunSpec α) := [msg_id_sp msg_id]

noncomputable def msg_FitReply_q : FuncId → Bool := fun f => Nat.beq f 102

noncomputable def msg_FitReply_inl : FuncId → Bool := fun f => false

noncomputable def msg_FitReply_ann : FuncId → AnnT := fun f p => ⟨[], [], [], [], 0, [], [], none⟩

noncomputable def msg_FitReply_loops {α : Type} (msg_id : msg_id_T α) : List (LoopSpec α) := []

theorem msg_FitReply_ev {α : Type} (msg_id : msg_id_T α) : EvOk (α := α) Go.Proofs.Try.prog (envOf (msg_FitReply_C msg_id) msg_FitReply_q msg_FitReply_inl 1000 msg_FitReply_ann false (msg_FitReply_loops msg_id) (fun _ => none)) 6 (msg_FitReply_sp (msg_FitReply_g msg_id)) := by intro ds k; kernel_rfl

theorem msg_FitReply_ok {α : Type} : (msg_FitReply_spec : FunSpec α).ok Go.Proofs.Try.prog :=
  FunSpec.ok_of (sp := msg_FitReply_spec) (C := msg_FitReply_C msg_id) (q := msg_FitReply_q) (inl := msg_FitReply_inl) (N := 1000) (ann := msg_FitReply_ann) (fr := false) (D := 6) (l := (msg_FitReply_loops msg_id)) (hk := (fun _ => none)) (okCons msg_id_ok okNil) lokNil noHooks (msg_FitReply_ev msg_id)

end
end Go.Rv.Try

set_option linter.unusedVariables false
set_option maxRecDepth 100000
set_option maxHeartbeats 4000000
namespace Go.Rv.Try
open Go Go.Rv Go.RowKit
noncomputable section

-- drayman/msg.Fit

abbrev msg_Fit_T (α : Type) : Type := (Int × Bool × Int × Int × Int × Int × Bool × Int × Int × Bool × Int × Int × Int × Int × Bool × Int × Int × Unit) → (Bool → Option α) → Option α

noncomputable def msg_Fit_g {α : Type} (msg_id : msg_id_T α) (outbox_Fit : outbox_Fit_T α) (outbox_Service : outbox_Service_T α) (msg_FitReply : msg_FitReply_T α) (x1 : Int × Bool × Int × Int × Int × Int × Bool × Int × Int × Bool × Int × Int × Int × Int × Bool × Int × Int × Unit) (k : Bool → Option α) : Option α :=
  (cond x1.2.1
    (msg_id (⟨false, 1, (fun _ => (x1.1, ()))⟩ : Seq (Int × Unit)) fun r2 =>
      (cond r2
        (outbox_Fit (⟨false, 1, (fun _ => (x1.2.2.2.1, x1.2.2.2.2.1, x1.2.2.2.2.2.1, x1.2.2.2.2.2.2.1, x1.2.2.2.2.2.2.2.1, x1.2.2.2.2.2.2.2.2.1, x1.2.2.2.2.2.2.2.2.2.1, ()))⟩ : Seq Z0) fun r3 =>
          (cond r3
            (outbox_Service x1.2.2.2.2.2.2.2.1 fun r4 =>
              (cond (x1.2.2.1 == r4)
                (k ((x1.2.2.2.2.2.2.2.2.2.2.1 == 0) && ((x1.2.2.2.2.2.2.2.2.2.2.2.1 == 0) && ((x1.2.2.2.2.2.2.2.2.2.2.2.2.1 == 0) && ((x1.2.2.2.2.2.2.2.2.2.2.2.2.2.1 == 0) && ((x1.2.2.2.2.2.2.2.2.2.2.2.2.2.2.1 == false) && ((x1.2.2.2.2.2.2.2.2.2.2.2.2.2.2.2.1 == 0) && ((x1.2.2.2.2.2.2.2.2.2.2.2.2.2.2.2.2.1 == 0) && true))))))))
                (k false)))
            (k false)))
        (k false)))
    (msg_id (⟨false, 1, (fun _ => (x1.1, ()))⟩ : Seq (Int × Unit)) fun r5 =>
      (cond r5
        (msg_FitReply x1.2.2.2.2.2.2.2.2.2.2 fun r6 =>
          (cond r6
            (cond (x1.2.2.1 == x1.2.2.2.2.2.2.2.2.2.2.1)
              (k ((x1.2.2.2.1 == 0) && ((x1.2.2.2.2.1 == 0) && ((x1.2.2.2.2.2.1 == 0) && ((x1.2.2.2.2.2.2.1 == false) && ((x1.2.2.2.2.2.2.2.1 == 0) && ((x1.2.2.2.2.2.2.2.2.1 == 0) && ((x1.2.2.2.2.2.2.2.2.2.1 == false) && true))))))))
              (k false))
            (k false)))
        (k false))))

noncomputable def msg_Fit {α : Type} : msg_Fit_T α := msg_Fit_g msg_id outbox_Fit outbox_Service msg_FitReply

noncomputable def msg_Fit_sp {α : Type} (msg_Fit : msg_Fit_T α) : FunSpec α := ⟨49, [.agg [.int .i64, .bool, .int .i64, .int .i64, .int .i64, .int .i64, .bool, .int .i64, .int .i64, .bool, .int .i64, .int .i64, .int .i64, .int .i64, .bool, .int .i64, .int .i64]], [], fun ds k => msg_Fit (hdI ds, hdB ds.tail, hdI ds.tail.tail, hdI ds.tail.tail.tail, hdI ds.tail.tail.tail.tail, hdI ds.tail.tail.tail.tail.tail, hdB ds.tail.tail.tail.tail.tail.tail, hdI ds.tail.tail.tail.tail.tail.tail.tail, hdI ds.tail.tail.tail.tail.tail.tail.tail.tail, hdB ds.tail.tail.tail.tail.tail.tail.tail.tail.tail, hdI ds.tail.tail.tail.tail.tail.tail.tail.tail.tail.tail, hdI ds.tail.tail.tail.tail.tail.tail.tail.tail.tail.tail.tail, hdI ds.tail.tail.tail.tail.tail.tail.tail.tail.tail.tail.tail.tail, hdI ds.tail.tail.tail.tail.tail.tail.tail.tail.tail.tail.tail.tail.tail, hdB ds.tail.tail.tail.tail.tail.tail.tail.tail.tail.tail.tail.tail.tail.tail, hdI ds.tail.tail.tail.tail.tail.tail.tail.tail.tail.tail.tail.tail.tail.tail.tail, hdI ds.tail.tail.tail.tail.tail.tail.tail.tail.tail.tail.tail.tail.tail.tail.tail.tail, ()) (fun r1 => k (enc dep (.bool) [.b r1]).1 [])⟩

noncomputable def msg_Fit_spec {α : Type} : FunSpec α := msg_Fit_sp msg_Fit

noncomputable def msg_Fit_C {α : Type} (msg_id : msg_id_T α) (outbox_Fit : outbox_Fit_T α) (outbox_Service : outbox_Service_T α) (msg_FitReply : msg_FitReply_T α) : List (FunSpec α) := [msg_id_sp msg_id, outbox_Fit_sp outbox_Fit, outbox_Service_sp outbox_Service, msg_FitReply_sp msg_FitReply]

noncomputable def msg_Fit_q : FuncId → Bool := fun f => Nat.beq f 51 || Nat.beq f 81 || Nat.beq f 102 || Nat.beq f 103

noncomputable def msg_Fit_inl : FuncId → Bool := fun f => false

noncomputable def msg_Fit_ann : FuncId → AnnT := fun f p => if f = 49 then (if p = [false, false, true, false, true] then ⟨[], [], [], [], 2, [], [], none⟩ else ⟨[], [], [], [], 0, [], [], none⟩) else ⟨[], [], [], [], 0, [], [], none⟩

noncomputable def msg_Fit_loops {α : Type} (msg_id : msg_id_T α) (outbox_Fit : outbox_Fit_T α) (outbox_Service : outbox_Service_T α) (msg_FitReply : msg_FitReply_T α) : List (LoopSpec α) := []

theorem msg_Fit_ev {α : Type} (msg_id : msg_id_T α) (outbox_Fit : outbox_Fit_T α) (outbox_Service : outbox_Service_T α) (msg_FitReply : msg_FitReply_T α) : EvOk (α := α) Go.Proofs.Try.prog (envOf (msg_Fit_C msg_id outbox_Fit outbox_Service msg_FitReply) msg_Fit_q msg_Fit_inl 1000 msg_Fit_ann false (msg_Fit_loops msg_id outbox_Fit outbox_Service msg_FitReply) (fun _ => none)) 6 (msg_Fit_sp (msg_Fit_g msg_id outbox_Fit outbox_Service msg_FitReply)) := by intro ds k; kernel_rfl

theorem msg_Fit_ok {α : Type} : (msg_Fit_spec : FunSpec α).ok Go.Proofs.Try.prog :=
  FunSpec.ok_of (sp := msg_Fit_spec) (C := msg_Fit_C msg_id outbox_Fit outbox_Service msg_FitReply) (q := msg_Fit_q) (inl := msg_Fit_inl) (N := 1000) (ann := msg_Fit_ann) (fr := false) (D := 6) (l := (msg_Fit_loops msg_id outbox_Fit outbox_Service msg_FitReply)) (hk := (fun _ => none)) (okCons msg_id_ok (okCons outbox_Fit_ok (okCons outbox_Service_ok (okCons msg_FitReply_ok okNil)))) lokNil noHooks (msg_Fit_ev msg_id outbox_Fit outbox_Service msg_FitReply)

end
end Go.Rv.Try

set_option linter.unusedVariables false
set_option maxRecDepth 100000
set_option maxHeartbeats 4000000
namespace Go.Rv.Try
open Go Go.Rv Go.RowKit
noncomputable section

-- drayman/wire.Int

abbrev wire_Int_T (α : Type) : Type := Int → (ByteArray → Option α) → Option α

noncomputable def wire_Int {α : Type} (n1 : Int) (k : ByteArray → Option α) : Option α :=
  (joinD
    (fun ds => (fun (p2 : Int) =>
      (cond (decide (p2 > 0))
        (cond (decide ((Int.fdiv p2 (2 ^ (min 8 IntKind.u64.bits))) > 0))
          (cond (decide ((Int.fdiv (Int.fdiv p2 (2 ^ (min 8 IntKind.u64.bits))) (2 ^ (min 8 IntKind.u64.bits))) > 0))
            (cond (decide ((Int.fdiv (Int.fdiv (Int.fdiv p2 (2 ^ (min 8 IntKind.u64.bits))) (2 ^ (min 8 IntKind.u64.bits))) (2 ^ (min 8 IntKind.u64.bits))) > 0))
              (cond (decide ((Int.fdiv (Int.fdiv (Int.fdiv (Int.fdiv p2 (2 ^ (min 8 IntKind.u64.bits))) (2 ^ (min 8 IntKind.u64.bits))) (2 ^ (min 8 IntKind.u64.bits))) (2 ^ (min 8 IntKind.u64.bits))) > 0))
                (cond (decide ((Int.fdiv (Int.fdiv (Int.fdiv (Int.fdiv (Int.fdiv p2 (2 ^ (min 8 IntKind.u64.bits))) (2 ^ (min 8 IntKind.u64.bits))) (2 ^ (min 8 IntKind.u64.bits))) (2 ^ (min 8 IntKind.u64.bits))) (2 ^ (min 8 IntKind.u64.bits))) > 0))
                  (cond (decide ((Int.fdiv (Int.fdiv (Int.fdiv (Int.fdiv (Int.fdiv (Int.fdiv p2 (2 ^ (min 8 IntKind.u64.bits))) (2 ^ (min 8 IntKind.u64.bits))) (2 ^ (min 8 IntKind.u64.bits))) (2 ^ (min 8 IntKind.u64.bits))) (2 ^ (min 8 IntKind.u64.bits))) (2 ^ (min 8 IntKind.u64.bits))) > 0))
                    (cond (decide ((Int.fdiv (Int.fdiv (Int.fdiv (Int.fdiv (Int.fdiv (Int.fdiv (Int.fdiv p2 (2 ^ (min 8 IntKind.u64.bits))) (2 ^ (min 8 IntKind.u64.bits))) (2 ^ (min 8 IntKind.u64.bits))) (2 ^ (min 8 IntKind.u64.bits))) (2 ^ (min 8 IntKind.u64.bits))) (2 ^ (min 8 IntKind.u64.bits))) (2 ^ (min 8 IntKind.u64.bits))) > 0))
                      (cond (decide ((Int.fdiv (Int.fdiv (Int.fdiv (Int.fdiv (Int.fdiv (Int.fdiv (Int.fdiv (Int.fdiv p2 (2 ^ (min 8 IntKind.u64.bits))) (2 ^ (min 8 IntKind.u64.bits))) (2 ^ (min 8 IntKind.u64.bits))) (2 ^ (min 8 IntKind.u64.bits))) (2 ^ (min 8 IntKind.u64.bits))) (2 ^ (min 8 IntKind.u64.bits))) (2 ^ (min 8 IntKind.u64.bits))) (2 ^ (min 8 IntKind.u64.bits))) > 0))
                        (cond (decide ((Int.fdiv (Int.fdiv (Int.fdiv (Int.fdiv (Int.fdiv (Int.fdiv (Int.fdiv (Int.fdiv (Int.fdiv p2 (2 ^ (min 8 IntKind.u64.bits))) (2 ^ (min 8 IntKind.u64.bits))) (2 ^ (min 8 IntKind.u64.bits))) (2 ^ (min 8 IntKind.u64.bits))) (2 ^ (min 8 IntKind.u64.bits))) (2 ^ (min 8 IntKind.u64.bits))) (2 ^ (min 8 IntKind.u64.bits))) (2 ^ (min 8 IntKind.u64.bits))) (2 ^ (min 8 IntKind.u64.bits))) > 0))
                          none
                          none)
                        (k (bytesI [8, (IntKind.u8.wrap (Int.fdiv (Int.fdiv (Int.fdiv (Int.fdiv (Int.fdiv (Int.fdiv (Int.fdiv p2 (2 ^ (min 8 IntKind.u64.bits))) (2 ^ (min 8 IntKind.u64.bits))) (2 ^ (min 8 IntKind.u64.bits))) (2 ^ (min 8 IntKind.u64.bits))) (2 ^ (min 8 IntKind.u64.bits))) (2 ^ (min 8 IntKind.u64.bits))) (2 ^ (min 8 IntKind.u64.bits)))), (IntKind.u8.wrap (Int.fdiv (Int.fdiv (Int.fdiv (Int.fdiv (Int.fdiv (Int.fdiv p2 (2 ^ (min 8 IntKind.u64.bits))) (2 ^ (min 8 IntKind.u64.bits))) (2 ^ (min 8 IntKind.u64.bits))) (2 ^ (min 8 IntKind.u64.bits))) (2 ^ (min 8 IntKind.u64.bits))) (2 ^ (min 8 IntKind.u64.bits)))), (IntKind.u8.wrap (Int.fdiv (Int.fdiv (Int.fdiv (Int.fdiv (Int.fdiv p2 (2 ^ (min 8 IntKind.u64.bits))) (2 ^ (min 8 IntKind.u64.bits))) (2 ^ (min 8 IntKind.u64.bits))) (2 ^ (min 8 IntKind.u64.bits))) (2 ^ (min 8 IntKind.u64.bits)))), (IntKind.u8.wrap (Int.fdiv (Int.fdiv (Int.fdiv (Int.fdiv p2 (2 ^ (min 8 IntKind.u64.bits))) (2 ^ (min 8 IntKind.u64.bits))) (2 ^ (min 8 IntKind.u64.bits))) (2 ^ (min 8 IntKind.u64.bits)))), (IntKind.u8.wrap (Int.fdiv (Int.fdiv (Int.fdiv p2 (2 ^ (min 8 IntKind.u64.bits))) (2 ^ (min 8 IntKind.u64.bits))) (2 ^ (min 8 IntKind.u64.bits)))), (IntKind.u8.wrap (Int.fdiv (Int.fdiv p2 (2 ^ (min 8 IntKind.u64.bits))) (2 ^ (min 8 IntKind.u64.bits)))), (IntKind.u8.wrap (Int.fdiv p2 (2 ^ (min 8 IntKind.u64.bits)))), (IntKind.u8.wrap p2)])))
                      (k (bytesI [7, (IntKind.u8.wrap (Int.fdiv (Int.fdiv (Int.fdiv (Int.fdiv (Int.fdiv (Int.fdiv p2 (2 ^ (min 8 IntKind.u64.bits))) (2 ^ (min 8 IntKind.u64.bits))) (2 ^ (min 8 IntKind.u64.bits))) (2 ^ (min 8 IntKind.u64.bits))) (2 ^ (min 8 IntKind.u64.bits))) (2 ^ (min 8 IntKind.u64.bits)))), (IntKind.u8.wrap (Int.fdiv (Int.fdiv (Int.fdiv (Int.fdiv (Int.fdiv p2 (2 ^ (min 8 IntKind.u64.bits))) (2 ^ (min 8 IntKind.u64.bits))) (2 ^ (min 8 IntKind.u64.bits))) (2 ^ (min 8 IntKind.u64.bits))) (2 ^ (min 8 IntKind.u64.bits)))), (IntKind.u8.wrap (Int.fdiv (Int.fdiv (Int.fdiv (Int.fdiv p2 (2 ^ (min 8 IntKind.u64.bits))) (2 ^ (min 8 IntKind.u64.bits))) (2 ^ (min 8 IntKind.u64.bits))) (2 ^ (min 8 IntKind.u64.bits)))), (IntKind.u8.wrap (Int.fdiv (Int.fdiv (Int.fdiv p2 (2 ^ (min 8 IntKind.u64.bits))) (2 ^ (min 8 IntKind.u64.bits))) (2 ^ (min 8 IntKind.u64.bits)))), (IntKind.u8.wrap (Int.fdiv (Int.fdiv p2 (2 ^ (min 8 IntKind.u64.bits))) (2 ^ (min 8 IntKind.u64.bits)))), (IntKind.u8.wrap (Int.fdiv p2 (2 ^ (min 8 IntKind.u64.bits)))), (IntKind.u8.wrap p2)])))
                    (k (bytesI [6, (IntKind.u8.wrap (Int.fdiv (Int.fdiv (Int.fdiv (Int.fdiv (Int.fdiv p2 (2 ^ (min 8 IntKind.u64.bits))) (2 ^ (min 8 IntKind.u64.bits))) (2 ^ (min 8 IntKind.u64.bits))) (2 ^ (min 8 IntKind.u64.bits))) (2 ^ (min 8 IntKind.u64.bits)))), (IntKind.u8.wrap (Int.fdiv (Int.fdiv (Int.fdiv (Int.fdiv p2 (2 ^ (min 8 IntKind.u64.bits))) (2 ^ (min 8 IntKind.u64.bits))) (2 ^ (min 8 IntKind.u64.bits))) (2 ^ (min 8 IntKind.u64.bits)))), (IntKind.u8.wrap (Int.fdiv (Int.fdiv (Int.fdiv p2 (2 ^ (min 8 IntKind.u64.bits))) (2 ^ (min 8 IntKind.u64.bits))) (2 ^ (min 8 IntKind.u64.bits)))), (IntKind.u8.wrap (Int.fdiv (Int.fdiv p2 (2 ^ (min 8 IntKind.u64.bits))) (2 ^ (min 8 IntKind.u64.bits)))), (IntKind.u8.wrap (Int.fdiv p2 (2 ^ (min 8 IntKind.u64.bits)))), (IntKind.u8.wrap p2)])))
                  (k (bytesI [5, (IntKind.u8.wrap (Int.fdiv (Int.fdiv (Int.fdiv (Int.fdiv p2 (2 ^ (min 8 IntKind.u64.bits))) (2 ^ (min 8 IntKind.u64.bits))) (2 ^ (min 8 IntKind.u64.bits))) (2 ^ (min 8 IntKind.u64.bits)))), (IntKind.u8.wrap (Int.fdiv (Int.fdiv (Int.fdiv p2 (2 ^ (min 8 IntKind.u64.bits))) (2 ^ (min 8 IntKind.u64.bits))) (2 ^ (min 8 IntKind.u64.bits)))), (IntKind.u8.wrap (Int.fdiv (Int.fdiv p2 (2 ^ (min 8 IntKind.u64.bits))) (2 ^ (min 8 IntKind.u64.bits)))), (IntKind.u8.wrap (Int.fdiv p2 (2 ^ (min 8 IntKind.u64.bits)))), (IntKind.u8.wrap p2)])))
                (k (bytesI [4, (IntKind.u8.wrap (Int.fdiv (Int.fdiv (Int.fdiv p2 (2 ^ (min 8 IntKind.u64.bits))) (2 ^ (min 8 IntKind.u64.bits))) (2 ^ (min 8 IntKind.u64.bits)))), (IntKind.u8.wrap (Int.fdiv (Int.fdiv p2 (2 ^ (min 8 IntKind.u64.bits))) (2 ^ (min 8 IntKind.u64.bits)))), (IntKind.u8.wrap (Int.fdiv p2 (2 ^ (min 8 IntKind.u64.bits)))), (IntKind.u8.wrap p2)])))
              (k (bytesI [3, (IntKind.u8.wrap (Int.fdiv (Int.fdiv p2 (2 ^ (min 8 IntKind.u64.bits))) (2 ^ (min 8 IntKind.u64.bits)))), (IntKind.u8.wrap (Int.fdiv p2 (2 ^ (min 8 IntKind.u64.bits)))), (IntKind.u8.wrap p2)])))
            (k (bytesI [2, (IntKind.u8.wrap (Int.fdiv p2 (2 ^ (min 8 IntKind.u64.bits)))), (IntKind.u8.wrap p2)])))
          (k (bytesI [1, (IntKind.u8.wrap p2)])))
        (k (bytesI [0]))))
      (hdI ds))
    (fun j3 =>
      (cond (decide (n1 < 0))
        (j3 [.i (iNot .u64 (IntKind.u64.wrap ((IntKind.u64.wrap n1) * 2 ^ (min 1 IntKind.u64.bits))))])
        (j3 [.i (IntKind.u64.wrap ((IntKind.u64.wrap n1) * 2 ^ (min 1 IntKind.u64.bits)))]))))

noncomputable def wire_Int_sp {α : Type} (wire_Int : wire_Int_T α) : FunSpec α := ⟨130, [.int .i64], [], fun ds k => wire_Int (hdI ds) (fun r1 => k (enc dep (.str) [.s r1]).1 [])⟩

noncomputable def wire_Int_spec {α : Type} : FunSpec α := wire_Int_sp wire_Int

noncomputable def wire_Int_C {α : Type} : List (FunSpec α) := []

noncomputable def wire_Int_q : FuncId → Bool := fun f => false

noncomputable def wire_Int_inl : FuncId → Bool := fun f => false

noncomputable def wire_Int_ann : FuncId → AnnT := fun f p => if f = 130 then (if p = [true, true] then ⟨[3], [], [], [], 0, [], [], some ([.dead, .dead, .dead, .int .u64, .dead, .dead, .dead, .dead, .dead, .dead, .dead, .dead, .dead, .dead, .dead, .dead, .dead, .dead, .dead, .dead, .dead, .dead, .dead, .dead, .dead, .dead, .dead, .dead, .dead, .dead, .dead, .dead, .dead], [], [])⟩ else if p = [false, true, true, true, true, true] then ⟨[3, 4, 5], [0, 1, 2, 3, 4, 5, 6, 7, 8, 9, 10, 11, 12, 13, 14, 15, 16, 17, 18, 19, 20, 21, 22, 23, 24, 25, 26, 27, 28, 29, 30, 31, 32, 33, 34, 35, 36, 37, 38, 39, 40, 41, 42, 43, 44, 45, 46, 47], [4, 5], [2], 0, [], [], none⟩ else ⟨[], [], [], [], 0, [], [], none⟩) else ⟨[], [], [], [], 0, [], [], none⟩

noncomputable def wire_Int_loops {α : Type} : List (LoopSpec α) := []

theorem wire_Int_ev {α : Type} : EvOk (α := α) Go.Proofs.Try.prog (envOf (wire_Int_C) wire_Int_q wire_Int_inl 1000 wire_Int_ann false (wire_Int_loops) (fun _ => none)) 6 (wire_Int_sp (wire_Int)) := by intro ds k; kernel_rfl

theorem wire_Int_ok {α : Type} : (wire_Int_spec : FunSpec α).ok Go.Proofs.Try.prog :=
  FunSpec.ok_of (sp := wire_Int_spec) (C := wire_Int_C) (q := wire_Int_q) (inl := wire_Int_inl) (N := 1000) (ann := wire_Int_ann) (fr := false) (D := 6) (l := (wire_Int_loops)) (hk := (fun _ => none)) okNil lokNil noHooks (wire_Int_ev)

end
end Go.Rv.Try

set_option linter.unusedVariables false
set_option maxRecDepth 100000
set_option maxHeartbeats 4000000
namespace Go.Rv.Try
open Go Go.Rv Go.RowKit
noncomputable section

-- drayman/wire.Ints

abbrev wire_Ints_T (α : Type) : Type := (Seq (Int × Unit)) → (ByteArray → Option α) → Option α

noncomputable def wire_Ints_l0_step {α : Type} (wire_Int : wire_Int_T α) (k0 : (ByteArray) → Option α) (rec : (Seq (Int × Unit)) → (Int) → (Int) → (ByteArray) → Option α) (x2 : Seq (Int × Unit)) (x3 : Int) (x4 : Int) (b5 : ByteArray) : Option α :=
  (cond (decide (x4 < x3))
    (cond ((decide ((0 : Int) ≤ x4)) && (decide (x4 < (x2.n : Int))))
      (wire_Int ((x2.g x4.toNat).1) fun r6 =>
        (cond (decide ((b5.size + r6.size) * 1 ≤ 140737488355328))
          (rec x2 x3 (IntKind.i64.wrap (x4 + 1)) (b5 ++ r6))
          none))
      none)
    (k0 b5))

noncomputable def wire_Ints_l0_run {α : Type} (wire_Int : wire_Int_T α) (k0 : (ByteArray) → Option α) : Nat → (Seq (Int × Unit)) → (Int) → (Int) → (ByteArray) → Option α
  | 0, _, _, _, _ => none
  | n + 1, x2, x3, x4, b5 => wire_Ints_l0_step wire_Int k0 (fun x2 x3 x4 b5 => wire_Ints_l0_run wire_Int k0 n x2 x3 x4 b5) x2 x3 x4 b5

noncomputable def wire_Ints_g {α : Type} (wire_Int : wire_Int_T α) (l1 : Seq (Int × Unit)) (k : ByteArray → Option α) : Option α :=
  (wire_Ints_l0_run wire_Int
    (fun b7 =>
      (k b7))
    1000 l1 (l1.n : Int) 0 (⟨#[]⟩ : ByteArray))

noncomputable def wire_Ints {α : Type} : wire_Ints_T α := wire_Ints_g wire_Int

noncomputable def wire_Ints_sp {α : Type} (wire_Ints : wire_Ints_T α) : FunSpec α := ⟨98, [.sl (.int .i64 (.nil))], [], fun ds k => wire_Ints (hdQ (.int .i64 (.nil)) ds) (fun r1 => k (enc dep (.str) [.s r1]).1 [])⟩

noncomputable def wire_Ints_spec {α : Type} : FunSpec α := wire_Ints_sp wire_Ints

noncomputable def wire_Ints_C {α : Type} (wire_Int : wire_Int_T α) : List (FunSpec α) := [wire_Int_sp wire_Int]

noncomputable def wire_Ints_q : FuncId → Bool := fun f => Nat.beq f 130

noncomputable def wire_Ints_inl : FuncId → Bool := fun f => Nat.beq f 129

noncomputable def wire_Ints_ann : FuncId → AnnT := fun f p => if f = 98 then (if p = [true, false, true, true] then ⟨[3, 6, 7, 8], [1], [3], [2], 0, [], [], none⟩ else ⟨[], [], [], [], 0, [], [], none⟩) else ⟨[], [], [], [], 0, [], [], none⟩

noncomputable def wire_Ints_l0_t : List Sh := [.dead, .dead, .dead, .ref 0 0, .dead, .dead, .sl (.int .i64 (.nil)), .int .i64, .int .i64, .dead, .dead, .dead, .dead, .dead, .dead, .dead, .dead]
noncomputable def wire_Ints_l0_s : List (List Sh) := []
noncomputable def wire_Ints_l0_h : List BSh := [.sb 165 (.own 1), .bs 5]

noncomputable def wire_Ints_l0_spec {α : Type} (wire_Int : wire_Int_T α) : LoopSpec α := ⟨6, 98, [true, false, true, true], wire_Ints_l0_t, wire_Ints_l0_s, wire_Ints_l0_h, fun ds k => wire_Ints_l0_run wire_Int (fun y1 => k (.exit 0) (encSt [.dead, .dead, .dead, .ref 0 0, .dead, .dead, .dead, .dead, .dead, .dead, .dead, .dead, .dead, .dead, .dead, .dead, .dead] [] [.sb 165 (.own 1), .bs 5] [.s y1])) 1000 (hdQ (.int .i64 (.nil)) ds) (hdI ds.tail) (hdI ds.tail.tail) (hdS ds.tail.tail.tail)⟩

noncomputable def wire_Ints_loops {α : Type} (wire_Int : wire_Int_T α) : List (LoopSpec α) := [wire_Ints_l0_spec wire_Int]

noncomputable def wire_Ints_l0_ev {α : Type} (wire_Int : wire_Int_T α) (n : Nat) (st : St) (k : X → St → Option α) : Option α := loopN (evCode Go.Proofs.Try.prog (callD Go.Proofs.Try.prog (envOf (wire_Ints_C wire_Int) wire_Ints_q wire_Ints_inl 1000 wire_Ints_ann false (wire_Ints_loops wire_Int) hooks) 6) (((envOf (wire_Ints_C wire_Int) wire_Ints_q wire_Ints_inl 1000 wire_Ints_ann false (wire_Ints_loops wire_Int) hooks) : Env α).L 6 98) 1000 (wire_Ints_ann 98) (false :: [true, false, true, true]) (loopC Go.Proofs.Try.prog 98 [true, false, true, true])) ((wire_Ints_ann 98 [true, false, true, true]).head 2) ((wire_Ints_ann 98 [true, false, true, true]).leave 2) n st k

theorem wire_Ints_l0_eq {α : Type} (wire_Int : wire_Int_T α) : ∀ (n : Nat) (x2 : Seq (Int × Unit)) (x3 : Int) (x4 : Int) (b5 : ByteArray) (k : X → St → Option α), wire_Ints_l0_ev wire_Int n (encSt wire_Ints_l0_t wire_Ints_l0_s wire_Ints_l0_h [.q (.int .i64 (.nil)) x2, .i x3, .i x4, .s b5]) k = wire_Ints_l0_run wire_Int (fun y1 => k (.exit 0) (encSt [.dead, .dead, .dead, .ref 0 0, .dead, .dead, .dead, .dead, .dead, .dead, .dead, .dead, .dead, .dead, .dead, .dead, .dead] [] [.sb 165 (.own 1), .bs 5] [.s y1])) n x2 x3 x4 b5 := by
  intro n
  induction n with
  | zero => intros; kernel_rfl
  | succ n ih =>
    intro x2 x3 x4 b5 k
    have e : (fun (x2 : Seq (Int × Unit)) (x3 : Int) (x4 : Int) (b5 : ByteArray) => wire_Ints_l0_ev wire_Int n (encSt wire_Ints_l0_t wire_Ints_l0_s wire_Ints_l0_h [.q (.int .i64 (.nil)) x2, .i x3, .i x4, .s b5]) k) = (fun (x2 : Seq (Int × Unit)) (x3 : Int) (x4 : Int) (b5 : ByteArray) => wire_Ints_l0_run wire_Int (fun y1 => k (.exit 0) (encSt [.dead, .dead, .dead, .ref 0 0, .dead, .dead, .dead, .dead, .dead, .dead, .dead, .dead, .dead, .dead, .dead, .dead, .dead] [] [.sb 165 (.own 1), .bs 5] [.s y1])) n x2 x3 x4 b5) := by
      funext x2 x3 x4 b5
      exact ih x2 x3 x4 b5 k
    have h1 : wire_Ints_l0_ev wire_Int (n + 1) (encSt wire_Ints_l0_t wire_Ints_l0_s wire_Ints_l0_h [.q (.int .i64 (.nil)) x2, .i x3, .i x4, .s b5]) k = wire_Ints_l0_step wire_Int (fun y1 => k (.exit 0) (encSt [.dead, .dead, .dead, .ref 0 0, .dead, .dead, .dead, .dead, .dead, .dead, .dead, .dead, .dead, .dead, .dead, .dead, .dead] [] [.sb 165 (.own 1), .bs 5] [.s y1])) (fun (x2 : Seq (Int × Unit)) (x3 : Int) (x4 : Int) (b5 : ByteArray) => wire_Ints_l0_ev wire_Int n (encSt wire_Ints_l0_t wire_Ints_l0_s wire_Ints_l0_h [.q (.int .i64 (.nil)) x2, .i x3, .i x4, .s b5]) k) x2 x3 x4 b5 := by kernel_rfl
    have h2 := congrArg (fun r => wire_Ints_l0_step wire_Int (fun y1 => k (.exit 0) (encSt [.dead, .dead, .dead, .ref 0 0, .dead, .dead, .dead, .dead, .dead, .dead, .dead, .dead, .dead, .dead, .dead, .dead, .dead] [] [.sb 165 (.own 1), .bs 5] [.s y1])) r x2 x3 x4 b5) e
    have h3 : wire_Ints_l0_step wire_Int (fun y1 => k (.exit 0) (encSt [.dead, .dead, .dead, .ref 0 0, .dead, .dead, .dead, .dead, .dead, .dead, .dead, .dead, .dead, .dead, .dead, .dead, .dead] [] [.sb 165 (.own 1), .bs 5] [.s y1])) (fun (x2 : Seq (Int × Unit)) (x3 : Int) (x4 : Int) (b5 : ByteArray) => wire_Ints_l0_run wire_Int (fun y1 => k (.exit 0) (encSt [.dead, .dead, .dead, .ref 0 0, .dead, .dead, .dead, .dead, .dead, .dead, .dead, .dead, .dead, .dead, .dead, .dead, .dead] [] [.sb 165 (.own 1), .bs 5] [.s y1])) n x2 x3 x4 b5) x2 x3 x4 b5 = wire_Ints_l0_run wire_Int (fun y1 => k (.exit 0) (encSt [.dead, .dead, .dead, .ref 0 0, .dead, .dead, .dead, .dead, .dead, .dead, .dead, .dead, .dead, .dead, .dead, .dead, .dead] [] [.sb 165 (.own 1), .bs 5] [.s y1])) (n + 1) x2 x3 x4 b5 := by kernel_rfl
    exact h1.trans (h2.trans h3)

theorem wire_Ints_l0_ok {α : Type} (wire_Int : wire_Int_T α) : (wire_Ints_l0_spec wire_Int : LoopSpec α).ok Go.Proofs.Try.prog (envOf (wire_Ints_C wire_Int) wire_Ints_q wire_Ints_inl 1000 wire_Ints_ann false (wire_Ints_loops wire_Int) hooks) := by
  intro ds k
  have h1 : wire_Ints_l0_ev wire_Int 1000 (encSt wire_Ints_l0_t wire_Ints_l0_s wire_Ints_l0_h ds) k = wire_Ints_l0_ev wire_Int 1000 (encSt wire_Ints_l0_t wire_Ints_l0_s wire_Ints_l0_h [.q (.int .i64 (.nil)) (hdQ (.int .i64 (.nil)) ds), .i (hdI ds.tail), .i (hdI ds.tail.tail), .s (hdS ds.tail.tail.tail)]) k := by kernel_rfl
  have h2 := wire_Ints_l0_eq wire_Int 1000 (hdQ (.int .i64 (.nil)) ds) (hdI ds.tail) (hdI ds.tail.tail) (hdS ds.tail.tail.tail) k
  exact h1.trans h2

theorem wire_Ints_ev {α : Type} (wire_Int : wire_Int_T α) : EvOk (α := α) Go.Proofs.Try.prog (envOf (wire_Ints_C wire_Int) wire_Ints_q wire_Ints_inl 1000 wire_Ints_ann false (wire_Ints_loops wire_Int) hooks) 6 (wire_Ints_sp (wire_Ints_g wire_Int)) := by intro ds k; kernel_rfl

theorem wire_Ints_ok {α : Type} : (wire_Ints_spec : FunSpec α).ok Go.Proofs.Try.prog :=
  FunSpec.ok_of (sp := wire_Ints_spec) (C := wire_Ints_C wire_Int) (q := wire_Ints_q) (inl := wire_Ints_inl) (N := 1000) (ann := wire_Ints_ann) (fr := false) (D := 6) (l := (wire_Ints_loops wire_Int)) (hk := hooks) (okCons wire_Int_ok okNil) (lokCons (wire_Ints_l0_ok wire_Int) lokNil) hooks_ok (wire_Ints_ev wire_Int)

end
end Go.Rv.Try

set_option linter.unusedVariables false
set_option maxRecDepth 100000
set_option maxHeartbeats 4000000
namespace Go.Rv.Try
open Go Go.Rv Go.RowKit
noncomputable section

-- drayman/wire.Flag

abbrev wire_Flag_T (α : Type) : Type := Bool → (ByteArray → Option α) → Option α

noncomputable def wire_Flag {α : Type} (b1 : Bool) (k : ByteArray → Option α) : Option α :=
  (cond b1
    (k (⟨#[1]⟩ : ByteArray))
    (k (⟨#[0]⟩ : ByteArray)))

noncomputable def wire_Flag_sp {α : Type} (wire_Flag : wire_Flag_T α) : FunSpec α := ⟨99, [.bool], [], fun ds k => wire_Flag (hdB ds) (fun r1 => k (enc dep (.str) [.s r1]).1 [])⟩

noncomputable def wire_Flag_spec {α : Type} : FunSpec α := wire_Flag_sp wire_Flag

noncomputable def wire_Flag_C {α : Type} : List (FunSpec α) := []

noncomputable def wire_Flag_q : FuncId → Bool := fun f => false

noncomputable def wire_Flag_inl : FuncId → Bool := fun f => false

noncomputable def wire_Flag_ann : FuncId → AnnT := fun f p => ⟨[], [], [], [], 0, [], [], none⟩

noncomputable def wire_Flag_loops {α : Type} : List (LoopSpec α) := []

theorem wire_Flag_ev {α : Type} : EvOk (α := α) Go.Proofs.Try.prog (envOf (wire_Flag_C) wire_Flag_q wire_Flag_inl 1000 wire_Flag_ann false (wire_Flag_loops) (fun _ => none)) 6 (wire_Flag_sp (wire_Flag)) := by intro ds k; kernel_rfl

theorem wire_Flag_ok {α : Type} : (wire_Flag_spec : FunSpec α).ok Go.Proofs.Try.prog :=
  FunSpec.ok_of (sp := wire_Flag_spec) (C := wire_Flag_C) (q := wire_Flag_q) (inl := wire_Flag_inl) (N := 1000) (ann := wire_Flag_ann) (fr := false) (D := 6) (l := (wire_Flag_loops)) (hk := (fun _ => none)) okNil lokNil noHooks (wire_Flag_ev)

end
end Go.Rv.Try

set_option linter.unusedVariables false
set_option maxRecDepth 100000
set_option maxHeartbeats 4000000
namespace Go.Rv.Try
open Go Go.Rv Go.RowKit
noncomputable section

-- drayman/msg.PutEntry

abbrev msg_PutEntry_T (α : Type) : Type := Z0 → (ByteArray → Option α) → Option α

noncomputable def msg_PutEntry_g {α : Type} (wire_Ints : wire_Ints_T α) (wire_Flag : wire_Flag_T α) (x1 : Int × Int × Int × Bool × Int × Int × Bool × Unit) (k : ByteArray → Option α) : Option α :=
  (wire_Ints (⟨false, 3, (tSel [(x1.1, ()), (x1.2.1, ()), (x1.2.2.1, ())] (0, ()))⟩ : Seq (Int × Unit)) fun r2 =>
    (wire_Flag x1.2.2.2.1 fun r3 =>
      (cond (Nat.ble ((r2).size + (r3).size) 9223372036854775807)
        (wire_Ints (⟨false, 2, (tSel [(x1.2.2.2.2.1, ()), (x1.2.2.2.2.2.1, ())] (0, ()))⟩ : Seq (Int × Unit)) fun r4 =>
          (cond (Nat.ble (((r2 ++ r3)).size + (r4).size) 9223372036854775807)
            (wire_Flag x1.2.2.2.2.2.2.1 fun r5 =>
              (cond (Nat.ble ((((r2 ++ r3) ++ r4)).size + (r5).size) 9223372036854775807)
                (k (((r2 ++ r3) ++ r4) ++ r5))
                none))
            none))
        none)))

noncomputable def msg_PutEntry {α : Type} : msg_PutEntry_T α := msg_PutEntry_g wire_Ints wire_Flag

noncomputable def msg_PutEntry_sp {α : Type} (msg_PutEntry : msg_PutEntry_T α) : FunSpec α := ⟨53, [.agg [.int .i64, .int .i64, .int .i64, .bool, .int .i64, .int .i64, .bool]], [], fun ds k => msg_PutEntry (hdI ds, hdI ds.tail, hdI ds.tail.tail, hdB ds.tail.tail.tail, hdI ds.tail.tail.tail.tail, hdI ds.tail.tail.tail.tail.tail, hdB ds.tail.tail.tail.tail.tail.tail, ()) (fun r1 => k (enc dep (.str) [.s r1]).1 [])⟩

noncomputable def msg_PutEntry_spec {α : Type} : FunSpec α := msg_PutEntry_sp msg_PutEntry

noncomputable def msg_PutEntry_C {α : Type} (wire_Ints : wire_Ints_T α) (wire_Flag : wire_Flag_T α) : List (FunSpec α) := [wire_Ints_sp wire_Ints, wire_Flag_sp wire_Flag]

noncomputable def msg_PutEntry_q : FuncId → Bool := fun f => Nat.beq f 98 || Nat.beq f 99

noncomputable def msg_PutEntry_inl : FuncId → Bool := fun f => false

noncomputable def msg_PutEntry_ann : FuncId → AnnT := fun f p => if f = 53 then (if p = [false, true] then ⟨[], [], [], [], 2, [], [], none⟩ else ⟨[], [], [], [], 0, [], [], none⟩) else ⟨[], [], [], [], 0, [], [], none⟩

noncomputable def msg_PutEntry_loops {α : Type} (wire_Ints : wire_Ints_T α) (wire_Flag : wire_Flag_T α) : List (LoopSpec α) := []

theorem msg_PutEntry_ev {α : Type} (wire_Ints : wire_Ints_T α) (wire_Flag : wire_Flag_T α) : EvOk (α := α) Go.Proofs.Try.prog (envOf (msg_PutEntry_C wire_Ints wire_Flag) msg_PutEntry_q msg_PutEntry_inl 1000 msg_PutEntry_ann false (msg_PutEntry_loops wire_Ints wire_Flag) (fun _ => none)) 6 (msg_PutEntry_sp (msg_PutEntry_g wire_Ints wire_Flag)) := by intro ds k; kernel_rfl

theorem msg_PutEntry_ok {α : Type} : (msg_PutEntry_spec : FunSpec α).ok Go.Proofs.Try.prog :=
  FunSpec.ok_of (sp := msg_PutEntry_spec) (C := msg_PutEntry_C wire_Ints wire_Flag) (q := msg_PutEntry_q) (inl := msg_PutEntry_inl) (N := 1000) (ann := msg_PutEntry_ann) (fr := false) (D := 6) (l := (msg_PutEntry_loops wire_Ints wire_Flag)) (hk := (fun _ => none)) (okCons wire_Ints_ok (okCons wire_Flag_ok okNil)) lokNil noHooks (msg_PutEntry_ev wire_Ints wire_Flag)

end
end Go.Rv.Try

set_option linter.unusedVariables false
set_option maxRecDepth 100000
set_option maxHeartbeats 4000000
namespace Go.Rv.Try
open Go Go.Rv Go.RowKit
noncomputable section

-- drayman/msg.PutReply

abbrev msg_PutReply_T (α : Type) : Type := (Int × Int × Int × Int × Bool × Int × Int × Unit) → (ByteArray → Option α) → Option α

noncomputable def msg_PutReply_g {α : Type} (wire_Ints : wire_Ints_T α) (wire_Flag : wire_Flag_T α) (x1 : Int × Int × Int × Int × Bool × Int × Int × Unit) (k : ByteArray → Option α) : Option α :=
  (wire_Ints (⟨false, 4, (tSel [(x1.1, ()), (x1.2.1, ()), (x1.2.2.1, ()), (x1.2.2.2.1, ())] (0, ()))⟩ : Seq (Int × Unit)) fun r2 =>
    (wire_Flag x1.2.2.2.2.1 fun r3 =>
      (cond (Nat.ble ((r2).size + (r3).size) 9223372036854775807)
        (wire_Ints (⟨false, 2, (tSel [(x1.2.2.2.2.2.1, ()), x1.2.2.2.2.2.2] (0, ()))⟩ : Seq (Int × Unit)) fun r4 =>
          (cond (Nat.ble (((r2 ++ r3)).size + (r4).size) 9223372036854775807)
            (k ((r2 ++ r3) ++ r4))
            none))
        none)))

noncomputable def msg_PutReply {α : Type} : msg_PutReply_T α := msg_PutReply_g wire_Ints wire_Flag

noncomputable def msg_PutReply_sp {α : Type} (msg_PutReply : msg_PutReply_T α) : FunSpec α := ⟨55, [.agg [.int .i64, .int .i64, .int .i64, .int .i64, .bool, .int .i64, .int .i64]], [], fun ds k => msg_PutReply (hdI ds, hdI ds.tail, hdI ds.tail.tail, hdI ds.tail.tail.tail, hdB ds.tail.tail.tail.tail, hdI ds.tail.tail.tail.tail.tail, hdI ds.tail.tail.tail.tail.tail.tail, ()) (fun r1 => k (enc dep (.str) [.s r1]).1 [])⟩

noncomputable def msg_PutReply_spec {α : Type} : FunSpec α := msg_PutReply_sp msg_PutReply

noncomputable def msg_PutReply_C {α : Type} (wire_Ints : wire_Ints_T α) (wire_Flag : wire_Flag_T α) : List (FunSpec α) := [wire_Ints_sp wire_Ints, wire_Flag_sp wire_Flag]

noncomputable def msg_PutReply_q : FuncId → Bool := fun f => Nat.beq f 98 || Nat.beq f 99

noncomputable def msg_PutReply_inl : FuncId → Bool := fun f => false

noncomputable def msg_PutReply_ann : FuncId → AnnT := fun f p => if f = 55 then (if p = [false, true] then ⟨[], [], [], [], 2, [], [], none⟩ else ⟨[], [], [], [], 0, [], [], none⟩) else ⟨[], [], [], [], 0, [], [], none⟩

noncomputable def msg_PutReply_loops {α : Type} (wire_Ints : wire_Ints_T α) (wire_Flag : wire_Flag_T α) : List (LoopSpec α) := []

theorem msg_PutReply_ev {α : Type} (wire_Ints : wire_Ints_T α) (wire_Flag : wire_Flag_T α) : EvOk (α := α) Go.Proofs.Try.prog (envOf (msg_PutReply_C wire_Ints wire_Flag) msg_PutReply_q msg_PutReply_inl 1000 msg_PutReply_ann false (msg_PutReply_loops wire_Ints wire_Flag) (fun _ => none)) 6 (msg_PutReply_sp (msg_PutReply_g wire_Ints wire_Flag)) := by intro ds k; kernel_rfl

theorem msg_PutReply_ok {α : Type} : (msg_PutReply_spec : FunSpec α).ok Go.Proofs.Try.prog :=
  FunSpec.ok_of (sp := msg_PutReply_spec) (C := msg_PutReply_C wire_Ints wire_Flag) (q := msg_PutReply_q) (inl := msg_PutReply_inl) (N := 1000) (ann := msg_PutReply_ann) (fr := false) (D := 6) (l := (msg_PutReply_loops wire_Ints wire_Flag)) (hk := (fun _ => none)) (okCons wire_Ints_ok (okCons wire_Flag_ok okNil)) lokNil noHooks (msg_PutReply_ev wire_Ints wire_Flag)

end
end Go.Rv.Try

set_option linter.unusedVariables false
set_option maxRecDepth 100000
set_option maxHeartbeats 4000000
namespace Go.Rv.Try
open Go Go.Rv Go.RowKit
noncomputable section

-- drayman/msg.Put

abbrev msg_Put_T (α : Type) : Type := (Int × Bool × Int × Int × Int × Int × Bool × Int × Int × Bool × Int × Int × Int × Int × Bool × Int × Int × Unit) → (ByteArray → Int → Option α) → Option α

noncomputable def msg_Put_g {α : Type} (msg_Fit : msg_Fit_T α) (wire_Ints : wire_Ints_T α) (wire_Flag : wire_Flag_T α) (msg_PutEntry : msg_PutEntry_T α) (msg_PutReply : msg_PutReply_T α) (x1 : Int × Bool × Int × Int × Int × Int × Bool × Int × Int × Bool × Int × Int × Int × Int × Bool × Int × Int × Unit) (k : ByteArray → Int → Option α) : Option α :=
  (msg_Fit x1 fun r2 =>
    (cond (!r2)
      (k (⟨#[]⟩ : ByteArray) 1)
      (wire_Ints (⟨false, 2, (tSel [(1, ()), (x1.1, ())] (0, ()))⟩ : Seq (Int × Unit)) fun r3 =>
        (wire_Flag x1.2.1 fun r4 =>
          (cond (Nat.ble ((r3).size + (r4).size) 9223372036854775807)
            (cond x1.2.1
              (msg_PutEntry (x1.2.2.2.1, x1.2.2.2.2.1, x1.2.2.2.2.2.1, x1.2.2.2.2.2.2.1, x1.2.2.2.2.2.2.2.1, x1.2.2.2.2.2.2.2.2.1, x1.2.2.2.2.2.2.2.2.2.1, ()) fun r5 =>
                (cond (Nat.ble (((r3 ++ r4)).size + (r5).size) 9223372036854775807)
                  (k ((r3 ++ r4) ++ r5) 0)
                  none))
              (msg_PutReply x1.2.2.2.2.2.2.2.2.2.2 fun r6 =>
                (cond (Nat.ble (((r3 ++ r4)).size + (r6).size) 9223372036854775807)
                  (k ((r3 ++ r4) ++ r6) 0)
                  none)))
            none)))))

noncomputable def msg_Put {α : Type} : msg_Put_T α := msg_Put_g msg_Fit wire_Ints wire_Flag msg_PutEntry msg_PutReply

noncomputable def msg_Put_sp {α : Type} (msg_Put : msg_Put_T α) : FunSpec α := ⟨47, [.agg [.int .i64, .bool, .int .i64, .int .i64, .int .i64, .int .i64, .bool, .int .i64, .int .i64, .bool, .int .i64, .int .i64, .int .i64, .int .i64, .bool, .int .i64, .int .i64]], [], fun ds k => msg_Put (hdI ds, hdB ds.tail, hdI ds.tail.tail, hdI ds.tail.tail.tail, hdI ds.tail.tail.tail.tail, hdI ds.tail.tail.tail.tail.tail, hdB ds.tail.tail.tail.tail.tail.tail, hdI ds.tail.tail.tail.tail.tail.tail.tail, hdI ds.tail.tail.tail.tail.tail.tail.tail.tail, hdB ds.tail.tail.tail.tail.tail.tail.tail.tail.tail, hdI ds.tail.tail.tail.tail.tail.tail.tail.tail.tail.tail, hdI ds.tail.tail.tail.tail.tail.tail.tail.tail.tail.tail.tail, hdI ds.tail.tail.tail.tail.tail.tail.tail.tail.tail.tail.tail.tail, hdI ds.tail.tail.tail.tail.tail.tail.tail.tail.tail.tail.tail.tail.tail, hdB ds.tail.tail.tail.tail.tail.tail.tail.tail.tail.tail.tail.tail.tail.tail, hdI ds.tail.tail.tail.tail.tail.tail.tail.tail.tail.tail.tail.tail.tail.tail.tail, hdI ds.tail.tail.tail.tail.tail.tail.tail.tail.tail.tail.tail.tail.tail.tail.tail.tail, ()) (fun r1 r2 => k (enc dep (.tup [.str, .int .i64]) [.s r1, .i r2]).1 [])⟩

noncomputable def msg_Put_spec {α : Type} : FunSpec α := msg_Put_sp msg_Put

noncomputable def msg_Put_C {α : Type} (msg_Fit : msg_Fit_T α) (wire_Ints : wire_Ints_T α) (wire_Flag : wire_Flag_T α) (msg_PutEntry : msg_PutEntry_T α) (msg_PutReply : msg_PutReply_T α) : List (FunSpec α) := [msg_Fit_sp msg_Fit, wire_Ints_sp wire_Ints, wire_Flag_sp wire_Flag, msg_PutEntry_sp msg_PutEntry, msg_PutReply_sp msg_PutReply]

noncomputable def msg_Put_q : FuncId → Bool := fun f => Nat.beq f 49 || Nat.beq f 53 || Nat.beq f 55 || Nat.beq f 98 || Nat.beq f 99

noncomputable def msg_Put_inl : FuncId → Bool := fun f => false

noncomputable def msg_Put_ann : FuncId → AnnT := fun f p => if f = 47 then (if p = [false, true, true] then ⟨[], [], [], [], 2, [], [], none⟩ else ⟨[], [], [], [], 0, [], [], none⟩) else ⟨[], [], [], [], 0, [], [], none⟩

noncomputable def msg_Put_loops {α : Type} (msg_Fit : msg_Fit_T α) (wire_Ints : wire_Ints_T α) (wire_Flag : wire_Flag_T α) (msg_PutEntry : msg_PutEntry_T α) (msg_PutReply : msg_PutReply_T α) : List (LoopSpec α) := []

theorem msg_Put_ev {α : Type} (msg_Fit : msg_Fit_T α) (wire_Ints : wire_Ints_T α) (wire_Flag : wire_Flag_T α) (msg_PutEntry : msg_PutEntry_T α) (msg_PutReply : msg_PutReply_T α) : EvOk (α := α) Go.Proofs.Try.prog (envOf (msg_Put_C msg_Fit wire_Ints wire_Flag msg_PutEntry msg_PutReply) msg_Put_q msg_Put_inl 1000 msg_Put_ann false (msg_Put_loops msg_Fit wire_Ints wire_Flag msg_PutEntry msg_PutReply) (fun _ => none)) 6 (msg_Put_sp (msg_Put_g msg_Fit wire_Ints wire_Flag msg_PutEntry msg_PutReply)) := by intro ds k; kernel_rfl

theorem msg_Put_ok {α : Type} : (msg_Put_spec : FunSpec α).ok Go.Proofs.Try.prog :=
  FunSpec.ok_of (sp := msg_Put_spec) (C := msg_Put_C msg_Fit wire_Ints wire_Flag msg_PutEntry msg_PutReply) (q := msg_Put_q) (inl := msg_Put_inl) (N := 1000) (ann := msg_Put_ann) (fr := false) (D := 6) (l := (msg_Put_loops msg_Fit wire_Ints wire_Flag msg_PutEntry msg_PutReply)) (hk := (fun _ => none)) (okCons msg_Fit_ok (okCons wire_Ints_ok (okCons wire_Flag_ok (okCons msg_PutEntry_ok (okCons msg_PutReply_ok okNil))))) lokNil noHooks (msg_Put_ev msg_Fit wire_Ints wire_Flag msg_PutEntry msg_PutReply)

end
end Go.Rv.Try

set_option linter.unusedVariables false
set_option maxRecDepth 100000
set_option maxHeartbeats 4000000
namespace Go.Rv.Try
open Go Go.Rv Go.RowKit
noncomputable section

-- drayman/wire.number

abbrev wire_number_T (α : Type) : Type := ByteArray → (Int → Int → Option α) → Option α

noncomputable def wire_number_l0_step {α : Type} (k0 : (Int) → (Int) → (Seq (Int × Unit)) → Option α) (rec : (Int) → (Int) → (Int) → (Int) → (Seq (Int × Unit)) → Option α) (x2 : Int) (p3 : Int) (x4 : Int) (x5 : Int) (q6 : Seq (Int × Unit)) : Option α :=
  (cond (decide (x5 < x4))
    (cond ((decide ((0 : Int) ≤ x5)) && (decide (x5 < (q6.n : Int))))
      (cond (Nat.blt x5.toNat q6.n)
        (rec x2 (iOr .u64 (IntKind.u64.wrap (p3 * 2 ^ (min 8 IntKind.u64.bits))) (IntKind.u64.wrap (q6.g x5.toNat).1)) x4 (IntKind.i64.wrap (x5 + 1)) q6)
        none)
      none)
    (k0 x2 p3 q6))

noncomputable def wire_number_l0_run {α : Type} (k0 : (Int) → (Int) → (Seq (Int × Unit)) → Option α) : Nat → (Int) → (Int) → (Int) → (Int) → (Seq (Int × Unit)) → Option α
  | 0, _, _, _, _, _ => none
  | n + 1, x2, p3, x4, x5, q6 => wire_number_l0_step k0 (fun x2 p3 x4 x5 q6 => wire_number_l0_run k0 n x2 p3 x4 x5 q6) x2 p3 x4 x5 q6

noncomputable def wire_number {α : Type} (s1 : ByteArray) (k : Int → Int → Option α) : Option α :=
  (cond (!(s1.toList == (⟨#[]⟩ : ByteArray).toList))
    (cond (decide ((0 : Int) < (s1.size : Int)))
      (cond (!(decide ((byteAt s1 0) > 8)))
        (cond (decide ((0 : Int) < (s1.size : Int)))
          (cond (!(decide ((s1.size : Int) ≤ (IntKind.i64.wrap (byteAt s1 0)))))
            (cond (decide ((0 : Int) < (s1.size : Int)))
              (cond (decide ((byteAt s1 0) > 0))
                (cond (decide ((1 : Int) < (s1.size : Int)))
                  (cond ((byteAt s1 1) == 0)
                    (k 0 0)
                    (cond (decide ((0 : Int) < (s1.size : Int)))
                      (cond ((((decide ((0 : Int) ≤ (IntKind.i64.wrap (1 + (IntKind.i64.wrap (byteAt s1 0)))))) && (decide ((IntKind.i64.wrap (1 + (IntKind.i64.wrap (byteAt s1 0)))) ≤ (s1.size : Int)))) && true) && (decide ((1 : Int) ≤ (IntKind.i64.wrap (1 + (IntKind.i64.wrap (byteAt s1 0)))))))
                        (wire_number_l0_run
                          (fun x7 x8 q9 =>
                            (cond ((iAnd .u64 x8 1) == 1)
                              (k (iNot .i64 (IntKind.i64.wrap (Int.fdiv x8 (2 ^ (min 1 IntKind.u64.bits))))) x7)
                              (k (IntKind.i64.wrap (Int.fdiv x8 (2 ^ (min 1 IntKind.u64.bits)))) x7)))
                          1000 (IntKind.i64.wrap (1 + (IntKind.i64.wrap (byteAt s1 0)))) 0 (((s1.extract 1 (IntKind.i64.wrap (1 + (IntKind.i64.wrap (byteAt s1 0)))).toNat).size : Nat) : Int) 0 (⟨false, (s1.extract 1 (IntKind.i64.wrap (1 + (IntKind.i64.wrap (byteAt s1 0)))).toNat).size, (byteG (s1.extract 1 (IntKind.i64.wrap (1 + (IntKind.i64.wrap (byteAt s1 0)))).toNat))⟩ : Seq (Int × Unit)))
                        none)
                      none))
                  none)
                (cond (decide ((0 : Int) < (s1.size : Int)))
                  (cond ((((decide ((0 : Int) ≤ (IntKind.i64.wrap (1 + (IntKind.i64.wrap (byteAt s1 0)))))) && (decide ((IntKind.i64.wrap (1 + (IntKind.i64.wrap (byteAt s1 0)))) ≤ (s1.size : Int)))) && true) && (decide ((1 : Int) ≤ (IntKind.i64.wrap (1 + (IntKind.i64.wrap (byteAt s1 0)))))))
                    (wire_number_l0_run
                      (fun x10 x11 q12 =>
                        (cond ((iAnd .u64 x11 1) == 1)
                          (k (iNot .i64 (IntKind.i64.wrap (Int.fdiv x11 (2 ^ (min 1 IntKind.u64.bits))))) x10)
                          (k (IntKind.i64.wrap (Int.fdiv x11 (2 ^ (min 1 IntKind.u64.bits)))) x10)))
                      1000 (IntKind.i64.wrap (1 + (IntKind.i64.wrap (byteAt s1 0)))) 0 (((s1.extract 1 (IntKind.i64.wrap (1 + (IntKind.i64.wrap (byteAt s1 0)))).toNat).size : Nat) : Int) 0 (⟨false, (s1.extract 1 (IntKind.i64.wrap (1 + (IntKind.i64.wrap (byteAt s1 0)))).toNat).size, (byteG (s1.extract 1 (IntKind.i64.wrap (1 + (IntKind.i64.wrap (byteAt s1 0)))).toNat))⟩ : Seq (Int × Unit)))
                    none)
                  none))
              none)
            (k 0 0))
          none)
        (k 0 0))
      none)
    (k 0 0))

noncomputable def wire_number_sp {α : Type} (wire_number : wire_number_T α) : FunSpec α := ⟨135, [.str], [], fun ds k => wire_number (hdS ds) (fun r1 r2 => k (enc dep (.tup [.int .i64, .int .i64]) [.i r1, .i r2]).1 [])⟩

noncomputable def wire_number_spec {α : Type} : FunSpec α := wire_number_sp wire_number

noncomputable def wire_number_C {α : Type} : List (FunSpec α) := []

noncomputable def wire_number_q : FuncId → Bool := fun f => false

noncomputable def wire_number_inl : FuncId → Bool := fun f => false

noncomputable def wire_number_ann : FuncId → AnnT := fun f p => if f = 135 then (if p = [true, false, true, true, true, true] then ⟨[4, 5, 41, 42, 43], [0], [4, 5], [2, 3], 0, [], [], none⟩ else ⟨[], [], [], [], 0, [], [], none⟩) else ⟨[], [], [], [], 0, [], [], none⟩

noncomputable def wire_number_l0_t : List Sh := [.dead, .dead, .dead, .dead, .int .i64, .int .u64, .dead, .dead, .dead, .dead, .dead, .dead, .dead, .dead, .dead, .dead, .dead, .dead, .dead, .dead, .dead, .dead, .dead, .dead, .dead, .dead, .dead, .dead, .dead, .dead, .dead, .dead, .dead, .dead, .dead, .dead, .dead, .dead, .dead, .dead, .dead, .own 0, .int .i64, .int .i64, .dead, .dead, .dead, .dead, .dead, .dead, .dead, .dead, .dead, .dead, .dead, .dead, .dead, .dead, .dead, .dead, .dead, .dead, .dead]
noncomputable def wire_number_l0_s : List (List Sh) := []
noncomputable def wire_number_l0_h : List BSh := [.row true (.int .u8 (.nil))]

noncomputable def wire_number_l0_spec {α : Type} : LoopSpec α := ⟨6, 135, [true, false, true, true, true, true], wire_number_l0_t, wire_number_l0_s, wire_number_l0_h, fun ds k => wire_number_l0_run (fun y1 y2 y3 => k (.exit 0) (encSt [.dead, .dead, .dead, .dead, .int .i64, .int .u64, .dead, .dead, .dead, .dead, .dead, .dead, .dead, .dead, .dead, .dead, .dead, .dead, .dead, .dead, .dead, .dead, .dead, .dead, .dead, .dead, .dead, .dead, .dead, .dead, .dead, .dead, .dead, .dead, .dead, .dead, .dead, .dead, .dead, .dead, .dead, .dead, .dead, .dead, .dead, .dead, .dead, .dead, .dead, .dead, .dead, .dead, .dead, .dead, .dead, .dead, .dead, .dead, .dead, .dead, .dead, .dead, .dead] [] [.row true (.int .u8 (.nil))] [.i y1, .i y2, .q (.int .u8 (.nil)) y3])) 1000 (hdI ds) (hdI ds.tail) (hdI ds.tail.tail) (hdI ds.tail.tail.tail) (hdQ (.int .u8 (.nil)) ds.tail.tail.tail.tail)⟩

noncomputable def wire_number_loops {α : Type} : List (LoopSpec α) := [wire_number_l0_spec]

noncomputable def wire_number_l0_ev {α : Type} (n : Nat) (st : St) (k : X → St → Option α) : Option α := loopN (evCode Go.Proofs.Try.prog (callD Go.Proofs.Try.prog (envOf (wire_number_C) wire_number_q wire_number_inl 1000 wire_number_ann false (wire_number_loops) (fun _ => none)) 6) (((envOf (wire_number_C) wire_number_q wire_number_inl 1000 wire_number_ann false (wire_number_loops) (fun _ => none)) : Env α).L 6 135) 1000 (wire_number_ann 135) (false :: [true, false, true, true, true, true]) (loopC Go.Proofs.Try.prog 135 [true, false, true, true, true, true])) ((wire_number_ann 135 [true, false, true, true, true, true]).head 1) ((wire_number_ann 135 [true, false, true, true, true, true]).leave 1) n st k

theorem wire_number_l0_eq {α : Type} : ∀ (n : Nat) (x2 : Int) (p3 : Int) (x4 : Int) (x5 : Int) (q6 : Seq (Int × Unit)) (k : X → St → Option α), wire_number_l0_ev n (encSt wire_number_l0_t wire_number_l0_s wire_number_l0_h [.i x2, .i p3, .i x4, .i x5, .q (.int .u8 (.nil)) q6]) k = wire_number_l0_run (fun y1 y2 y3 => k (.exit 0) (encSt [.dead, .dead, .dead, .dead, .int .i64, .int .u64, .dead, .dead, .dead, .dead, .dead, .dead, .dead, .dead, .dead, .dead, .dead, .dead, .dead, .dead, .dead, .dead, .dead, .dead, .dead, .dead, .dead, .dead, .dead, .dead, .dead, .dead, .dead, .dead, .dead, .dead, .dead, .dead, .dead, .dead, .dead, .dead, .dead, .dead, .dead, .dead, .dead, .dead, .dead, .dead, .dead, .dead, .dead, .dead, .dead, .dead, .dead, .dead, .dead, .dead, .dead, .dead, .dead] [] [.row true (.int .u8 (.nil))] [.i y1, .i y2, .q (.int .u8 (.nil)) y3])) n x2 p3 x4 x5 q6 := by
  intro n
  induction n with
  | zero => intros; kernel_rfl
  | succ n ih =>
    intro x2 p3 x4 x5 q6 k
    have e : (fun (x2 : Int) (p3 : Int) (x4 : Int) (x5 : Int) (q6 : Seq (Int × Unit)) => wire_number_l0_ev n (encSt wire_number_l0_t wire_number_l0_s wire_number_l0_h [.i x2, .i p3, .i x4, .i x5, .q (.int .u8 (.nil)) q6]) k) = (fun (x2 : Int) (p3 : Int) (x4 : Int) (x5 : Int) (q6 : Seq (Int × Unit)) => wire_number_l0_run (fun y1 y2 y3 => k (.exit 0) (encSt [.dead, .dead, .dead, .dead, .int .i64, .int .u64, .dead, .dead, .dead, .dead, .dead, .dead, .dead, .dead, .dead, .dead, .dead, .dead, .dead, .dead, .dead, .dead, .dead, .dead, .dead, .dead, .dead, .dead, .dead, .dead, .dead, .dead, .dead, .dead, .dead, .dead, .dead, .dead, .dead, .dead, .dead, .dead, .dead, .dead, .dead, .dead, .dead, .dead, .dead, .dead, .dead, .dead, .dead, .dead, .dead, .dead, .dead, .dead, .dead, .dead, .dead, .dead, .dead] [] [.row true (.int .u8 (.nil))] [.i y1, .i y2, .q (.int .u8 (.nil)) y3])) n x2 p3 x4 x5 q6) := by
      funext x2 p3 x4 x5 q6
      exact ih x2 p3 x4 x5 q6 k
    have h1 : wire_number_l0_ev (n + 1) (encSt wire_number_l0_t wire_number_l0_s wire_number_l0_h [.i x2, .i p3, .i x4, .i x5, .q (.int .u8 (.nil)) q6]) k = wire_number_l0_step (fun y1 y2 y3 => k (.exit 0) (encSt [.dead, .dead, .dead, .dead, .int .i64, .int .u64, .dead, .dead, .dead, .dead, .dead, .dead, .dead, .dead, .dead, .dead, .dead, .dead, .dead, .dead, .dead, .dead, .dead, .dead, .dead, .dead, .dead, .dead, .dead, .dead, .dead, .dead, .dead, .dead, .dead, .dead, .dead, .dead, .dead, .dead, .dead, .dead, .dead, .dead, .dead, .dead, .dead, .dead, .dead, .dead, .dead, .dead, .dead, .dead, .dead, .dead, .dead, .dead, .dead, .dead, .dead, .dead, .dead] [] [.row true (.int .u8 (.nil))] [.i y1, .i y2, .q (.int .u8 (.nil)) y3])) (fun (x2 : Int) (p3 : Int) (x4 : Int) (x5 : Int) (q6 : Seq (Int × Unit)) => wire_number_l0_ev n (encSt wire_number_l0_t wire_number_l0_s wire_number_l0_h [.i x2, .i p3, .i x4, .i x5, .q (.int .u8 (.nil)) q6]) k) x2 p3 x4 x5 q6 := by kernel_rfl
    have h2 := congrArg (fun r => wire_number_l0_step (fun y1 y2 y3 => k (.exit 0) (encSt [.dead, .dead, .dead, .dead, .int .i64, .int .u64, .dead, .dead, .dead, .dead, .dead, .dead, .dead, .dead, .dead, .dead, .dead, .dead, .dead, .dead, .dead, .dead, .dead, .dead, .dead, .dead, .dead, .dead, .dead, .dead, .dead, .dead, .dead, .dead, .dead, .dead, .dead, .dead, .dead, .dead, .dead, .dead, .dead, .dead, .dead, .dead, .dead, .dead, .dead, .dead, .dead, .dead, .dead, .dead, .dead, .dead, .dead, .dead, .dead, .dead, .dead, .dead, .dead] [] [.row true (.int .u8 (.nil))] [.i y1, .i y2, .q (.int .u8 (.nil)) y3])) r x2 p3 x4 x5 q6) e
    have h3 : wire_number_l0_step (fun y1 y2 y3 => k (.exit 0) (encSt [.dead, .dead, .dead, .dead, .int .i64, .int .u64, .dead, .dead, .dead, .dead, .dead, .dead, .dead, .dead, .dead, .dead, .dead, .dead, .dead, .dead, .dead, .dead, .dead, .dead, .dead, .dead, .dead, .dead, .dead, .dead, .dead, .dead, .dead, .dead, .dead, .dead, .dead, .dead, .dead, .dead, .dead, .dead, .dead, .dead, .dead, .dead, .dead, .dead, .dead, .dead, .dead, .dead, .dead, .dead, .dead, .dead, .dead, .dead, .dead, .dead, .dead, .dead, .dead] [] [.row true (.int .u8 (.nil))] [.i y1, .i y2, .q (.int .u8 (.nil)) y3])) (fun (x2 : Int) (p3 : Int) (x4 : Int) (x5 : Int) (q6 : Seq (Int × Unit)) => wire_number_l0_run (fun y1 y2 y3 => k (.exit 0) (encSt [.dead, .dead, .dead, .dead, .int .i64, .int .u64, .dead, .dead, .dead, .dead, .dead, .dead, .dead, .dead, .dead, .dead, .dead, .dead, .dead, .dead, .dead, .dead, .dead, .dead, .dead, .dead, .dead, .dead, .dead, .dead, .dead, .dead, .dead, .dead, .dead, .dead, .dead, .dead, .dead, .dead, .dead, .dead, .dead, .dead, .dead, .dead, .dead, .dead, .dead, .dead, .dead, .dead, .dead, .dead, .dead, .dead, .dead, .dead, .dead, .dead, .dead, .dead, .dead] [] [.row true (.int .u8 (.nil))] [.i y1, .i y2, .q (.int .u8 (.nil)) y3])) n x2 p3 x4 x5 q6) x2 p3 x4 x5 q6 = wire_number_l0_run (fun y1 y2 y3 => k (.exit 0) (encSt [.dead, .dead, .dead, .dead, .int .i64, .int .u64, .dead, .dead, .dead, .dead, .dead, .dead, .dead, .dead, .dead, .dead, .dead, .dead, .dead, .dead, .dead, .dead, .dead, .dead, .dead, .dead, .dead, .dead, .dead, .dead, .dead, .dead, .dead, .dead, .dead, .dead, .dead, .dead, .dead, .dead, .dead, .dead, .dead, .dead, .dead, .dead, .dead, .dead, .dead, .dead, .dead, .dead, .dead, .dead, .dead, .dead, .dead, .dead, .dead, .dead, .dead, .dead, .dead] [] [.row true (.int .u8 (.nil))] [.i y1, .i y2, .q (.int .u8 (.nil)) y3])) (n + 1) x2 p3 x4 x5 q6 := by kernel_rfl
    exact h1.trans (h2.trans h3)

theorem wire_number_l0_ok {α : Type} : (wire_number_l0_spec : LoopSpec α).ok Go.Proofs.Try.prog (envOf (wire_number_C) wire_number_q wire_number_inl 1000 wire_number_ann false (wire_number_loops) (fun _ => none)) := by
  intro ds k
  have h1 : wire_number_l0_ev 1000 (encSt wire_number_l0_t wire_number_l0_s wire_number_l0_h ds) k = wire_number_l0_ev 1000 (encSt wire_number_l0_t wire_number_l0_s wire_number_l0_h [.i (hdI ds), .i (hdI ds.tail), .i (hdI ds.tail.tail), .i (hdI ds.tail.tail.tail), .q (.int .u8 (.nil)) (hdQ (.int .u8 (.nil)) ds.tail.tail.tail.tail)]) k := by kernel_rfl
  have h2 := wire_number_l0_eq 1000 (hdI ds) (hdI ds.tail) (hdI ds.tail.tail) (hdI ds.tail.tail.tail) (hdQ (.int .u8 (.nil)) ds.tail.tail.tail.tail) k
  exact h1.trans h2

theorem wire_number_ev {α : Type} : EvOk (α := α) Go.Proofs.Try.prog (envOf (wire_number_C) wire_number_q wire_number_inl 1000 wire_number_ann false (wire_number_loops) (fun _ => none)) 6 (wire_number_sp (wire_number)) := by intro ds k; kernel_rfl

theorem wire_number_ok {α : Type} : (wire_number_spec : FunSpec α).ok Go.Proofs.Try.prog :=
  FunSpec.ok_of (sp := wire_number_spec) (C := wire_number_C) (q := wire_number_q) (inl := wire_number_inl) (N := 1000) (ann := wire_number_ann) (fr := false) (D := 6) (l := (wire_number_loops)) (hk := (fun _ => none)) okNil (lokCons (wire_number_l0_ok) lokNil) noHooks (wire_number_ev)

end
end Go.Rv.Try

set_option linter.unusedVariables false
set_option maxRecDepth 100000
set_option maxHeartbeats 4000000
namespace Go.Rv.Try
open Go Go.Rv Go.RowKit
noncomputable section

-- (*drayman/wire.Reader).take

abbrev wire_Reader_take_T (α : Type) : Type := Int → (ByteArray × Bool × Unit) → (ByteArray → (ByteArray × Bool × Unit) → Option α) → Option α

noncomputable def wire_Reader_take {α : Type} (n1 : Int) (x2 : ByteArray × Bool × Unit) (k : ByteArray → (ByteArray × Bool × Unit) → Option α) : Option α :=
  (cond ((decide ((0 : Int) ≤ n1)) && (decide (n1 ≤ (x2.1.size : Int))))
    (cond ((decide ((0 : Int) ≤ n1)) && (decide (n1 ≤ (x2.1.size : Int))))
      (k (x2.1.extract 0 n1.toNat) ((x2.1.extract n1.toNat x2.1.size), x2.2.1, ()))
      none)
    none)

noncomputable def wire_Reader_take_sp {α : Type} (wire_Reader_take : wire_Reader_take_T α) : FunSpec α := ⟨136, [.ref 0 0, .int .i64], [.box [.str, .bool]], fun ds k => wire_Reader_take (hdI ds) (hdS ds.tail, hdB ds.tail.tail, ()) (fun r1 r2 => k (enc dep (.str) [.s r1]).1 (encBs [.box [.str, .bool]] [.s r2.1, .b r2.2.1]).1)⟩

noncomputable def wire_Reader_take_spec {α : Type} : FunSpec α := wire_Reader_take_sp wire_Reader_take

noncomputable def wire_Reader_take_C {α : Type} : List (FunSpec α) := []

noncomputable def wire_Reader_take_q : FuncId → Bool := fun f => false

noncomputable def wire_Reader_take_inl : FuncId → Bool := fun f => false

noncomputable def wire_Reader_take_ann : FuncId → AnnT := fun f p => ⟨[], [], [], [], 0, [], [], none⟩

noncomputable def wire_Reader_take_loops {α : Type} : List (LoopSpec α) := []

theorem wire_Reader_take_ev {α : Type} : EvOk (α := α) Go.Proofs.Try.prog (envOf (wire_Reader_take_C) wire_Reader_take_q wire_Reader_take_inl 1000 wire_Reader_take_ann false (wire_Reader_take_loops) (fun _ => none)) 6 (wire_Reader_take_sp (wire_Reader_take)) := by intro ds k; kernel_rfl

theorem wire_Reader_take_ok {α : Type} : (wire_Reader_take_spec : FunSpec α).ok Go.Proofs.Try.prog :=
  FunSpec.ok_of (sp := wire_Reader_take_spec) (C := wire_Reader_take_C) (q := wire_Reader_take_q) (inl := wire_Reader_take_inl) (N := 1000) (ann := wire_Reader_take_ann) (fr := false) (D := 6) (l := (wire_Reader_take_loops)) (hk := (fun _ => none)) okNil lokNil noHooks (wire_Reader_take_ev)

end
end Go.Rv.Try

set_option linter.unusedVariables false
set_option maxRecDepth 100000
set_option maxHeartbeats 4000000
namespace Go.Rv.Try
open Go Go.Rv Go.RowKit
noncomputable section

-- (*drayman/wire.Reader).Int

abbrev wire_Reader_Int_T (α : Type) : Type := Int → Int → (ByteArray × Bool × Unit) → (Int → (ByteArray × Bool × Unit) → Option α) → Option α

noncomputable def wire_Reader_Int_g {α : Type} (wire_number : wire_number_T α) (wire_Reader_take : wire_Reader_take_T α) (low1 : Int) (high2 : Int) (x3 : ByteArray × Bool × Unit) (k : Int → (ByteArray × Bool × Unit) → Option α) : Option α :=
  (cond (!(!x3.2.1))
    (cond (!x3.2.1)
      (k 0 x3)
      (wire_number x3.1 fun r4 r5 =>
        (cond (decide (r5 > 0))
          (cond (decide (low1 ≤ r4))
            (cond (!(!x3.2.1))
              (cond (!(decide (r4 ≤ high2)))
                (k 0 ((⟨#[]⟩ : ByteArray), false, ()))
                (cond (!x3.2.1)
                  (k 0 x3)
                  (wire_Reader_take r5 x3 fun r6 r7 =>
                    (k r4 r7))))
              (k 0 ((⟨#[]⟩ : ByteArray), false, ())))
            (cond (!(!x3.2.1))
              (k 0 ((⟨#[]⟩ : ByteArray), false, ()))
              (k 0 ((⟨#[]⟩ : ByteArray), false, ()))))
          (cond (!(!x3.2.1))
            (k 0 ((⟨#[]⟩ : ByteArray), false, ()))
            (k 0 ((⟨#[]⟩ : ByteArray), false, ()))))))
    (k 0 ((⟨#[]⟩ : ByteArray), false, ())))

noncomputable def wire_Reader_Int {α : Type} : wire_Reader_Int_T α := wire_Reader_Int_g wire_number wire_Reader_take

noncomputable def wire_Reader_Int_sp {α : Type} (wire_Reader_Int : wire_Reader_Int_T α) : FunSpec α := ⟨106, [.ref 0 0, .int .i64, .int .i64], [.box [.str, .bool]], fun ds k => wire_Reader_Int (hdI ds) (hdI ds.tail) (hdS ds.tail.tail, hdB ds.tail.tail.tail, ()) (fun r1 r2 => k (enc dep (.int .i64) [.i r1]).1 (encBs [.box [.str, .bool]] [.s r2.1, .b r2.2.1]).1)⟩

noncomputable def wire_Reader_Int_spec {α : Type} : FunSpec α := wire_Reader_Int_sp wire_Reader_Int

noncomputable def wire_Reader_Int_C {α : Type} (wire_number : wire_number_T α) (wire_Reader_take : wire_Reader_take_T α) : List (FunSpec α) := [wire_number_sp wire_number, wire_Reader_take_sp wire_Reader_take]

noncomputable def wire_Reader_Int_q : FuncId → Bool := fun f => Nat.beq f 135 || Nat.beq f 136

noncomputable def wire_Reader_Int_inl : FuncId → Bool := fun f => Nat.beq f 134

noncomputable def wire_Reader_Int_ann : FuncId → AnnT := fun f p => ⟨[], [], [], [], 0, [], [], none⟩

noncomputable def wire_Reader_Int_loops {α : Type} (wire_number : wire_number_T α) (wire_Reader_take : wire_Reader_take_T α) : List (LoopSpec α) := []

theorem wire_Reader_Int_ev {α : Type} (wire_number : wire_number_T α) (wire_Reader_take : wire_Reader_take_T α) : EvOk (α := α) Go.Proofs.Try.prog (envOf (wire_Reader_Int_C wire_number wire_Reader_take) wire_Reader_Int_q wire_Reader_Int_inl 1000 wire_Reader_Int_ann false (wire_Reader_Int_loops wire_number wire_Reader_take) (fun _ => none)) 6 (wire_Reader_Int_sp (wire_Reader_Int_g wire_number wire_Reader_take)) := by intro ds k; kernel_rfl

theorem wire_Reader_Int_ok {α : Type} : (wire_Reader_Int_spec : FunSpec α).ok Go.Proofs.Try.prog :=
  FunSpec.ok_of (sp := wire_Reader_Int_spec) (C := wire_Reader_Int_C wire_number wire_Reader_take) (q := wire_Reader_Int_q) (inl := wire_Reader_Int_inl) (N := 1000) (ann := wire_Reader_Int_ann) (fr := false) (D := 6) (l := (wire_Reader_Int_loops wire_number wire_Reader_take)) (hk := (fun _ => none)) (okCons wire_number_ok (okCons wire_Reader_take_ok okNil)) lokNil noHooks (wire_Reader_Int_ev wire_number wire_Reader_take)

end
end Go.Rv.Try

set_option linter.unusedVariables false
set_option maxRecDepth 100000
set_option maxHeartbeats 4000000
namespace Go.Rv.Try
open Go Go.Rv Go.RowKit
noncomputable section

-- (*drayman/wire.Reader).Flag

abbrev wire_Reader_Flag_T (α : Type) : Type := (ByteArray × Bool × Unit) → (Bool → (ByteArray × Bool × Unit) → Option α) → Option α

noncomputable def wire_Reader_Flag_g {α : Type} (wire_Reader_take : wire_Reader_take_T α) (x1 : ByteArray × Bool × Unit) (k : Bool → (ByteArray × Bool × Unit) → Option α) : Option α :=
  (cond (!(!x1.2.1))
    (cond (!(!x1.2.1))
      (cond (!(x1.1.toList == (⟨#[]⟩ : ByteArray).toList))
        (cond (decide ((0 : Int) < (x1.1.size : Int)))
          (cond (!(!x1.2.1))
            (cond (!(decide ((byteAt x1.1 0) ≤ 1)))
              (k false ((⟨#[]⟩ : ByteArray), false, ()))
              (cond (!x1.2.1)
                (k false x1)
                (wire_Reader_take 1 x1 fun r2 r3 =>
                  (k (r2.toList == (⟨#[1]⟩ : ByteArray).toList) r3))))
            (k false ((⟨#[]⟩ : ByteArray), false, ())))
          none)
        (cond (!(!x1.2.1))
          (k false ((⟨#[]⟩ : ByteArray), false, ()))
          (k false ((⟨#[]⟩ : ByteArray), false, ()))))
      (k false x1))
    (k false ((⟨#[]⟩ : ByteArray), false, ())))

noncomputable def wire_Reader_Flag {α : Type} : wire_Reader_Flag_T α := wire_Reader_Flag_g wire_Reader_take

noncomputable def wire_Reader_Flag_sp {α : Type} (wire_Reader_Flag : wire_Reader_Flag_T α) : FunSpec α := ⟨108, [.ref 0 0], [.box [.str, .bool]], fun ds k => wire_Reader_Flag (hdS ds, hdB ds.tail, ()) (fun r1 r2 => k (enc dep (.bool) [.b r1]).1 (encBs [.box [.str, .bool]] [.s r2.1, .b r2.2.1]).1)⟩

noncomputable def wire_Reader_Flag_spec {α : Type} : FunSpec α := wire_Reader_Flag_sp wire_Reader_Flag

noncomputable def wire_Reader_Flag_C {α : Type} (wire_Reader_take : wire_Reader_take_T α) : List (FunSpec α) := [wire_Reader_take_sp wire_Reader_take]

noncomputable def wire_Reader_Flag_q : FuncId → Bool := fun f => Nat.beq f 136

noncomputable def wire_Reader_Flag_inl : FuncId → Bool := fun f => Nat.beq f 134

noncomputable def wire_Reader_Flag_ann : FuncId → AnnT := fun f p => ⟨[], [], [], [], 0, [], [], none⟩

noncomputable def wire_Reader_Flag_loops {α : Type} (wire_Reader_take : wire_Reader_take_T α) : List (LoopSpec α) := []

theorem wire_Reader_Flag_ev {α : Type} (wire_Reader_take : wire_Reader_take_T α) : EvOk (α := α) Go.Proofs.Try.prog (envOf (wire_Reader_Flag_C wire_Reader_take) wire_Reader_Flag_q wire_Reader_Flag_inl 1000 wire_Reader_Flag_ann false (wire_Reader_Flag_loops wire_Reader_take) (fun _ => none)) 6 (wire_Reader_Flag_sp (wire_Reader_Flag_g wire_Reader_take)) := by intro ds k; kernel_rfl

theorem wire_Reader_Flag_ok {α : Type} : (wire_Reader_Flag_spec : FunSpec α).ok Go.Proofs.Try.prog :=
  FunSpec.ok_of (sp := wire_Reader_Flag_spec) (C := wire_Reader_Flag_C wire_Reader_take) (q := wire_Reader_Flag_q) (inl := wire_Reader_Flag_inl) (N := 1000) (ann := wire_Reader_Flag_ann) (fr := false) (D := 6) (l := (wire_Reader_Flag_loops wire_Reader_take)) (hk := (fun _ => none)) (okCons wire_Reader_take_ok okNil) lokNil noHooks (wire_Reader_Flag_ev wire_Reader_take)

end
end Go.Rv.Try

set_option linter.unusedVariables false
set_option maxRecDepth 100000
set_option maxHeartbeats 4000000
namespace Go.Rv.Try
open Go Go.Rv Go.RowKit
noncomputable section

-- (*drayman/wire.Reader).Left

abbrev wire_Reader_Left_T (α : Type) : Type := (ByteArray × Bool × Unit) → (Int → (ByteArray × Bool × Unit) → Option α) → Option α

noncomputable def wire_Reader_Left {α : Type} (x1 : ByteArray × Bool × Unit) (k : Int → (ByteArray × Bool × Unit) → Option α) : Option α :=
  (k (x1.1.size : Int) x1)

noncomputable def wire_Reader_Left_sp {α : Type} (wire_Reader_Left : wire_Reader_Left_T α) : FunSpec α := ⟨63, [.ref 0 0], [.box [.str, .bool]], fun ds k => wire_Reader_Left (hdS ds, hdB ds.tail, ()) (fun r1 r2 => k (enc dep (.int .i64) [.i r1]).1 (encBs [.box [.str, .bool]] [.s r2.1, .b r2.2.1]).1)⟩

noncomputable def wire_Reader_Left_spec {α : Type} : FunSpec α := wire_Reader_Left_sp wire_Reader_Left

noncomputable def wire_Reader_Left_C {α : Type} : List (FunSpec α) := []

noncomputable def wire_Reader_Left_q : FuncId → Bool := fun f => false

noncomputable def wire_Reader_Left_inl : FuncId → Bool := fun f => false

noncomputable def wire_Reader_Left_ann : FuncId → AnnT := fun f p => ⟨[], [], [], [], 0, [], [], none⟩

noncomputable def wire_Reader_Left_loops {α : Type} : List (LoopSpec α) := []

theorem wire_Reader_Left_ev {α : Type} : EvOk (α := α) Go.Proofs.Try.prog (envOf (wire_Reader_Left_C) wire_Reader_Left_q wire_Reader_Left_inl 1000 wire_Reader_Left_ann false (wire_Reader_Left_loops) (fun _ => none)) 6 (wire_Reader_Left_sp (wire_Reader_Left)) := by intro ds k; kernel_rfl

theorem wire_Reader_Left_ok {α : Type} : (wire_Reader_Left_spec : FunSpec α).ok Go.Proofs.Try.prog :=
  FunSpec.ok_of (sp := wire_Reader_Left_spec) (C := wire_Reader_Left_C) (q := wire_Reader_Left_q) (inl := wire_Reader_Left_inl) (N := 1000) (ann := wire_Reader_Left_ann) (fr := false) (D := 6) (l := (wire_Reader_Left_loops)) (hk := (fun _ => none)) okNil lokNil noHooks (wire_Reader_Left_ev)

end
end Go.Rv.Try

set_option linter.unusedVariables false
set_option maxRecDepth 100000
set_option maxHeartbeats 4000000
namespace Go.Rv.Try
open Go Go.Rv Go.RowKit
noncomputable section

-- (*drayman/wire.Reader).Done

abbrev wire_Reader_Done_T (α : Type) : Type := (ByteArray × Bool × Unit) → (Bool → (ByteArray × Bool × Unit) → Option α) → Option α

noncomputable def wire_Reader_Done {α : Type} (x1 : ByteArray × Bool × Unit) (k : Bool → (ByteArray × Bool × Unit) → Option α) : Option α :=
  (cond x1.2.1
    (k (x1.1.toList == (⟨#[]⟩ : ByteArray).toList) x1)
    (k false x1))

noncomputable def wire_Reader_Done_sp {α : Type} (wire_Reader_Done : wire_Reader_Done_T α) : FunSpec α := ⟨65, [.ref 0 0], [.box [.str, .bool]], fun ds k => wire_Reader_Done (hdS ds, hdB ds.tail, ()) (fun r1 r2 => k (enc dep (.bool) [.b r1]).1 (encBs [.box [.str, .bool]] [.s r2.1, .b r2.2.1]).1)⟩

noncomputable def wire_Reader_Done_spec {α : Type} : FunSpec α := wire_Reader_Done_sp wire_Reader_Done

noncomputable def wire_Reader_Done_C {α : Type} : List (FunSpec α) := []

noncomputable def wire_Reader_Done_q : FuncId → Bool := fun f => false

noncomputable def wire_Reader_Done_inl : FuncId → Bool := fun f => false

noncomputable def wire_Reader_Done_ann : FuncId → AnnT := fun f p => ⟨[], [], [], [], 0, [], [], none⟩

noncomputable def wire_Reader_Done_loops {α : Type} : List (LoopSpec α) := []

theorem wire_Reader_Done_ev {α : Type} : EvOk (α := α) Go.Proofs.Try.prog (envOf (wire_Reader_Done_C) wire_Reader_Done_q wire_Reader_Done_inl 1000 wire_Reader_Done_ann false (wire_Reader_Done_loops) (fun _ => none)) 6 (wire_Reader_Done_sp (wire_Reader_Done)) := by intro ds k; kernel_rfl

theorem wire_Reader_Done_ok {α : Type} : (wire_Reader_Done_spec : FunSpec α).ok Go.Proofs.Try.prog :=
  FunSpec.ok_of (sp := wire_Reader_Done_spec) (C := wire_Reader_Done_C) (q := wire_Reader_Done_q) (inl := wire_Reader_Done_inl) (N := 1000) (ann := wire_Reader_Done_ann) (fr := false) (D := 6) (l := (wire_Reader_Done_loops)) (hk := (fun _ => none)) okNil lokNil noHooks (wire_Reader_Done_ev)

end
end Go.Rv.Try

set_option linter.unusedVariables false
set_option maxRecDepth 100000
set_option maxHeartbeats 4000000
namespace Go.Rv.Try
open Go Go.Rv Go.RowKit
noncomputable section

-- drayman/msg.bad

abbrev msg_bad_T (α : Type) : Type := (ByteArray × Bool × Unit) → (Bool → (ByteArray × Bool × Unit) → Option α) → Option α

noncomputable def msg_bad_g {α : Type} (wire_Reader_Left : wire_Reader_Left_T α) (wire_Reader_Done : wire_Reader_Done_T α) (x1 : ByteArray × Bool × Unit) (k : Bool → (ByteArray × Bool × Unit) → Option α) : Option α :=
  (wire_Reader_Left x1 fun r2 r3 =>
    (cond (r2 == 0)
      (wire_Reader_Done r3 fun r4 r5 =>
        (k (!r4) r5))
      (k false r3)))

noncomputable def msg_bad {α : Type} : msg_bad_T α := msg_bad_g wire_Reader_Left wire_Reader_Done

noncomputable def msg_bad_sp {α : Type} (msg_bad : msg_bad_T α) : FunSpec α := ⟨111, [.ref 0 0], [.box [.str, .bool]], fun ds k => msg_bad (hdS ds, hdB ds.tail, ()) (fun r1 r2 => k (enc dep (.bool) [.b r1]).1 (encBs [.box [.str, .bool]] [.s r2.1, .b r2.2.1]).1)⟩

noncomputable def msg_bad_spec {α : Type} : FunSpec α := msg_bad_sp msg_bad

noncomputable def msg_bad_C {α : Type} (wire_Reader_Left : wire_Reader_Left_T α) (wire_Reader_Done : wire_Reader_Done_T α) : List (FunSpec α) := [wire_Reader_Left_sp wire_Reader_Left, wire_Reader_Done_sp wire_Reader_Done]

noncomputable def msg_bad_q : FuncId → Bool := fun f => Nat.beq f 63 || Nat.beq f 65

noncomputable def msg_bad_inl : FuncId → Bool := fun f => false

noncomputable def msg_bad_ann : FuncId → AnnT := fun f p => ⟨[], [], [], [], 0, [], [], none⟩

noncomputable def msg_bad_loops {α : Type} (wire_Reader_Left : wire_Reader_Left_T α) (wire_Reader_Done : wire_Reader_Done_T α) : List (LoopSpec α) := []

theorem msg_bad_ev {α : Type} (wire_Reader_Left : wire_Reader_Left_T α) (wire_Reader_Done : wire_Reader_Done_T α) : EvOk (α := α) Go.Proofs.Try.prog (envOf (msg_bad_C wire_Reader_Left wire_Reader_Done) msg_bad_q msg_bad_inl 1000 msg_bad_ann false (msg_bad_loops wire_Reader_Left wire_Reader_Done) (fun _ => none)) 6 (msg_bad_sp (msg_bad_g wire_Reader_Left wire_Reader_Done)) := by intro ds k; kernel_rfl

theorem msg_bad_ok {α : Type} : (msg_bad_spec : FunSpec α).ok Go.Proofs.Try.prog :=
  FunSpec.ok_of (sp := msg_bad_spec) (C := msg_bad_C wire_Reader_Left wire_Reader_Done) (q := msg_bad_q) (inl := msg_bad_inl) (N := 1000) (ann := msg_bad_ann) (fr := false) (D := 6) (l := (msg_bad_loops wire_Reader_Left wire_Reader_Done)) (hk := (fun _ => none)) (okCons wire_Reader_Left_ok (okCons wire_Reader_Done_ok okNil)) lokNil noHooks (msg_bad_ev wire_Reader_Left wire_Reader_Done)

end
end Go.Rv.Try

set_option linter.unusedVariables false
set_option maxRecDepth 100000
set_option maxHeartbeats 4000000
namespace Go.Rv.Try
open Go Go.Rv Go.RowKit
noncomputable section

-- drayman/msg.TakeEntry

abbrev msg_TakeEntry_T (α : Type) : Type := (ByteArray × Bool × Unit) → (Z0 → (ByteArray × Bool × Unit) → Option α) → Option α

noncomputable def msg_TakeEntry_g {α : Type} (wire_Reader_Int : wire_Reader_Int_T α) (wire_Reader_Flag : wire_Reader_Flag_T α) (msg_bad : msg_bad_T α) (x1 : ByteArray × Bool × Unit) (k : Z0 → (ByteArray × Bool × Unit) → Option α) : Option α :=
  (wire_Reader_Int (-9223372036854775808) 9223372036854775807 x1 fun r2 r3 =>
    (wire_Reader_Int (-9223372036854775808) 9223372036854775807 r3 fun r4 r5 =>
      (wire_Reader_Int (-9223372036854775808) 9223372036854775807 r5 fun r6 r7 =>
        (wire_Reader_Flag r7 fun r8 r9 =>
          (wire_Reader_Int (-9223372036854775808) 9223372036854775807 r9 fun r10 r11 =>
            (wire_Reader_Int (-9223372036854775808) 9223372036854775807 r11 fun r12 r13 =>
              (wire_Reader_Flag r13 fun r14 r15 =>
                (msg_bad r15 fun r16 r17 =>
                  (cond r16
                    (k (0, 0, 0, false, 0, 0, false, ()) r17)
                    (k (r2, r4, r6, r8, r10, r12, r14, ()) r17))))))))))

noncomputable def msg_TakeEntry {α : Type} : msg_TakeEntry_T α := msg_TakeEntry_g wire_Reader_Int wire_Reader_Flag msg_bad

noncomputable def msg_TakeEntry_sp {α : Type} (msg_TakeEntry : msg_TakeEntry_T α) : FunSpec α := ⟨61, [.ref 0 0], [.box [.str, .bool]], fun ds k => msg_TakeEntry (hdS ds, hdB ds.tail, ()) (fun r1 r2 => k (enc dep (.agg [.int .i64, .int .i64, .int .i64, .bool, .int .i64, .int .i64, .bool]) [.i r1.1, .i r1.2.1, .i r1.2.2.1, .b r1.2.2.2.1, .i r1.2.2.2.2.1, .i r1.2.2.2.2.2.1, .b r1.2.2.2.2.2.2.1]).1 (encBs [.box [.str, .bool]] [.s r2.1, .b r2.2.1]).1)⟩

noncomputable def msg_TakeEntry_spec {α : Type} : FunSpec α := msg_TakeEntry_sp msg_TakeEntry

noncomputable def msg_TakeEntry_C {α : Type} (wire_Reader_Int : wire_Reader_Int_T α) (wire_Reader_Flag : wire_Reader_Flag_T α) (msg_bad : msg_bad_T α) : List (FunSpec α) := [wire_Reader_Int_sp wire_Reader_Int, wire_Reader_Flag_sp wire_Reader_Flag, msg_bad_sp msg_bad]

noncomputable def msg_TakeEntry_q : FuncId → Bool := fun f => Nat.beq f 106 || Nat.beq f 108 || Nat.beq f 111

noncomputable def msg_TakeEntry_inl : FuncId → Bool := fun f => Nat.beq f 107

noncomputable def msg_TakeEntry_ann : FuncId → AnnT := fun f p => if f = 107 then (if p = [true] then ⟨[0, 6, 7, 8], [0, 1, 2, 3, 4, 5, 6, 7, 8, 9, 10, 11, 12, 13, 14, 15, 16, 17, 18, 19, 20, 21, 22, 23, 24, 25, 26, 27, 28, 29, 30, 31, 32, 33, 34, 35, 36, 37, 38, 39, 40, 41, 42, 43, 44, 45, 46, 47], [], [], 0, [], [], none⟩ else ⟨[], [], [], [], 0, [], [], none⟩) else ⟨[], [], [], [], 0, [], [], none⟩

noncomputable def msg_TakeEntry_loops {α : Type} (wire_Reader_Int : wire_Reader_Int_T α) (wire_Reader_Flag : wire_Reader_Flag_T α) (msg_bad : msg_bad_T α) : List (LoopSpec α) := []

theorem msg_TakeEntry_ev {α : Type} (wire_Reader_Int : wire_Reader_Int_T α) (wire_Reader_Flag : wire_Reader_Flag_T α) (msg_bad : msg_bad_T α) : EvOk (α := α) Go.Proofs.Try.prog (envOf (msg_TakeEntry_C wire_Reader_Int wire_Reader_Flag msg_bad) msg_TakeEntry_q msg_TakeEntry_inl 1000 msg_TakeEntry_ann false (msg_TakeEntry_loops wire_Reader_Int wire_Reader_Flag msg_bad) (fun _ => none)) 6 (msg_TakeEntry_sp (msg_TakeEntry_g wire_Reader_Int wire_Reader_Flag msg_bad)) := by intro ds k; kernel_rfl

theorem msg_TakeEntry_ok {α : Type} : (msg_TakeEntry_spec : FunSpec α).ok Go.Proofs.Try.prog :=
  FunSpec.ok_of (sp := msg_TakeEntry_spec) (C := msg_TakeEntry_C wire_Reader_Int wire_Reader_Flag msg_bad) (q := msg_TakeEntry_q) (inl := msg_TakeEntry_inl) (N := 1000) (ann := msg_TakeEntry_ann) (fr := false) (D := 6) (l := (msg_TakeEntry_loops wire_Reader_Int wire_Reader_Flag msg_bad)) (hk := (fun _ => none)) (okCons wire_Reader_Int_ok (okCons wire_Reader_Flag_ok (okCons msg_bad_ok okNil))) lokNil noHooks (msg_TakeEntry_ev wire_Reader_Int wire_Reader_Flag msg_bad)

end
end Go.Rv.Try

set_option linter.unusedVariables false
set_option maxRecDepth 100000
set_option maxHeartbeats 4000000
namespace Go.Rv.Try
open Go Go.Rv Go.RowKit
noncomputable section

-- drayman/msg.TakeReply

abbrev msg_TakeReply_T (α : Type) : Type := (ByteArray × Bool × Unit) → ((Int × Int × Int × Int × Bool × Int × Int × Unit) → (ByteArray × Bool × Unit) → Option α) → Option α

noncomputable def msg_TakeReply_g {α : Type} (wire_Reader_Int : wire_Reader_Int_T α) (wire_Reader_Flag : wire_Reader_Flag_T α) (msg_bad : msg_bad_T α) (x1 : ByteArray × Bool × Unit) (k : (Int × Int × Int × Int × Bool × Int × Int × Unit) → (ByteArray × Bool × Unit) → Option α) : Option α :=
  (wire_Reader_Int (-9223372036854775808) 9223372036854775807 x1 fun r2 r3 =>
    (wire_Reader_Int (-9223372036854775808) 9223372036854775807 r3 fun r4 r5 =>
      (wire_Reader_Int (-9223372036854775808) 9223372036854775807 r5 fun r6 r7 =>
        (wire_Reader_Int (-9223372036854775808) 9223372036854775807 r7 fun r8 r9 =>
          (wire_Reader_Flag r9 fun r10 r11 =>
            (wire_Reader_Int (-9223372036854775808) 9223372036854775807 r11 fun r12 r13 =>
              (wire_Reader_Int (-9223372036854775808) 9223372036854775807 r13 fun r14 r15 =>
                (msg_bad r15 fun r16 r17 =>
                  (cond r16
                    (k (0, 0, 0, 0, false, 0, 0, ()) r17)
                    (k (r2, r4, r6, r8, r10, r12, r14, ()) r17))))))))))

noncomputable def msg_TakeReply {α : Type} : msg_TakeReply_T α := msg_TakeReply_g wire_Reader_Int wire_Reader_Flag msg_bad

noncomputable def msg_TakeReply_sp {α : Type} (msg_TakeReply : msg_TakeReply_T α) : FunSpec α := ⟨67, [.ref 0 0], [.box [.str, .bool]], fun ds k => msg_TakeReply (hdS ds, hdB ds.tail, ()) (fun r1 r2 => k (enc dep (.agg [.int .i64, .int .i64, .int .i64, .int .i64, .bool, .int .i64, .int .i64]) [.i r1.1, .i r1.2.1, .i r1.2.2.1, .i r1.2.2.2.1, .b r1.2.2.2.2.1, .i r1.2.2.2.2.2.1, .i r1.2.2.2.2.2.2.1]).1 (encBs [.box [.str, .bool]] [.s r2.1, .b r2.2.1]).1)⟩

noncomputable def msg_TakeReply_spec {α : Type} : FunSpec α := msg_TakeReply_sp msg_TakeReply

noncomputable def msg_TakeReply_C {α : Type} (wire_Reader_Int : wire_Reader_Int_T α) (wire_Reader_Flag : wire_Reader_Flag_T α) (msg_bad : msg_bad_T α) : List (FunSpec α) := [wire_Reader_Int_sp wire_Reader_Int, wire_Reader_Flag_sp wire_Reader_Flag, msg_bad_sp msg_bad]

noncomputable def msg_TakeReply_q : FuncId → Bool := fun f => Nat.beq f 106 || Nat.beq f 108 || Nat.beq f 111

noncomputable def msg_TakeReply_inl : FuncId → Bool := fun f => Nat.beq f 107

noncomputable def msg_TakeReply_ann : FuncId → AnnT := fun f p => if f = 107 then (if p = [true] then ⟨[0, 6, 7, 8], [0, 1, 2, 3, 4, 5, 6, 7, 8, 9, 10, 11, 12, 13, 14, 15, 16, 17, 18, 19, 20, 21, 22, 23, 24, 25, 26, 27, 28, 29, 30, 31, 32, 33, 34, 35, 36, 37, 38, 39, 40, 41, 42, 43, 44, 45, 46, 47], [], [], 0, [], [], none⟩ else ⟨[], [], [], [], 0, [], [], none⟩) else ⟨[], [], [], [], 0, [], [], none⟩

noncomputable def msg_TakeReply_loops {α : Type} (wire_Reader_Int : wire_Reader_Int_T α) (wire_Reader_Flag : wire_Reader_Flag_T α) (msg_bad : msg_bad_T α) : List (LoopSpec α) := []

theorem msg_TakeReply_ev {α : Type} (wire_Reader_Int : wire_Reader_Int_T α) (wire_Reader_Flag : wire_Reader_Flag_T α) (msg_bad : msg_bad_T α) : EvOk (α := α) Go.Proofs.Try.prog (envOf (msg_TakeReply_C wire_Reader_Int wire_Reader_Flag msg_bad) msg_TakeReply_q msg_TakeReply_inl 1000 msg_TakeReply_ann false (msg_TakeReply_loops wire_Reader_Int wire_Reader_Flag msg_bad) (fun _ => none)) 6 (msg_TakeReply_sp (msg_TakeReply_g wire_Reader_Int wire_Reader_Flag msg_bad)) := by intro ds k; kernel_rfl

theorem msg_TakeReply_ok {α : Type} : (msg_TakeReply_spec : FunSpec α).ok Go.Proofs.Try.prog :=
  FunSpec.ok_of (sp := msg_TakeReply_spec) (C := msg_TakeReply_C wire_Reader_Int wire_Reader_Flag msg_bad) (q := msg_TakeReply_q) (inl := msg_TakeReply_inl) (N := 1000) (ann := msg_TakeReply_ann) (fr := false) (D := 6) (l := (msg_TakeReply_loops wire_Reader_Int wire_Reader_Flag msg_bad)) (hk := (fun _ => none)) (okCons wire_Reader_Int_ok (okCons wire_Reader_Flag_ok (okCons msg_bad_ok okNil))) lokNil noHooks (msg_TakeReply_ev wire_Reader_Int wire_Reader_Flag msg_bad)

end
end Go.Rv.Try

set_option linter.unusedVariables false
set_option maxRecDepth 100000
set_option maxHeartbeats 4000000
namespace Go.Rv.Try
open Go Go.Rv Go.RowKit
noncomputable section

-- drayman/msg.Take

abbrev msg_Take_T (α : Type) : Type := ByteArray → ((Int × Bool × Int × Int × Int × Int × Bool × Int × Int × Bool × Int × Int × Int × Int × Bool × Int × Int × Unit) → Int → Option α) → Option α

noncomputable def msg_Take_g {α : Type} (wire_Reader_Int : wire_Reader_Int_T α) (wire_Reader_Flag : wire_Reader_Flag_T α) (msg_TakeEntry : msg_TakeEntry_T α) (outbox_Service : outbox_Service_T α) (wire_Reader_Done : wire_Reader_Done_T α) (msg_Fit : msg_Fit_T α) (msg_TakeReply : msg_TakeReply_T α) (s1 : ByteArray) (k : (Int × Bool × Int × Int × Int × Int × Bool × Int × Int × Bool × Int × Int × Int × Int × Bool × Int × Int × Unit) → Int → Option α) : Option α :=
  (wire_Reader_Int 1 1 (s1, true, ()) fun r2 r3 =>
    (wire_Reader_Int (-9223372036854775808) 9223372036854775807 r3 fun r4 r5 =>
      (wire_Reader_Flag r5 fun r6 r7 =>
        (cond r6
          (msg_TakeEntry r7 fun r8 r9 =>
            (outbox_Service r8.2.2.2.2.1 fun r10 =>
              (wire_Reader_Done r9 fun r11 r12 =>
                (cond (!(!r11))
                  (msg_Fit (r4, r6, r10, r8.1, r8.2.1, r8.2.2.1, r8.2.2.2.1, r8.2.2.2.2.1, r8.2.2.2.2.2.1, r8.2.2.2.2.2.2.1, 0, 0, 0, 0, false, 0, 0, ()) fun r13 =>
                    (cond (!r13)
                      (k (0, false, 0, 0, 0, 0, false, 0, 0, false, 0, 0, 0, 0, false, 0, 0, ()) 7)
                      (k (r4, r6, r10, r8.1, r8.2.1, r8.2.2.1, r8.2.2.2.1, r8.2.2.2.2.1, r8.2.2.2.2.2.1, r8.2.2.2.2.2.2.1, 0, 0, 0, 0, false, 0, 0, ()) 0)))
                  (k (0, false, 0, 0, 0, 0, false, 0, 0, false, 0, 0, 0, 0, false, 0, 0, ()) 7)))))
          (msg_TakeReply r7 fun r14 r15 =>
            (wire_Reader_Done r15 fun r16 r17 =>
              (cond (!(!r16))
                (msg_Fit (r4, r6, r14.1, 0, 0, 0, false, 0, 0, false, r14.1, r14.2.1, r14.2.2.1, r14.2.2.2.1, r14.2.2.2.2.1, r14.2.2.2.2.2.1, r14.2.2.2.2.2.2.1, ()) fun r18 =>
                  (cond (!r18)
                    (k (0, false, 0, 0, 0, 0, false, 0, 0, false, 0, 0, 0, 0, false, 0, 0, ()) 7)
                    (k (r4, r6, r14.1, 0, 0, 0, false, 0, 0, false, r14.1, r14.2.1, r14.2.2.1, r14.2.2.2.1, r14.2.2.2.2.1, r14.2.2.2.2.2.1, r14.2.2.2.2.2.2.1, ()) 0)))
                (k (0, false, 0, 0, 0, 0, false, 0, 0, false, 0, 0, 0, 0, false, 0, 0, ()) 7))))))))

noncomputable def msg_Take {α : Type} : msg_Take_T α := msg_Take_g wire_Reader_Int wire_Reader_Flag msg_TakeEntry outbox_Service wire_Reader_Done msg_Fit msg_TakeReply

noncomputable def msg_Take_sp {α : Type} (msg_Take : msg_Take_T α) : FunSpec α := ⟨58, [.str], [], fun ds k => msg_Take (hdS ds) (fun r1 r2 => k (enc dep (.tup [.agg [.int .i64, .bool, .int .i64, .int .i64, .int .i64, .int .i64, .bool, .int .i64, .int .i64, .bool, .int .i64, .int .i64, .int .i64, .int .i64, .bool, .int .i64, .int .i64], .int .i64]) [.i r1.1, .b r1.2.1, .i r1.2.2.1, .i r1.2.2.2.1, .i r1.2.2.2.2.1, .i r1.2.2.2.2.2.1, .b r1.2.2.2.2.2.2.1, .i r1.2.2.2.2.2.2.2.1, .i r1.2.2.2.2.2.2.2.2.1, .b r1.2.2.2.2.2.2.2.2.2.1, .i r1.2.2.2.2.2.2.2.2.2.2.1, .i r1.2.2.2.2.2.2.2.2.2.2.2.1, .i r1.2.2.2.2.2.2.2.2.2.2.2.2.1, .i r1.2.2.2.2.2.2.2.2.2.2.2.2.2.1, .b r1.2.2.2.2.2.2.2.2.2.2.2.2.2.2.1, .i r1.2.2.2.2.2.2.2.2.2.2.2.2.2.2.2.1, .i r1.2.2.2.2.2.2.2.2.2.2.2.2.2.2.2.2.1, .i r2]).1 [])⟩

noncomputable def msg_Take_spec {α : Type} : FunSpec α := msg_Take_sp msg_Take

noncomputable def msg_Take_C {α : Type} (wire_Reader_Int : wire_Reader_Int_T α) (wire_Reader_Flag : wire_Reader_Flag_T α) (msg_TakeEntry : msg_TakeEntry_T α) (outbox_Service : outbox_Service_T α) (wire_Reader_Done : wire_Reader_Done_T α) (msg_Fit : msg_Fit_T α) (msg_TakeReply : msg_TakeReply_T α) : List (FunSpec α) := [wire_Reader_Int_sp wire_Reader_Int, wire_Reader_Flag_sp wire_Reader_Flag, msg_TakeEntry_sp msg_TakeEntry, outbox_Service_sp outbox_Service, wire_Reader_Done_sp wire_Reader_Done, msg_Fit_sp msg_Fit, msg_TakeReply_sp msg_TakeReply]

noncomputable def msg_Take_q : FuncId → Bool := fun f => Nat.beq f 49 || Nat.beq f 61 || Nat.beq f 65 || Nat.beq f 67 || Nat.beq f 81 || Nat.beq f 106 || Nat.beq f 108

noncomputable def msg_Take_inl : FuncId → Bool := fun f => Nat.beq f 60 || Nat.beq f 107

noncomputable def msg_Take_ann : FuncId → AnnT := fun f p => if f = 107 then (if p = [true] then ⟨[0, 6, 7, 8], [0, 1, 2, 3, 4, 5, 6, 7, 8, 9, 10, 11, 12, 13, 14, 15, 16, 17, 18, 19, 20, 21, 22, 23, 24, 25, 26, 27, 28, 29, 30, 31, 32, 33, 34, 35, 36, 37, 38, 39, 40, 41, 42, 43, 44, 45, 46, 47], [], [], 0, [], [], none⟩ else ⟨[], [], [], [], 0, [], [], none⟩) else ⟨[], [], [], [], 0, [], [], none⟩

noncomputable def msg_Take_loops {α : Type} (wire_Reader_Int : wire_Reader_Int_T α) (wire_Reader_Flag : wire_Reader_Flag_T α) (msg_TakeEntry : msg_TakeEntry_T α) (outbox_Service : outbox_Service_T α) (wire_Reader_Done : wire_Reader_Done_T α) (msg_Fit : msg_Fit_T α) (msg_TakeReply : msg_TakeReply_T α) : List (LoopSpec α) := []

theorem msg_Take_ev {α : Type} (wire_Reader_Int : wire_Reader_Int_T α) (wire_Reader_Flag : wire_Reader_Flag_T α) (msg_TakeEntry : msg_TakeEntry_T α) (outbox_Service : outbox_Service_T α) (wire_Reader_Done : wire_Reader_Done_T α) (msg_Fit : msg_Fit_T α) (msg_TakeReply : msg_TakeReply_T α) : EvOk (α := α) Go.Proofs.Try.prog (envOf (msg_Take_C wire_Reader_Int wire_Reader_Flag msg_TakeEntry outbox_Service wire_Reader_Done msg_Fit msg_TakeReply) msg_Take_q msg_Take_inl 1000 msg_Take_ann false (msg_Take_loops wire_Reader_Int wire_Reader_Flag msg_TakeEntry outbox_Service wire_Reader_Done msg_Fit msg_TakeReply) (fun _ => none)) 6 (msg_Take_sp (msg_Take_g wire_Reader_Int wire_Reader_Flag msg_TakeEntry outbox_Service wire_Reader_Done msg_Fit msg_TakeReply)) := by intro ds k; kernel_rfl

theorem msg_Take_ok {α : Type} : (msg_Take_spec : FunSpec α).ok Go.Proofs.Try.prog :=
  FunSpec.ok_of (sp := msg_Take_spec) (C := msg_Take_C wire_Reader_Int wire_Reader_Flag msg_TakeEntry outbox_Service wire_Reader_Done msg_Fit msg_TakeReply) (q := msg_Take_q) (inl := msg_Take_inl) (N := 1000) (ann := msg_Take_ann) (fr := false) (D := 6) (l := (msg_Take_loops wire_Reader_Int wire_Reader_Flag msg_TakeEntry outbox_Service wire_Reader_Done msg_Fit msg_TakeReply)) (hk := (fun _ => none)) (okCons wire_Reader_Int_ok (okCons wire_Reader_Flag_ok (okCons msg_TakeEntry_ok (okCons outbox_Service_ok (okCons wire_Reader_Done_ok (okCons msg_Fit_ok (okCons msg_TakeReply_ok okNil))))))) lokNil noHooks (msg_Take_ev wire_Reader_Int wire_Reader_Flag msg_TakeEntry outbox_Service wire_Reader_Done msg_Fit msg_TakeReply)

end
end Go.Rv.Try

set_option linter.unusedVariables false
set_option maxRecDepth 100000
set_option maxHeartbeats 4000000
namespace Go.Rv.Try
open Go Go.Rv Go.RowKit
noncomputable section

-- drayman/draymanlaw23.awake

abbrev draymanlaw23_awake_T (α : Type) : Type := (Bool → Option α) → Option α

noncomputable def draymanlaw23_awake_g {α : Type} (msg_Put : msg_Put_T α) (msg_Take : msg_Take_T α) (k : Bool → Option α) : Option α :=
  (msg_Put (9, false, 1, 0, 0, 0, false, 0, 0, false, 1, 1, 3, 0, false, 2, 1, ()) fun r1 r2 =>
    (msg_Take r1 fun r3 r4 =>
      (msg_Take (⟨#[]⟩ : ByteArray) fun r5 r6 =>
        (cond (r2 == 0)
          (cond (r4 == 0)
            (cond ((r3.1 == 9) && ((r3.2.1 == false) && ((r3.2.2.1 == 1) && (((r3.2.2.2.1 == 0) && ((r3.2.2.2.2.1 == 0) && ((r3.2.2.2.2.2.1 == 0) && ((r3.2.2.2.2.2.2.1 == false) && ((r3.2.2.2.2.2.2.2.1 == 0) && ((r3.2.2.2.2.2.2.2.2.1 == 0) && ((r3.2.2.2.2.2.2.2.2.2.1 == false) && true))))))) && (((r3.2.2.2.2.2.2.2.2.2.2.1 == 1) && ((r3.2.2.2.2.2.2.2.2.2.2.2.1 == 1) && ((r3.2.2.2.2.2.2.2.2.2.2.2.2.1 == 3) && ((r3.2.2.2.2.2.2.2.2.2.2.2.2.2.1 == 0) && ((r3.2.2.2.2.2.2.2.2.2.2.2.2.2.2.1 == false) && ((r3.2.2.2.2.2.2.2.2.2.2.2.2.2.2.2.1 == 2) && ((r3.2.2.2.2.2.2.2.2.2.2.2.2.2.2.2.2.1 == 1) && true))))))) && true)))))
              (cond ((r1.size : Int) == 17)
                (k (r6 == 7))
                (k false))
              (k false))
            (k false))
          (k false)))))

noncomputable def draymanlaw23_awake {α : Type} : draymanlaw23_awake_T α := draymanlaw23_awake_g msg_Put msg_Take

noncomputable def draymanlaw23_awake_sp {α : Type} (draymanlaw23_awake : draymanlaw23_awake_T α) : FunSpec α := ⟨57, [], [], fun ds k => draymanlaw23_awake  (fun r1 => k (enc dep (.bool) [.b r1]).1 [])⟩

noncomputable def draymanlaw23_awake_spec {α : Type} : FunSpec α := draymanlaw23_awake_sp draymanlaw23_awake

noncomputable def draymanlaw23_awake_C {α : Type} (msg_Put : msg_Put_T α) (msg_Take : msg_Take_T α) : List (FunSpec α) := [msg_Put_sp msg_Put, msg_Take_sp msg_Take]

noncomputable def draymanlaw23_awake_q : FuncId → Bool := fun f => Nat.beq f 47 || Nat.beq f 58

noncomputable def draymanlaw23_awake_inl : FuncId → Bool := fun f => false

noncomputable def draymanlaw23_awake_ann : FuncId → AnnT := fun f p => ⟨[], [], [], [], 0, [], [], none⟩

noncomputable def draymanlaw23_awake_loops {α : Type} (msg_Put : msg_Put_T α) (msg_Take : msg_Take_T α) : List (LoopSpec α) := []

theorem draymanlaw23_awake_ev {α : Type} (msg_Put : msg_Put_T α) (msg_Take : msg_Take_T α) : EvOk (α := α) Go.Proofs.Try.prog (envOf (draymanlaw23_awake_C msg_Put msg_Take) draymanlaw23_awake_q draymanlaw23_awake_inl 1000 draymanlaw23_awake_ann false (draymanlaw23_awake_loops msg_Put msg_Take) (fun _ => none)) 6 (draymanlaw23_awake_sp (draymanlaw23_awake_g msg_Put msg_Take)) := by intro ds k; kernel_rfl

theorem draymanlaw23_awake_ok {α : Type} : (draymanlaw23_awake_spec : FunSpec α).ok Go.Proofs.Try.prog :=
  FunSpec.ok_of (sp := draymanlaw23_awake_spec) (C := draymanlaw23_awake_C msg_Put msg_Take) (q := draymanlaw23_awake_q) (inl := draymanlaw23_awake_inl) (N := 1000) (ann := draymanlaw23_awake_ann) (fr := false) (D := 6) (l := (draymanlaw23_awake_loops msg_Put msg_Take)) (hk := (fun _ => none)) (okCons msg_Put_ok (okCons msg_Take_ok okNil)) lokNil noHooks (draymanlaw23_awake_ev msg_Put msg_Take)

end
end Go.Rv.Try

set_option linter.unusedVariables false
set_option maxRecDepth 100000
set_option maxHeartbeats 4000000
namespace Go.Rv.Try
open Go Go.Rv Go.RowKit
noncomputable section

-- drayman/draymanlaw23.MsgBack

abbrev draymanlaw23_MsgBack_T (α : Type) : Type := (Int × Bool × Int × Int × Int × Int × Bool × Int × Int × Bool × Int × Int × Int × Int × Bool × Int × Int × Unit) → Z0 → (Int × Int × Int × Int × Bool × Int × Int × Unit) → ByteArray → (Bool → Option α) → Option α

noncomputable def draymanlaw23_MsgBack_g {α : Type} (draymanlaw23_awake : draymanlaw23_awake_T α) (msg_Take : msg_Take_T α) (msg_Put : msg_Put_T α) (msg_PutEntry : msg_PutEntry_T α) (msg_PutReply : msg_PutReply_T α) (msg_TakeEntry : msg_TakeEntry_T α) (wire_Reader_Done : wire_Reader_Done_T α) (msg_TakeReply : msg_TakeReply_T α) (msg_Fit : msg_Fit_T α) (x1 : Int × Bool × Int × Int × Int × Int × Bool × Int × Int × Bool × Int × Int × Int × Int × Bool × Int × Int × Unit) (x2 : Int × Int × Int × Bool × Int × Int × Bool × Unit) (x3 : Int × Int × Int × Int × Bool × Int × Int × Unit) (x4 : ByteArray) (k : Bool → Option α) : Option α :=
  (cond (decide ((x4.size : Int) > 200))
    (draymanlaw23_awake fun r5 =>
      (k r5))
    (msg_Take x4 fun r6 r7 =>
      (cond (r7 == 0)
        (msg_Put r6 fun r8 r9 =>
          (cond (!(r9 != 0))
            (cond (!(r8.toList == x4.toList))
              (k false)
              (msg_PutEntry x2 fun r10 =>
                (msg_PutReply x3 fun r11 =>
                  (msg_TakeEntry (r10, true, ()) fun r12 r13 =>
                    (cond (!(!((r12.1 == x2.1) && ((r12.2.1 == x2.2.1) && ((r12.2.2.1 == x2.2.2.1) && ((r12.2.2.2.1 == x2.2.2.2.1) && ((r12.2.2.2.2.1 == x2.2.2.2.2.1) && ((r12.2.2.2.2.2.1 == x2.2.2.2.2.2.1) && ((r12.2.2.2.2.2.2.1 == x2.2.2.2.2.2.2.1) && true)))))))))
                      (wire_Reader_Done r13 fun r14 r15 =>
                        (cond (!(!r14))
                          (msg_TakeReply (r11, true, ()) fun r16 r17 =>
                            (cond (!(!((r16.1 == x3.1) && ((r16.2.1 == x3.2.1) && ((r16.2.2.1 == x3.2.2.1) && ((r16.2.2.2.1 == x3.2.2.2.1) && ((r16.2.2.2.2.1 == x3.2.2.2.2.1) && ((r16.2.2.2.2.2.1 == x3.2.2.2.2.2.1) && ((r16.2.2.2.2.2.2.1 == x3.2.2.2.2.2.2.1) && true)))))))))
                              (wire_Reader_Done r17 fun r18 r19 =>
                                (cond (!r18)
                                  (k false)
                                  (msg_Put x1 fun r20 r21 =>
                                    (cond (r21 != 0)
                                      (cond (r20.toList == (⟨#[]⟩ : ByteArray).toList)
                                        (msg_Fit x1 fun r22 =>
                                          (cond (!r22)
                                            (draymanlaw23_awake fun r23 =>
                                              (k r23))
                                            (k false)))
                                        (k false))
                                      (cond (r20.toList == (⟨#[]⟩ : ByteArray).toList)
                                        (k false)
                                        (msg_Take r20 fun r24 r25 =>
                                          (cond (Nat.ble ((r20).size + ((⟨#[0]⟩ : ByteArray)).size) 9223372036854775807)
                                            (msg_Take (r20 ++ (⟨#[0]⟩ : ByteArray)) fun r26 r27 =>
                                              (cond ((decide ((0 : Int) ≤ (IntKind.i64.wrap ((r20.size : Int) - 1)))) && (decide ((IntKind.i64.wrap ((r20.size : Int) - 1)) ≤ (r20.size : Int))))
                                                (msg_Take (r20.extract 0 (IntKind.i64.wrap ((r20.size : Int) - 1)).toNat) fun r28 r29 =>
                                                  (cond (r25 == 0)
                                                    (cond ((r24.1 == x1.1) && ((r24.2.1 == x1.2.1) && ((r24.2.2.1 == x1.2.2.1) && (((r24.2.2.2.1 == x1.2.2.2.1) && ((r24.2.2.2.2.1 == x1.2.2.2.2.1) && ((r24.2.2.2.2.2.1 == x1.2.2.2.2.2.1) && ((r24.2.2.2.2.2.2.1 == x1.2.2.2.2.2.2.1) && ((r24.2.2.2.2.2.2.2.1 == x1.2.2.2.2.2.2.2.1) && ((r24.2.2.2.2.2.2.2.2.1 == x1.2.2.2.2.2.2.2.2.1) && ((r24.2.2.2.2.2.2.2.2.2.1 == x1.2.2.2.2.2.2.2.2.2.1) && true))))))) && (((r24.2.2.2.2.2.2.2.2.2.2.1 == x1.2.2.2.2.2.2.2.2.2.2.1) && ((r24.2.2.2.2.2.2.2.2.2.2.2.1 == x1.2.2.2.2.2.2.2.2.2.2.2.1) && ((r24.2.2.2.2.2.2.2.2.2.2.2.2.1 == x1.2.2.2.2.2.2.2.2.2.2.2.2.1) && ((r24.2.2.2.2.2.2.2.2.2.2.2.2.2.1 == x1.2.2.2.2.2.2.2.2.2.2.2.2.2.1) && ((r24.2.2.2.2.2.2.2.2.2.2.2.2.2.2.1 == x1.2.2.2.2.2.2.2.2.2.2.2.2.2.2.1) && ((r24.2.2.2.2.2.2.2.2.2.2.2.2.2.2.2.1 == x1.2.2.2.2.2.2.2.2.2.2.2.2.2.2.2.1) && ((r24.2.2.2.2.2.2.2.2.2.2.2.2.2.2.2.2.1 == x1.2.2.2.2.2.2.2.2.2.2.2.2.2.2.2.2.1) && true))))))) && true)))))
                                                      (cond (r27 == 7)
                                                        (cond (r29 == 7)
                                                          (draymanlaw23_awake fun r30 =>
                                                            (k r30))
                                                          (k false))
                                                        (k false))
                                                      (k false))
                                                    (k false)))
                                                none))
                                            none)))))))
                              (k false)))
                          (k false)))
                      (k false))))))
            (k false)))
        (msg_PutEntry x2 fun r31 =>
          (msg_PutReply x3 fun r32 =>
            (msg_TakeEntry (r31, true, ()) fun r33 r34 =>
              (cond (!(!((r33.1 == x2.1) && ((r33.2.1 == x2.2.1) && ((r33.2.2.1 == x2.2.2.1) && ((r33.2.2.2.1 == x2.2.2.2.1) && ((r33.2.2.2.2.1 == x2.2.2.2.2.1) && ((r33.2.2.2.2.2.1 == x2.2.2.2.2.2.1) && ((r33.2.2.2.2.2.2.1 == x2.2.2.2.2.2.2.1) && true)))))))))
                (wire_Reader_Done r34 fun r35 r36 =>
                  (cond (!(!r35))
                    (msg_TakeReply (r32, true, ()) fun r37 r38 =>
                      (cond (!(!((r37.1 == x3.1) && ((r37.2.1 == x3.2.1) && ((r37.2.2.1 == x3.2.2.1) && ((r37.2.2.2.1 == x3.2.2.2.1) && ((r37.2.2.2.2.1 == x3.2.2.2.2.1) && ((r37.2.2.2.2.2.1 == x3.2.2.2.2.2.1) && ((r37.2.2.2.2.2.2.1 == x3.2.2.2.2.2.2.1) && true)))))))))
                        (wire_Reader_Done r38 fun r39 r40 =>
                          (cond (!r39)
                            (k false)
                            (msg_Put x1 fun r41 r42 =>
                              (cond (r42 != 0)
                                (cond (r41.toList == (⟨#[]⟩ : ByteArray).toList)
                                  (msg_Fit x1 fun r43 =>
                                    (cond (!r43)
                                      (draymanlaw23_awake fun r44 =>
                                        (k r44))
                                      (k false)))
                                  (k false))
                                (cond (r41.toList == (⟨#[]⟩ : ByteArray).toList)
                                  (k false)
                                  (msg_Take r41 fun r45 r46 =>
                                    (cond (Nat.ble ((r41).size + ((⟨#[0]⟩ : ByteArray)).size) 9223372036854775807)
                                      (msg_Take (r41 ++ (⟨#[0]⟩ : ByteArray)) fun r47 r48 =>
                                        (cond ((decide ((0 : Int) ≤ (IntKind.i64.wrap ((r41.size : Int) - 1)))) && (decide ((IntKind.i64.wrap ((r41.size : Int) - 1)) ≤ (r41.size : Int))))
                                          (msg_Take (r41.extract 0 (IntKind.i64.wrap ((r41.size : Int) - 1)).toNat) fun r49 r50 =>
                                            (cond (r46 == 0)
                                              (cond ((r45.1 == x1.1) && ((r45.2.1 == x1.2.1) && ((r45.2.2.1 == x1.2.2.1) && (((r45.2.2.2.1 == x1.2.2.2.1) && ((r45.2.2.2.2.1 == x1.2.2.2.2.1) && ((r45.2.2.2.2.2.1 == x1.2.2.2.2.2.1) && ((r45.2.2.2.2.2.2.1 == x1.2.2.2.2.2.2.1) && ((r45.2.2.2.2.2.2.2.1 == x1.2.2.2.2.2.2.2.1) && ((r45.2.2.2.2.2.2.2.2.1 == x1.2.2.2.2.2.2.2.2.1) && ((r45.2.2.2.2.2.2.2.2.2.1 == x1.2.2.2.2.2.2.2.2.2.1) && true))))))) && (((r45.2.2.2.2.2.2.2.2.2.2.1 == x1.2.2.2.2.2.2.2.2.2.2.1) && ((r45.2.2.2.2.2.2.2.2.2.2.2.1 == x1.2.2.2.2.2.2.2.2.2.2.2.1) && ((r45.2.2.2.2.2.2.2.2.2.2.2.2.1 == x1.2.2.2.2.2.2.2.2.2.2.2.2.1) && ((r45.2.2.2.2.2.2.2.2.2.2.2.2.2.1 == x1.2.2.2.2.2.2.2.2.2.2.2.2.2.1) && ((r45.2.2.2.2.2.2.2.2.2.2.2.2.2.2.1 == x1.2.2.2.2.2.2.2.2.2.2.2.2.2.2.1) && ((r45.2.2.2.2.2.2.2.2.2.2.2.2.2.2.2.1 == x1.2.2.2.2.2.2.2.2.2.2.2.2.2.2.2.1) && ((r45.2.2.2.2.2.2.2.2.2.2.2.2.2.2.2.2.1 == x1.2.2.2.2.2.2.2.2.2.2.2.2.2.2.2.2.1) && true))))))) && true)))))
                                                (cond (r48 == 7)
                                                  (cond (r50 == 7)
                                                    (draymanlaw23_awake fun r51 =>
                                                      (k r51))
                                                    (k false))
                                                  (k false))
                                                (k false))
                                              (k false)))
                                          none))
                                      none)))))))
                        (k false)))
                    (k false)))
                (k false))))))))

noncomputable def draymanlaw23_MsgBack {α : Type} : draymanlaw23_MsgBack_T α := draymanlaw23_MsgBack_g draymanlaw23_awake msg_Take msg_Put msg_PutEntry msg_PutReply msg_TakeEntry wire_Reader_Done msg_TakeReply msg_Fit

noncomputable def draymanlaw23_MsgBack_sp {α : Type} (draymanlaw23_MsgBack : draymanlaw23_MsgBack_T α) : FunSpec α := ⟨10, [.agg [.int .i64, .bool, .int .i64, .int .i64, .int .i64, .int .i64, .bool, .int .i64, .int .i64, .bool, .int .i64, .int .i64, .int .i64, .int .i64, .bool, .int .i64, .int .i64], .agg [.int .i64, .int .i64, .int .i64, .bool, .int .i64, .int .i64, .bool], .agg [.int .i64, .int .i64, .int .i64, .int .i64, .bool, .int .i64, .int .i64], .str], [], fun ds k => draymanlaw23_MsgBack (hdI ds, hdB ds.tail, hdI ds.tail.tail, hdI ds.tail.tail.tail, hdI ds.tail.tail.tail.tail, hdI ds.tail.tail.tail.tail.tail, hdB ds.tail.tail.tail.tail.tail.tail, hdI ds.tail.tail.tail.tail.tail.tail.tail, hdI ds.tail.tail.tail.tail.tail.tail.tail.tail, hdB ds.tail.tail.tail.tail.tail.tail.tail.tail.tail, hdI ds.tail.tail.tail.tail.tail.tail.tail.tail.tail.tail, hdI ds.tail.tail.tail.tail.tail.tail.tail.tail.tail.tail.tail, hdI ds.tail.tail.tail.tail.tail.tail.tail.tail.tail.tail.tail.tail, hdI ds.tail.tail.tail.tail.tail.tail.tail.tail.tail.tail.tail.tail.tail, hdB ds.tail.tail.tail.tail.tail.tail.tail.tail.tail.tail.tail.tail.tail.tail, hdI ds.tail.tail.tail.tail.tail.tail.tail.tail.tail.tail.tail.tail.tail.tail.tail, hdI ds.tail.tail.tail.tail.tail.tail.tail.tail.tail.tail.tail.tail.tail.tail.tail.tail, ()) (hdI ds.tail.tail.tail.tail.tail.tail.tail.tail.tail.tail.tail.tail.tail.tail.tail.tail.tail, hdI ds.tail.tail.tail.tail.tail.tail.tail.tail.tail.tail.tail.tail.tail.tail.tail.tail.tail.tail, hdI ds.tail.tail.tail.tail.tail.tail.tail.tail.tail.tail.tail.tail.tail.tail.tail.tail.tail.tail.tail, hdB ds.tail.tail.tail.tail.tail.tail.tail.tail.tail.tail.tail.tail.tail.tail.tail.tail.tail.tail.tail.tail, hdI ds.tail.tail.tail.tail.tail.tail.tail.tail.tail.tail.tail.tail.tail.tail.tail.tail.tail.tail.tail.tail.tail, hdI ds.tail.tail.tail.tail.tail.tail.tail.tail.tail.tail.tail.tail.tail.tail.tail.tail.tail.tail.tail.tail.tail.tail, hdB ds.tail.tail.tail.tail.tail.tail.tail.tail.tail.tail.tail.tail.tail.tail.tail.tail.tail.tail.tail.tail.tail.tail.tail, ()) (hdI ds.tail.tail.tail.tail.tail.tail.tail.tail.tail.tail.tail.tail.tail.tail.tail.tail.tail.tail.tail.tail.tail.tail.tail.tail, hdI ds.tail.tail.tail.tail.tail.tail.tail.tail.tail.tail.tail.tail.tail.tail.tail.tail.tail.tail.tail.tail.tail.tail.tail.tail.tail, hdI ds.tail.tail.tail.tail.tail.tail.tail.tail.tail.tail.tail.tail.tail.tail.tail.tail.tail.tail.tail.tail.tail.tail.tail.tail.tail.tail, hdI ds.tail.tail.tail.tail.tail.tail.tail.tail.tail.tail.tail.tail.tail.tail.tail.tail.tail.tail.tail.tail.tail.tail.tail.tail.tail.tail.tail, hdB ds.tail.tail.tail.tail.tail.tail.tail.tail.tail.tail.tail.tail.tail.tail.tail.tail.tail.tail.tail.tail.tail.tail.tail.tail.tail.tail.tail.tail, hdI ds.tail.tail.tail.tail.tail.tail.tail.tail.tail.tail.tail.tail.tail.tail.tail.tail.tail.tail.tail.tail.tail.tail.tail.tail.tail.tail.tail.tail.tail, hdI ds.tail.tail.tail.tail.tail.tail.tail.tail.tail.tail.tail.tail.tail.tail.tail.tail.tail.tail.tail.tail.tail.tail.tail.tail.tail.tail.tail.tail.tail.tail, ()) (hdS ds.tail.tail.tail.tail.tail.tail.tail.tail.tail.tail.tail.tail.tail.tail.tail.tail.tail.tail.tail.tail.tail.tail.tail.tail.tail.tail.tail.tail.tail.tail.tail) (fun r1 => k (enc dep (.bool) [.b r1]).1 [])⟩

noncomputable def draymanlaw23_MsgBack_spec {α : Type} : FunSpec α := draymanlaw23_MsgBack_sp draymanlaw23_MsgBack

noncomputable def draymanlaw23_MsgBack_C {α : Type} (draymanlaw23_awake : draymanlaw23_awake_T α) (msg_Take : msg_Take_T α) (msg_Put : msg_Put_T α) (msg_PutEntry : msg_PutEntry_T α) (msg_PutReply : msg_PutReply_T α) (msg_TakeEntry : msg_TakeEntry_T α) (wire_Reader_Done : wire_Reader_Done_T α) (msg_TakeReply : msg_TakeReply_T α) (msg_Fit : msg_Fit_T α) : List (FunSpec α) := [draymanlaw23_awake_sp draymanlaw23_awake, msg_Take_sp msg_Take, msg_Put_sp msg_Put, msg_PutEntry_sp msg_PutEntry, msg_PutReply_sp msg_PutReply, msg_TakeEntry_sp msg_TakeEntry, wire_Reader_Done_sp wire_Reader_Done, msg_TakeReply_sp msg_TakeReply, msg_Fit_sp msg_Fit]

noncomputable def draymanlaw23_MsgBack_q : FuncId → Bool := fun f => Nat.beq f 47 || Nat.beq f 49 || Nat.beq f 53 || Nat.beq f 55 || Nat.beq f 57 || Nat.beq f 58 || Nat.beq f 61 || Nat.beq f 65 || Nat.beq f 67

noncomputable def draymanlaw23_MsgBack_inl : FuncId → Bool := fun f => Nat.beq f 60

noncomputable def draymanlaw23_MsgBack_ann : FuncId → AnnT := fun f p => if f = 10 then (if p = [false, false, true, true, true, true, true] then ⟨[], [4, 5], [], [], 2, [], [], none⟩ else if p = [false, true, true, true, true] then ⟨[], [], [], [], 2, [], [], none⟩ else ⟨[], [], [], [], 0, [], [], none⟩) else ⟨[], [], [], [], 0, [], [], none⟩

noncomputable def draymanlaw23_MsgBack_loops {α : Type} (draymanlaw23_awake : draymanlaw23_awake_T α) (msg_Take : msg_Take_T α) (msg_Put : msg_Put_T α) (msg_PutEntry : msg_PutEntry_T α) (msg_PutReply : msg_PutReply_T α) (msg_TakeEntry : msg_TakeEntry_T α) (wire_Reader_Done : wire_Reader_Done_T α) (msg_TakeReply : msg_TakeReply_T α) (msg_Fit : msg_Fit_T α) : List (LoopSpec α) := []

theorem draymanlaw23_MsgBack_ev {α : Type} (draymanlaw23_awake : draymanlaw23_awake_T α) (msg_Take : msg_Take_T α) (msg_Put : msg_Put_T α) (msg_PutEntry : msg_PutEntry_T α) (msg_PutReply : msg_PutReply_T α) (msg_TakeEntry : msg_TakeEntry_T α) (wire_Reader_Done : wire_Reader_Done_T α) (msg_TakeReply : msg_TakeReply_T α) (msg_Fit : msg_Fit_T α) : EvOk (α := α) Go.Proofs.Try.prog (envOf (draymanlaw23_MsgBack_C draymanlaw23_awake msg_Take msg_Put msg_PutEntry msg_PutReply msg_TakeEntry wire_Reader_Done msg_TakeReply msg_Fit) draymanlaw23_MsgBack_q draymanlaw23_MsgBack_inl 1000 draymanlaw23_MsgBack_ann false (draymanlaw23_MsgBack_loops draymanlaw23_awake msg_Take msg_Put msg_PutEntry msg_PutReply msg_TakeEntry wire_Reader_Done msg_TakeReply msg_Fit) (fun _ => none)) 6 (draymanlaw23_MsgBack_sp (draymanlaw23_MsgBack_g draymanlaw23_awake msg_Take msg_Put msg_PutEntry msg_PutReply msg_TakeEntry wire_Reader_Done msg_TakeReply msg_Fit)) := by intro ds k; kernel_rfl

theorem draymanlaw23_MsgBack_ok {α : Type} : (draymanlaw23_MsgBack_spec : FunSpec α).ok Go.Proofs.Try.prog :=
  FunSpec.ok_of (sp := draymanlaw23_MsgBack_spec) (C := draymanlaw23_MsgBack_C draymanlaw23_awake msg_Take msg_Put msg_PutEntry msg_PutReply msg_TakeEntry wire_Reader_Done msg_TakeReply msg_Fit) (q := draymanlaw23_MsgBack_q) (inl := draymanlaw23_MsgBack_inl) (N := 1000) (ann := draymanlaw23_MsgBack_ann) (fr := false) (D := 6) (l := (draymanlaw23_MsgBack_loops draymanlaw23_awake msg_Take msg_Put msg_PutEntry msg_PutReply msg_TakeEntry wire_Reader_Done msg_TakeReply msg_Fit)) (hk := (fun _ => none)) (okCons draymanlaw23_awake_ok (okCons msg_Take_ok (okCons msg_Put_ok (okCons msg_PutEntry_ok (okCons msg_PutReply_ok (okCons msg_TakeEntry_ok (okCons wire_Reader_Done_ok (okCons msg_TakeReply_ok (okCons msg_Fit_ok okNil))))))))) lokNil noHooks (draymanlaw23_MsgBack_ev draymanlaw23_awake msg_Take msg_Put msg_PutEntry msg_PutReply msg_TakeEntry wire_Reader_Done msg_TakeReply msg_Fit)

end
end Go.Rv.Try

set_option linter.unusedVariables false
set_option maxRecDepth 100000
set_option maxHeartbeats 4000000
namespace Go.Rv.Try
open Go Go.Rv Go.RowKit
noncomputable section

-- drayman/draymanref03.place

abbrev draymanref03_place_T (α : Type) : Type := Int → (Int → Option α) → Option α

noncomputable def draymanref03_place {α : Type} (n1 : Int) (k : Int → Option α) : Option α :=
  (cond (decide (n1 < 0))
    (k (IntKind.u64.wrap ((IntKind.u64.wrap (2 * (IntKind.u64.wrap (IntKind.i64.wrap (0 - (IntKind.i64.wrap (n1 + 1))))))) + 1)))
    (k (IntKind.u64.wrap (2 * (IntKind.u64.wrap n1)))))

noncomputable def draymanref03_place_sp {α : Type} (draymanref03_place : draymanref03_place_T α) : FunSpec α := ⟨132, [.int .i64], [], fun ds k => draymanref03_place (hdI ds) (fun r1 => k (enc dep (.int .u64) [.i r1]).1 [])⟩

noncomputable def draymanref03_place_spec {α : Type} : FunSpec α := draymanref03_place_sp draymanref03_place

noncomputable def draymanref03_place_C {α : Type} : List (FunSpec α) := []

noncomputable def draymanref03_place_q : FuncId → Bool := fun f => false

noncomputable def draymanref03_place_inl : FuncId → Bool := fun f => false

noncomputable def draymanref03_place_ann : FuncId → AnnT := fun f p => ⟨[], [], [], [], 0, [], [], none⟩

noncomputable def draymanref03_place_loops {α : Type} : List (LoopSpec α) := []

theorem draymanref03_place_ev {α : Type} : EvOk (α := α) Go.Proofs.Try.prog (envOf (draymanref03_place_C) draymanref03_place_q draymanref03_place_inl 1000 draymanref03_place_ann false (draymanref03_place_loops) (fun _ => none)) 6 (draymanref03_place_sp (draymanref03_place)) := by intro ds k; kernel_rfl

theorem draymanref03_place_ok {α : Type} : (draymanref03_place_spec : FunSpec α).ok Go.Proofs.Try.prog :=
  FunSpec.ok_of (sp := draymanref03_place_spec) (C := draymanref03_place_C) (q := draymanref03_place_q) (inl := draymanref03_place_inl) (N := 1000) (ann := draymanref03_place_ann) (fr := false) (D := 6) (l := (draymanref03_place_loops)) (hk := (fun _ => none)) okNil lokNil noHooks (draymanref03_place_ev)

end
end Go.Rv.Try
