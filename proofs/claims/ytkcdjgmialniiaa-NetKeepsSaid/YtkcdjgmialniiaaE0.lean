/- What the functions of the program compute, each with the proof that its code computes it. Written by a program (rvp2.py). -/
import Derived.Test.YtkcdjgmialniiaaProg
import Derived.Test.YtkcdjgmialniiaaRvP

namespace Go.Rv.Try
abbrev Z0 : Type := (Int × Bool × Int × Int × Int × Int × Bool × Int × Int × Bool × Int × Int × Int × Int × Bool × Int × Int × Unit)
abbrev Z1 : Type := (Int × Int × Int × Bool × Int × Int × Bool × Unit)
end Go.Rv.Try
set_option linter.unusedVariables false
set_option maxRecDepth 100000
set_option maxHeartbeats 4000000
namespace Go.Rv.Try
open Go Go.Rv Go.RowKit
noncomputable section

-- drayman/net.New

abbrev net_New_T (α : Type) : Type := ((Int × (Seq Z0) × Unit) → Option α) → Option α

noncomputable def net_New {α : Type} (k : (Int × (Seq Z0) × Unit) → Option α) : Option α :=
  (k (1, (⟨true, 0, (fun _ => (0, false, 0, 0, 0, 0, false, 0, 0, false, 0, 0, 0, 0, false, 0, 0, ()))⟩ : Seq Z0), ()))

noncomputable def net_New_sp {α : Type} (net_New : net_New_T α) : FunSpec α := ⟨15, [], [], fun ds k => net_New  (fun r1 => k (enc dep (.agg [.int .i64, .sl (.int .i64 (.bool (.int .i64 (.int .i64 (.int .i64 (.int .i64 (.bool (.int .i64 (.int .i64 (.bool (.int .i64 (.int .i64 (.int .i64 (.int .i64 (.bool (.int .i64 (.int .i64 (.nil))))))))))))))))))]) [.i r1.1, .q (.int .i64 (.bool (.int .i64 (.int .i64 (.int .i64 (.int .i64 (.bool (.int .i64 (.int .i64 (.bool (.int .i64 (.int .i64 (.int .i64 (.int .i64 (.bool (.int .i64 (.int .i64 (.nil)))))))))))))))))) r1.2.1]).1 [])⟩

noncomputable def net_New_spec {α : Type} : FunSpec α := net_New_sp net_New

noncomputable def net_New_C {α : Type} : List (FunSpec α) := []

noncomputable def net_New_q : FuncId → Bool := fun f => false

noncomputable def net_New_inl : FuncId → Bool := fun f => false

noncomputable def net_New_ann : FuncId → AnnT := fun f p => ⟨[], [], [], [], 0, [], []⟩

noncomputable def net_New_loops {α : Type} : List (LoopSpec α) := []

theorem net_New_ev {α : Type} : EvOk (α := α) Go.Proofs.Try.prog (envOf (net_New_C) net_New_q net_New_inl 1000 net_New_ann false (net_New_loops) (fun _ => none)) 6 (net_New_sp (net_New)) := by intro ds k; kernel_rfl

theorem net_New_ok {α : Type} : (net_New_spec : FunSpec α).ok Go.Proofs.Try.prog :=
  FunSpec.ok_of (sp := net_New_spec) (C := net_New_C) (q := net_New_q) (inl := net_New_inl) (N := 1000) (ann := net_New_ann) (fr := false) (D := 6) (l := (net_New_loops)) (hk := (fun _ => none)) okNil lokNil noHooks (net_New_ev)

end
end Go.Rv.Try

set_option linter.unusedVariables false
set_option maxRecDepth 100000
set_option maxHeartbeats 4000000
namespace Go.Rv.Try
open Go Go.Rv Go.RowKit
noncomputable section

-- drayman/outbox.Service

abbrev outbox_Service_T (α : Type) : Type := Int → (Int → Option α) → Option α

noncomputable def outbox_Service {α : Type} (op1 : Int) (k : Int → Option α) : Option α :=
  (cond (op1 == 2)
    (cond (op1 == 2)
      (k 1)
      (cond (op1 == 4)
        (k 2)
        (k 0)))
    (cond (op1 == 6)
      (k 1)
      (cond (op1 == 4)
        (k 2)
        (k 0))))

noncomputable def outbox_Service_sp {α : Type} (outbox_Service : outbox_Service_T α) : FunSpec α := ⟨81, [.int .i64], [], fun ds k => outbox_Service (hdI ds) (fun r1 => k (enc dep (.int .i64) [.i r1]).1 [])⟩

noncomputable def outbox_Service_spec {α : Type} : FunSpec α := outbox_Service_sp outbox_Service

noncomputable def outbox_Service_C {α : Type} : List (FunSpec α) := []

noncomputable def outbox_Service_q : FuncId → Bool := fun f => false

noncomputable def outbox_Service_inl : FuncId → Bool := fun f => false

noncomputable def outbox_Service_ann : FuncId → AnnT := fun f p => ⟨[], [], [], [], 0, [], []⟩

noncomputable def outbox_Service_loops {α : Type} : List (LoopSpec α) := []

theorem outbox_Service_ev {α : Type} : EvOk (α := α) Go.Proofs.Try.prog (envOf (outbox_Service_C) outbox_Service_q outbox_Service_inl 1000 outbox_Service_ann false (outbox_Service_loops) (fun _ => none)) 6 (outbox_Service_sp (outbox_Service)) := by intro ds k; kernel_rfl

theorem outbox_Service_ok {α : Type} : (outbox_Service_spec : FunSpec α).ok Go.Proofs.Try.prog :=
  FunSpec.ok_of (sp := outbox_Service_spec) (C := outbox_Service_C) (q := outbox_Service_q) (inl := outbox_Service_inl) (N := 1000) (ann := outbox_Service_ann) (fr := false) (D := 6) (l := (outbox_Service_loops)) (hk := (fun _ => none)) okNil lokNil noHooks (outbox_Service_ev)

end
end Go.Rv.Try

set_option linter.unusedVariables false
set_option maxRecDepth 100000
set_option maxHeartbeats 4000000
namespace Go.Rv.Try
open Go Go.Rv Go.RowKit
noncomputable section

-- drayman/msg.id

abbrev msg_id_T (α : Type) : Type := (Seq (Int × Unit)) → (Bool → Option α) → Option α

noncomputable def msg_id_l0_step {α : Type} (kr : (Bool) → Option α) (k0 : Option α) (rec : (Seq (Int × Unit)) → (Int) → (Int) → Option α) (x2 : Seq (Int × Unit)) (x3 : Int) (x4 : Int) : Option α :=
  (cond (decide (x4 < x3))
    (cond ((decide ((0 : Int) ≤ x4)) && (decide (x4 < (x2.n : Int))))
      (cond (!(decide ((x2.g x4.toNat).1 < 1)))
        (cond (decide ((x2.g x4.toNat).1 > 1099511627776))
          (kr false)
          (rec x2 x3 (IntKind.i64.wrap (x4 + 1))))
        (kr false))
      none)
    (k0))

noncomputable def msg_id_l0_run {α : Type} (kr : (Bool) → Option α) (k0 : Option α) : Nat → (Seq (Int × Unit)) → (Int) → (Int) → Option α
  | 0, _, _, _ => none
  | n + 1, x2, x3, x4 => msg_id_l0_step kr k0 (fun x2 x3 x4 => msg_id_l0_run kr k0 n x2 x3 x4) x2 x3 x4

noncomputable def msg_id {α : Type} (l1 : Seq (Int × Unit)) (k : Bool → Option α) : Option α :=
  (msg_id_l0_run
    (fun x5 =>
      (k x5))
    ((k true))
    1000 l1 (l1.n : Int) 0)

noncomputable def msg_id_sp {α : Type} (msg_id : msg_id_T α) : FunSpec α := ⟨102, [.sl (.int .i64 (.nil))], [], fun ds k => msg_id (hdQ (.int .i64 (.nil)) ds) (fun r1 => k (enc dep (.bool) [.b r1]).1 [])⟩

noncomputable def msg_id_spec {α : Type} : FunSpec α := msg_id_sp msg_id

noncomputable def msg_id_C {α : Type} : List (FunSpec α) := []

noncomputable def msg_id_q : FuncId → Bool := fun f => false

noncomputable def msg_id_inl : FuncId → Bool := fun f => false

noncomputable def msg_id_ann : FuncId → AnnT := fun f p => if f = 102 then (if p = [true, false, true] then ⟨[5, 6, 7], [], [], [2], 0, [], []⟩ else ⟨[], [], [], [], 0, [], []⟩) else ⟨[], [], [], [], 0, [], []⟩

noncomputable def msg_id_l0_t : List Sh := [.dead, .dead, .dead, .dead, .dead, .sl (.int .i64 (.nil)), .int .i64, .int .i64, .dead, .dead, .dead, .dead, .dead, .dead, .dead, .dead, .dead, .dead]
noncomputable def msg_id_l0_s : List (List Sh) := []
noncomputable def msg_id_l0_h : List BSh := []

noncomputable def msg_id_l0_spec {α : Type} : LoopSpec α := ⟨6, 102, [true, false, true], msg_id_l0_t, msg_id_l0_s, msg_id_l0_h, fun ds k => msg_id_l0_run (fun y1 => k .ret (encSt [.dead, .dead, .bool, .dead, .dead, .dead, .dead, .dead, .dead, .dead, .dead, .dead, .dead, .dead, .dead, .dead, .dead, .dead] [] [] [.b y1])) (k (.exit 0) (encSt [.dead, .dead, .dead, .dead, .dead, .dead, .dead, .dead, .dead, .dead, .dead, .dead, .dead, .dead, .dead, .dead, .dead, .dead] [] [] [])) 1000 (hdQ (.int .i64 (.nil)) ds) (hdI ds.tail) (hdI ds.tail.tail)⟩

noncomputable def msg_id_loops {α : Type} : List (LoopSpec α) := [msg_id_l0_spec]

noncomputable def msg_id_l0_ev {α : Type} (n : Nat) (st : St) (k : X → St → Option α) : Option α := loopN (evCode Go.Proofs.Try.prog (callD Go.Proofs.Try.prog (envOf (msg_id_C) msg_id_q msg_id_inl 1000 msg_id_ann false (msg_id_loops) (fun _ => none)) 6) (((envOf (msg_id_C) msg_id_q msg_id_inl 1000 msg_id_ann false (msg_id_loops) (fun _ => none)) : Env α).L 6 102) 1000 (msg_id_ann 102) (false :: [true, false, true]) (loopC Go.Proofs.Try.prog 102 [true, false, true])) ((msg_id_ann 102 [true, false, true]).head 0) ((msg_id_ann 102 [true, false, true]).leave 0) n st k

theorem msg_id_l0_eq {α : Type} : ∀ (n : Nat) (x2 : Seq (Int × Unit)) (x3 : Int) (x4 : Int) (k : X → St → Option α), msg_id_l0_ev n (encSt msg_id_l0_t msg_id_l0_s msg_id_l0_h [.q (.int .i64 (.nil)) x2, .i x3, .i x4]) k = msg_id_l0_run (fun y1 => k .ret (encSt [.dead, .dead, .bool, .dead, .dead, .dead, .dead, .dead, .dead, .dead, .dead, .dead, .dead, .dead, .dead, .dead, .dead, .dead] [] [] [.b y1])) (k (.exit 0) (encSt [.dead, .dead, .dead, .dead, .dead, .dead, .dead, .dead, .dead, .dead, .dead, .dead, .dead, .dead, .dead, .dead, .dead, .dead] [] [] [])) n x2 x3 x4 := by
  intro n
  induction n with
  | zero => intros; kernel_rfl
  | succ n ih =>
    intro x2 x3 x4 k
    have e : (fun (x2 : Seq (Int × Unit)) (x3 : Int) (x4 : Int) => msg_id_l0_ev n (encSt msg_id_l0_t msg_id_l0_s msg_id_l0_h [.q (.int .i64 (.nil)) x2, .i x3, .i x4]) k) = (fun (x2 : Seq (Int × Unit)) (x3 : Int) (x4 : Int) => msg_id_l0_run (fun y1 => k .ret (encSt [.dead, .dead, .bool, .dead, .dead, .dead, .dead, .dead, .dead, .dead, .dead, .dead, .dead, .dead, .dead, .dead, .dead, .dead] [] [] [.b y1])) (k (.exit 0) (encSt [.dead, .dead, .dead, .dead, .dead, .dead, .dead, .dead, .dead, .dead, .dead, .dead, .dead, .dead, .dead, .dead, .dead, .dead] [] [] [])) n x2 x3 x4) := by
      funext x2 x3 x4
      exact ih x2 x3 x4 k
    have h1 : msg_id_l0_ev (n + 1) (encSt msg_id_l0_t msg_id_l0_s msg_id_l0_h [.q (.int .i64 (.nil)) x2, .i x3, .i x4]) k = msg_id_l0_step (fun y1 => k .ret (encSt [.dead, .dead, .bool, .dead, .dead, .dead, .dead, .dead, .dead, .dead, .dead, .dead, .dead, .dead, .dead, .dead, .dead, .dead] [] [] [.b y1])) (k (.exit 0) (encSt [.dead, .dead, .dead, .dead, .dead, .dead, .dead, .dead, .dead, .dead, .dead, .dead, .dead, .dead, .dead, .dead, .dead, .dead] [] [] [])) (fun (x2 : Seq (Int × Unit)) (x3 : Int) (x4 : Int) => msg_id_l0_ev n (encSt msg_id_l0_t msg_id_l0_s msg_id_l0_h [.q (.int .i64 (.nil)) x2, .i x3, .i x4]) k) x2 x3 x4 := by kernel_rfl
    have h2 := congrArg (fun r => msg_id_l0_step (fun y1 => k .ret (encSt [.dead, .dead, .bool, .dead, .dead, .dead, .dead, .dead, .dead, .dead, .dead, .dead, .dead, .dead, .dead, .dead, .dead, .dead] [] [] [.b y1])) (k (.exit 0) (encSt [.dead, .dead, .dead, .dead, .dead, .dead, .dead, .dead, .dead, .dead, .dead, .dead, .dead, .dead, .dead, .dead, .dead, .dead] [] [] [])) r x2 x3 x4) e
    have h3 : msg_id_l0_step (fun y1 => k .ret (encSt [.dead, .dead, .bool, .dead, .dead, .dead, .dead, .dead, .dead, .dead, .dead, .dead, .dead, .dead, .dead, .dead, .dead, .dead] [] [] [.b y1])) (k (.exit 0) (encSt [.dead, .dead, .dead, .dead, .dead, .dead, .dead, .dead, .dead, .dead, .dead, .dead, .dead, .dead, .dead, .dead, .dead, .dead] [] [] [])) (fun (x2 : Seq (Int × Unit)) (x3 : Int) (x4 : Int) => msg_id_l0_run (fun y1 => k .ret (encSt [.dead, .dead, .bool, .dead, .dead, .dead, .dead, .dead, .dead, .dead, .dead, .dead, .dead, .dead, .dead, .dead, .dead, .dead] [] [] [.b y1])) (k (.exit 0) (encSt [.dead, .dead, .dead, .dead, .dead, .dead, .dead, .dead, .dead, .dead, .dead, .dead, .dead, .dead, .dead, .dead, .dead, .dead] [] [] [])) n x2 x3 x4) x2 x3 x4 = msg_id_l0_run (fun y1 => k .ret (encSt [.dead, .dead, .bool, .dead, .dead, .dead, .dead, .dead, .dead, .dead, .dead, .dead, .dead, .dead, .dead, .dead, .dead, .dead] [] [] [.b y1])) (k (.exit 0) (encSt [.dead, .dead, .dead, .dead, .dead, .dead, .dead, .dead, .dead, .dead, .dead, .dead, .dead, .dead, .dead, .dead, .dead, .dead] [] [] [])) (n + 1) x2 x3 x4 := by kernel_rfl
    exact h1.trans (h2.trans h3)

theorem msg_id_l0_ok {α : Type} : (msg_id_l0_spec : LoopSpec α).ok Go.Proofs.Try.prog (envOf (msg_id_C) msg_id_q msg_id_inl 1000 msg_id_ann false (msg_id_loops) (fun _ => none)) := by
  intro ds k
  have h1 : msg_id_l0_ev 1000 (encSt msg_id_l0_t msg_id_l0_s msg_id_l0_h ds) k = msg_id_l0_ev 1000 (encSt msg_id_l0_t msg_id_l0_s msg_id_l0_h [.q (.int .i64 (.nil)) (hdQ (.int .i64 (.nil)) ds), .i (hdI ds.tail), .i (hdI ds.tail.tail)]) k := by kernel_rfl
  have h2 := msg_id_l0_eq 1000 (hdQ (.int .i64 (.nil)) ds) (hdI ds.tail) (hdI ds.tail.tail) k
  exact h1.trans h2

theorem msg_id_ev {α : Type} : EvOk (α := α) Go.Proofs.Try.prog (envOf (msg_id_C) msg_id_q msg_id_inl 1000 msg_id_ann false (msg_id_loops) (fun _ => none)) 6 (msg_id_sp (msg_id)) := by intro ds k; kernel_rfl

theorem msg_id_ok {α : Type} : (msg_id_spec : FunSpec α).ok Go.Proofs.Try.prog :=
  FunSpec.ok_of (sp := msg_id_spec) (C := msg_id_C) (q := msg_id_q) (inl := msg_id_inl) (N := 1000) (ann := msg_id_ann) (fr := false) (D := 6) (l := (msg_id_loops)) (hk := (fun _ => none)) okNil (lokCons (msg_id_l0_ok) lokNil) noHooks (msg_id_ev)

end
end Go.Rv.Try

set_option linter.unusedVariables false
set_option maxRecDepth 100000
set_option maxHeartbeats 4000000
namespace Go.Rv.Try
open Go Go.Rv Go.RowKit
noncomputable section

-- drayman/outbox.id

abbrev outbox_id_T (α : Type) : Type := Int → (Bool → Option α) → Option α

noncomputable def outbox_id {α : Type} (n1 : Int) (k : Bool → Option α) : Option α :=
  (cond (decide ((1 : Int) ≤ n1))
    (k (decide (n1 ≤ 1099511627776)))
    (k false))

noncomputable def outbox_id_sp {α : Type} (outbox_id : outbox_id_T α) : FunSpec α := ⟨145, [.int .i64], [], fun ds k => outbox_id (hdI ds) (fun r1 => k (enc dep (.bool) [.b r1]).1 [])⟩

noncomputable def outbox_id_spec {α : Type} : FunSpec α := outbox_id_sp outbox_id

noncomputable def outbox_id_C {α : Type} : List (FunSpec α) := []

noncomputable def outbox_id_q : FuncId → Bool := fun f => false

noncomputable def outbox_id_inl : FuncId → Bool := fun f => false

noncomputable def outbox_id_ann : FuncId → AnnT := fun f p => ⟨[], [], [], [], 0, [], []⟩

noncomputable def outbox_id_loops {α : Type} : List (LoopSpec α) := []

theorem outbox_id_ev {α : Type} : EvOk (α := α) Go.Proofs.Try.prog (envOf (outbox_id_C) outbox_id_q outbox_id_inl 1000 outbox_id_ann false (outbox_id_loops) (fun _ => none)) 6 (outbox_id_sp (outbox_id)) := by intro ds k; kernel_rfl

theorem outbox_id_ok {α : Type} : (outbox_id_spec : FunSpec α).ok Go.Proofs.Try.prog :=
  FunSpec.ok_of (sp := outbox_id_spec) (C := outbox_id_C) (q := outbox_id_q) (inl := outbox_id_inl) (N := 1000) (ann := outbox_id_ann) (fr := false) (D := 6) (l := (outbox_id_loops)) (hk := (fun _ => none)) okNil lokNil noHooks (outbox_id_ev)

end
end Go.Rv.Try

set_option linter.unusedVariables false
set_option maxRecDepth 100000
set_option maxHeartbeats 4000000
namespace Go.Rv.Try
open Go Go.Rv Go.RowKit
noncomputable section

-- drayman/num.Fit

abbrev num_Fit_T (α : Type) : Type := Int → (Bool → Option α) → Option α

noncomputable def num_Fit {α : Type} (n1 : Int) (k : Bool → Option α) : Option α :=
  (cond (decide (n1 ≥ 0))
    (k (decide (n1 ≤ 1099511627776)))
    (k false))

noncomputable def num_Fit_sp {α : Type} (num_Fit : num_Fit_T α) : FunSpec α := ⟨124, [.int .i64], [], fun ds k => num_Fit (hdI ds) (fun r1 => k (enc dep (.bool) [.b r1]).1 [])⟩

noncomputable def num_Fit_spec {α : Type} : FunSpec α := num_Fit_sp num_Fit

noncomputable def num_Fit_C {α : Type} : List (FunSpec α) := []

noncomputable def num_Fit_q : FuncId → Bool := fun f => false

noncomputable def num_Fit_inl : FuncId → Bool := fun f => false

noncomputable def num_Fit_ann : FuncId → AnnT := fun f p => ⟨[], [], [], [], 0, [], []⟩

noncomputable def num_Fit_loops {α : Type} : List (LoopSpec α) := []

theorem num_Fit_ev {α : Type} : EvOk (α := α) Go.Proofs.Try.prog (envOf (num_Fit_C) num_Fit_q num_Fit_inl 1000 num_Fit_ann false (num_Fit_loops) (fun _ => none)) 6 (num_Fit_sp (num_Fit)) := by intro ds k; kernel_rfl

theorem num_Fit_ok {α : Type} : (num_Fit_spec : FunSpec α).ok Go.Proofs.Try.prog :=
  FunSpec.ok_of (sp := num_Fit_spec) (C := num_Fit_C) (q := num_Fit_q) (inl := num_Fit_inl) (N := 1000) (ann := num_Fit_ann) (fr := false) (D := 6) (l := (num_Fit_loops)) (hk := (fun _ => none)) okNil lokNil noHooks (num_Fit_ev)

end
end Go.Rv.Try

set_option linter.unusedVariables false
set_option maxRecDepth 100000
set_option maxHeartbeats 4000000
namespace Go.Rv.Try
open Go Go.Rv Go.RowKit
noncomputable section

-- drayman/outbox.one

abbrev outbox_one_T (α : Type) : Type := Z1 → (Bool → Option α) → Option α

noncomputable def outbox_one_g {α : Type} (outbox_id : outbox_id_T α) (outbox_Service : outbox_Service_T α) (num_Fit : num_Fit_T α) (x1 : Int × Int × Int × Bool × Int × Int × Bool × Unit) (k : Bool → Option α) : Option α :=
  (outbox_id x1.1 fun r2 =>
    (cond r2
      (outbox_id x1.2.1 fun r3 =>
        (cond r3
          (cond (decide ((0 : Int) ≤ x1.2.2.1))
            (cond (decide (x1.2.2.1 < 6))
              (outbox_Service x1.2.2.2.2.1 fun r4 =>
                (cond (r4 != 0)
                  (num_Fit x1.2.2.2.2.2.1 fun r5 =>
                    (k r5))
                  (k false)))
              (k false))
            (k false))
          (k false)))
      (k false)))

noncomputable def outbox_one {α : Type} : outbox_one_T α := outbox_one_g outbox_id outbox_Service num_Fit

noncomputable def outbox_one_sp {α : Type} (outbox_one : outbox_one_T α) : FunSpec α := ⟨133, [.agg [.int .i64, .int .i64, .int .i64, .bool, .int .i64, .int .i64, .bool]], [], fun ds k => outbox_one (hdI ds, hdI ds.tail, hdI ds.tail.tail, hdB ds.tail.tail.tail, hdI ds.tail.tail.tail.tail, hdI ds.tail.tail.tail.tail.tail, hdB ds.tail.tail.tail.tail.tail.tail, ()) (fun r1 => k (enc dep (.bool) [.b r1]).1 [])⟩

noncomputable def outbox_one_spec {α : Type} : FunSpec α := outbox_one_sp outbox_one

noncomputable def outbox_one_C {α : Type} (outbox_id : outbox_id_T α) (outbox_Service : outbox_Service_T α) (num_Fit : num_Fit_T α) : List (FunSpec α) := [outbox_id_sp outbox_id, outbox_Service_sp outbox_Service, num_Fit_sp num_Fit]

noncomputable def outbox_one_q : FuncId → Bool := fun f => Nat.beq f 81 || Nat.beq f 124 || Nat.beq f 145

noncomputable def outbox_one_inl : FuncId → Bool := fun f => false

noncomputable def outbox_one_ann : FuncId → AnnT := fun f p => ⟨[], [], [], [], 0, [], []⟩

noncomputable def outbox_one_loops {α : Type} (outbox_id : outbox_id_T α) (outbox_Service : outbox_Service_T α) (num_Fit : num_Fit_T α) : List (LoopSpec α) := []

theorem outbox_one_ev {α : Type} (outbox_id : outbox_id_T α) (outbox_Service : outbox_Service_T α) (num_Fit : num_Fit_T α) : EvOk (α := α) Go.Proofs.Try.prog (envOf (outbox_one_C outbox_id outbox_Service num_Fit) outbox_one_q outbox_one_inl 1000 outbox_one_ann false (outbox_one_loops outbox_id outbox_Service num_Fit) (fun _ => none)) 6 (outbox_one_sp (outbox_one_g outbox_id outbox_Service num_Fit)) := by intro ds k; kernel_rfl

theorem outbox_one_ok {α : Type} : (outbox_one_spec : FunSpec α).ok Go.Proofs.Try.prog :=
  FunSpec.ok_of (sp := outbox_one_spec) (C := outbox_one_C outbox_id outbox_Service num_Fit) (q := outbox_one_q) (inl := outbox_one_inl) (N := 1000) (ann := outbox_one_ann) (fr := false) (D := 6) (l := (outbox_one_loops outbox_id outbox_Service num_Fit)) (hk := (fun _ => none)) (okCons outbox_id_ok (okCons outbox_Service_ok (okCons num_Fit_ok okNil))) lokNil noHooks (outbox_one_ev outbox_id outbox_Service num_Fit)

end
end Go.Rv.Try

set_option linter.unusedVariables false
set_option maxRecDepth 100000
set_option maxHeartbeats 4000000
namespace Go.Rv.Try
open Go Go.Rv Go.RowKit
noncomputable section

-- drayman/outbox.Fit

abbrev outbox_Fit_T (α : Type) : Type := (Seq Z1) → (Bool → Option α) → Option α

noncomputable def outbox_Fit_l0_step {α : Type} (outbox_one : outbox_one_T α) (kr : (Bool) → (List ((Int × Unit) × (Bool × Unit))) → Option α) (k0 : (Seq Z1) → (List ((Int × Unit) × (Bool × Unit))) → Option α) (rec : (Seq Z1) → (Int) → (Seq Z1) → (Int) → (Int) → (List ((Int × Unit) × (Bool × Unit))) → Option α) (l2 : Seq Z1) (last3 : Int) (x4 : Seq Z1) (x5 : Int) (x6 : Int) (m7 : List ((Int × Unit) × (Bool × Unit))) : Option α :=
  (cond (decide (x6 < x5))
    (cond ((decide ((0 : Int) ≤ x6)) && (decide (x6 < (x4.n : Int))))
      (outbox_one (x4.g x6.toNat) fun r8 =>
        (cond (!(!r8))
          (cond (!(decide ((x4.g x6.toNat).1 ≤ last3)))
            (cond (mGetD (.int .i64 (.nil)) m7 ((x4.g x6.toNat).2.1, ()) (false, ())).1
              (kr false m7)
              (rec l2 ((x4.g x6.toNat).1) x4 x5 (IntKind.i64.wrap (x6 + 1)) (mPut (.int .i64 (.nil)) m7 ((x4.g x6.toNat).2.1, ()) (true, ()))))
            (kr false m7))
          (kr false m7)))
      none)
    (k0 l2 m7))

noncomputable def outbox_Fit_l0_run {α : Type} (outbox_one : outbox_one_T α) (kr : (Bool) → (List ((Int × Unit) × (Bool × Unit))) → Option α) (k0 : (Seq Z1) → (List ((Int × Unit) × (Bool × Unit))) → Option α) : Nat → (Seq Z1) → (Int) → (Seq Z1) → (Int) → (Int) → (List ((Int × Unit) × (Bool × Unit))) → Option α
  | 0, _, _, _, _, _, _ => none
  | n + 1, l2, last3, x4, x5, x6, m7 => outbox_Fit_l0_step outbox_one kr k0 (fun l2 last3 x4 x5 x6 m7 => outbox_Fit_l0_run outbox_one kr k0 n l2 last3 x4 x5 x6 m7) l2 last3 x4 x5 x6 m7

noncomputable def outbox_Fit_g {α : Type} (outbox_one : outbox_one_T α) (l1 : Seq Z1) (k : Bool → Option α) : Option α :=
  (outbox_Fit_l0_run outbox_one
    (fun x9 m10 =>
      (k x9))
    (fun x11 m12 =>
      (k (decide ((x11.n : Int) ≤ 16))))
    1000 l1 0 l1 (l1.n : Int) 0 ([] : List ((Int × Unit) × (Bool × Unit))))

noncomputable def outbox_Fit {α : Type} : outbox_Fit_T α := outbox_Fit_g outbox_one

noncomputable def outbox_Fit_sp {α : Type} (outbox_Fit : outbox_Fit_T α) : FunSpec α := ⟨103, [.sl (.int .i64 (.int .i64 (.int .i64 (.bool (.int .i64 (.int .i64 (.bool (.nil))))))))], [], fun ds k => outbox_Fit (hdQ (.int .i64 (.int .i64 (.int .i64 (.bool (.int .i64 (.int .i64 (.bool (.nil)))))))) ds) (fun r1 => k (enc dep (.bool) [.b r1]).1 [])⟩

noncomputable def outbox_Fit_spec {α : Type} : FunSpec α := outbox_Fit_sp outbox_Fit

noncomputable def outbox_Fit_C {α : Type} (outbox_one : outbox_one_T α) : List (FunSpec α) := [outbox_one_sp outbox_one]

noncomputable def outbox_Fit_q : FuncId → Bool := fun f => Nat.beq f 133

noncomputable def outbox_Fit_inl : FuncId → Bool := fun f => false

noncomputable def outbox_Fit_ann : FuncId → AnnT := fun f p => if f = 103 then (if p = [true, false, true, true, true] then ⟨[0, 3, 4, 8, 9, 10], [], [0], [2], 0, [], []⟩ else if p = [true, true, false, true, true, false, true, false, true, true, true] then ⟨[], [0], [], [], 2, [], []⟩ else ⟨[], [], [], [], 0, [], []⟩) else ⟨[], [], [], [], 0, [], []⟩

noncomputable def outbox_Fit_l0_t : List Sh := [.sl (.int .i64 (.int .i64 (.int .i64 (.bool (.int .i64 (.int .i64 (.bool (.nil)))))))), .dead, .dead, .int .i64, .mp 0, .dead, .dead, .dead, .sl (.int .i64 (.int .i64 (.int .i64 (.bool (.int .i64 (.int .i64 (.bool (.nil)))))))), .int .i64, .int .i64, .dead, .dead, .dead, .dead, .dead, .dead, .dead, .dead, .dead, .dead, .dead, .dead, .dead, .dead, .dead, .dead, .dead, .dead, .dead, .dead, .dead, .dead, .dead, .dead, .dead, .dead, .dead]
noncomputable def outbox_Fit_l0_s : List (List Sh) := []
noncomputable def outbox_Fit_l0_h : List BSh := [.mp false false (.int .i64 (.nil)) (.bool (.nil))]

noncomputable def outbox_Fit_l0_spec {α : Type} (outbox_one : outbox_one_T α) : LoopSpec α := ⟨6, 103, [true, false, true, true, true], outbox_Fit_l0_t, outbox_Fit_l0_s, outbox_Fit_l0_h, fun ds k => outbox_Fit_l0_run outbox_one (fun y1 y2 => k .ret (encSt [.dead, .dead, .bool, .dead, .dead, .dead, .dead, .dead, .dead, .dead, .dead, .dead, .dead, .dead, .dead, .dead, .dead, .dead, .dead, .dead, .dead, .dead, .dead, .dead, .dead, .dead, .dead, .dead, .dead, .dead, .dead, .dead, .dead, .dead, .dead, .dead, .dead, .dead] [] [.mp false false (.int .i64 (.nil)) (.bool (.nil))] [.b y1, .m (.int .i64 (.nil)) (.bool (.nil)) y2])) (fun y1 y2 => k (.exit 0) (encSt [.sl (.int .i64 (.int .i64 (.int .i64 (.bool (.int .i64 (.int .i64 (.bool (.nil)))))))), .dead, .dead, .dead, .dead, .dead, .dead, .dead, .dead, .dead, .dead, .dead, .dead, .dead, .dead, .dead, .dead, .dead, .dead, .dead, .dead, .dead, .dead, .dead, .dead, .dead, .dead, .dead, .dead, .dead, .dead, .dead, .dead, .dead, .dead, .dead, .dead, .dead] [] [.mp false false (.int .i64 (.nil)) (.bool (.nil))] [.q (.int .i64 (.int .i64 (.int .i64 (.bool (.int .i64 (.int .i64 (.bool (.nil)))))))) y1, .m (.int .i64 (.nil)) (.bool (.nil)) y2])) 1000 (hdQ (.int .i64 (.int .i64 (.int .i64 (.bool (.int .i64 (.int .i64 (.bool (.nil)))))))) ds) (hdI ds.tail) (hdQ (.int .i64 (.int .i64 (.int .i64 (.bool (.int .i64 (.int .i64 (.bool (.nil)))))))) ds.tail.tail) (hdI ds.tail.tail.tail) (hdI ds.tail.tail.tail.tail) (hdM (.int .i64 (.nil)) (.bool (.nil)) ds.tail.tail.tail.tail.tail)⟩

noncomputable def outbox_Fit_loops {α : Type} (outbox_one : outbox_one_T α) : List (LoopSpec α) := [outbox_Fit_l0_spec outbox_one]

noncomputable def outbox_Fit_l0_ev {α : Type} (outbox_one : outbox_one_T α) (n : Nat) (st : St) (k : X → St → Option α) : Option α := loopN (evCode Go.Proofs.Try.prog (callD Go.Proofs.Try.prog (envOf (outbox_Fit_C outbox_one) outbox_Fit_q outbox_Fit_inl 1000 outbox_Fit_ann false (outbox_Fit_loops outbox_one) (fun _ => none)) 6) (((envOf (outbox_Fit_C outbox_one) outbox_Fit_q outbox_Fit_inl 1000 outbox_Fit_ann false (outbox_Fit_loops outbox_one) (fun _ => none)) : Env α).L 6 103) 1000 (outbox_Fit_ann 103) (false :: [true, false, true, true, true]) (loopC Go.Proofs.Try.prog 103 [true, false, true, true, true])) ((outbox_Fit_ann 103 [true, false, true, true, true]).head 1) ((outbox_Fit_ann 103 [true, false, true, true, true]).leave 1) n st k

theorem outbox_Fit_l0_eq {α : Type} (outbox_one : outbox_one_T α) : ∀ (n : Nat) (l2 : Seq Z1) (last3 : Int) (x4 : Seq Z1) (x5 : Int) (x6 : Int) (m7 : List ((Int × Unit) × (Bool × Unit))) (k : X → St → Option α), outbox_Fit_l0_ev outbox_one n (encSt outbox_Fit_l0_t outbox_Fit_l0_s outbox_Fit_l0_h [.q (.int .i64 (.int .i64 (.int .i64 (.bool (.int .i64 (.int .i64 (.bool (.nil)))))))) l2, .i last3, .q (.int .i64 (.int .i64 (.int .i64 (.bool (.int .i64 (.int .i64 (.bool (.nil)))))))) x4, .i x5, .i x6, .m (.int .i64 (.nil)) (.bool (.nil)) m7]) k = outbox_Fit_l0_run outbox_one (fun y1 y2 => k .ret (encSt [.dead, .dead, .bool, .dead, .dead, .dead, .dead, .dead, .dead, .dead, .dead, .dead, .dead, .dead, .dead, .dead, .dead, .dead, .dead, .dead, .dead, .dead, .dead, .dead, .dead, .dead, .dead, .dead, .dead, .dead, .dead, .dead, .dead, .dead, .dead, .dead, .dead, .dead] [] [.mp false false (.int .i64 (.nil)) (.bool (.nil))] [.b y1, .m (.int .i64 (.nil)) (.bool (.nil)) y2])) (fun y1 y2 => k (.exit 0) (encSt [.sl (.int .i64 (.int .i64 (.int .i64 (.bool (.int .i64 (.int .i64 (.bool (.nil)))))))), .dead, .dead, .dead, .dead, .dead, .dead, .dead, .dead, .dead, .dead, .dead, .dead, .dead, .dead, .dead, .dead, .dead, .dead, .dead, .dead, .dead, .dead, .dead, .dead, .dead, .dead, .dead, .dead, .dead, .dead, .dead, .dead, .dead, .dead, .dead, .dead, .dead] [] [.mp false false (.int .i64 (.nil)) (.bool (.nil))] [.q (.int .i64 (.int .i64 (.int .i64 (.bool (.int .i64 (.int .i64 (.bool (.nil)))))))) y1, .m (.int .i64 (.nil)) (.bool (.nil)) y2])) n l2 last3 x4 x5 x6 m7 := by
  intro n
  induction n with
  | zero => intros; kernel_rfl
  | succ n ih =>
    intro l2 last3 x4 x5 x6 m7 k
    have e : (fun (l2 : Seq Z1) (last3 : Int) (x4 : Seq Z1) (x5 : Int) (x6 : Int) (m7 : List ((Int × Unit) × (Bool × Unit))) => outbox_Fit_l0_ev outbox_one n (encSt outbox_Fit_l0_t outbox_Fit_l0_s outbox_Fit_l0_h [.q (.int .i64 (.int .i64 (.int .i64 (.bool (.int .i64 (.int .i64 (.bool (.nil)))))))) l2, .i last3, .q (.int .i64 (.int .i64 (.int .i64 (.bool (.int .i64 (.int .i64 (.bool (.nil)))))))) x4, .i x5, .i x6, .m (.int .i64 (.nil)) (.bool (.nil)) m7]) k) = (fun (l2 : Seq Z1) (last3 : Int) (x4 : Seq Z1) (x5 : Int) (x6 : Int) (m7 : List ((Int × Unit) × (Bool × Unit))) => outbox_Fit_l0_run outbox_one (fun y1 y2 => k .ret (encSt [.dead, .dead, .bool, .dead, .dead, .dead, .dead, .dead, .dead, .dead, .dead, .dead, .dead, .dead, .dead, .dead, .dead, .dead, .dead, .dead, .dead, .dead, .dead, .dead, .dead, .dead, .dead, .dead, .dead, .dead, .dead, .dead, .dead, .dead, .dead, .dead, .dead, .dead] [] [.mp false false (.int .i64 (.nil)) (.bool (.nil))] [.b y1, .m (.int .i64 (.nil)) (.bool (.nil)) y2])) (fun y1 y2 => k (.exit 0) (encSt [.sl (.int .i64 (.int .i64 (.int .i64 (.bool (.int .i64 (.int .i64 (.bool (.nil)))))))), .dead, .dead, .dead, .dead, .dead, .dead, .dead, .dead, .dead, .dead, .dead, .dead, .dead, .dead, .dead, .dead, .dead, .dead, .dead, .dead, .dead, .dead, .dead, .dead, .dead, .dead, .dead, .dead, .dead, .dead, .dead, .dead, .dead, .dead, .dead, .dead, .dead] [] [.mp false false (.int .i64 (.nil)) (.bool (.nil))] [.q (.int .i64 (.int .i64 (.int .i64 (.bool (.int .i64 (.int .i64 (.bool (.nil)))))))) y1, .m (.int .i64 (.nil)) (.bool (.nil)) y2])) n l2 last3 x4 x5 x6 m7) := by
      funext l2 last3 x4 x5 x6 m7
      exact ih l2 last3 x4 x5 x6 m7 k
    have h1 : outbox_Fit_l0_ev outbox_one (n + 1) (encSt outbox_Fit_l0_t outbox_Fit_l0_s outbox_Fit_l0_h [.q (.int .i64 (.int .i64 (.int .i64 (.bool (.int .i64 (.int .i64 (.bool (.nil)))))))) l2, .i last3, .q (.int .i64 (.int .i64 (.int .i64 (.bool (.int .i64 (.int .i64 (.bool (.nil)))))))) x4, .i x5, .i x6, .m (.int .i64 (.nil)) (.bool (.nil)) m7]) k = outbox_Fit_l0_step outbox_one (fun y1 y2 => k .ret (encSt [.dead, .dead, .bool, .dead, .dead, .dead, .dead, .dead, .dead, .dead, .dead, .dead, .dead, .dead, .dead, .dead, .dead, .dead, .dead, .dead, .dead, .dead, .dead, .dead, .dead, .dead, .dead, .dead, .dead, .dead, .dead, .dead, .dead, .dead, .dead, .dead, .dead, .dead] [] [.mp false false (.int .i64 (.nil)) (.bool (.nil))] [.b y1, .m (.int .i64 (.nil)) (.bool (.nil)) y2])) (fun y1 y2 => k (.exit 0) (encSt [.sl (.int .i64 (.int .i64 (.int .i64 (.bool (.int .i64 (.int .i64 (.bool (.nil)))))))), .dead, .dead, .dead, .dead, .dead, .dead, .dead, .dead, .dead, .dead, .dead, .dead, .dead, .dead, .dead, .dead, .dead, .dead, .dead, .dead, .dead, .dead, .dead, .dead, .dead, .dead, .dead, .dead, .dead, .dead, .dead, .dead, .dead, .dead, .dead, .dead, .dead] [] [.mp false false (.int .i64 (.nil)) (.bool (.nil))] [.q (.int .i64 (.int .i64 (.int .i64 (.bool (.int .i64 (.int .i64 (.bool (.nil)))))))) y1, .m (.int .i64 (.nil)) (.bool (.nil)) y2])) (fun (l2 : Seq Z1) (last3 : Int) (x4 : Seq Z1) (x5 : Int) (x6 : Int) (m7 : List ((Int × Unit) × (Bool × Unit))) => outbox_Fit_l0_ev outbox_one n (encSt outbox_Fit_l0_t outbox_Fit_l0_s outbox_Fit_l0_h [.q (.int .i64 (.int .i64 (.int .i64 (.bool (.int .i64 (.int .i64 (.bool (.nil)))))))) l2, .i last3, .q (.int .i64 (.int .i64 (.int .i64 (.bool (.int .i64 (.int .i64 (.bool (.nil)))))))) x4, .i x5, .i x6, .m (.int .i64 (.nil)) (.bool (.nil)) m7]) k) l2 last3 x4 x5 x6 m7 := by kernel_rfl
    have h2 := congrArg (fun r => outbox_Fit_l0_step outbox_one (fun y1 y2 => k .ret (encSt [.dead, .dead, .bool, .dead, .dead, .dead, .dead, .dead, .dead, .dead, .dead, .dead, .dead, .dead, .dead, .dead, .dead, .dead, .dead, .dead, .dead, .dead, .dead, .dead, .dead, .dead, .dead, .dead, .dead, .dead, .dead, .dead, .dead, .dead, .dead, .dead, .dead, .dead] [] [.mp false false (.int .i64 (.nil)) (.bool (.nil))] [.b y1, .m (.int .i64 (.nil)) (.bool (.nil)) y2])) (fun y1 y2 => k (.exit 0) (encSt [.sl (.int .i64 (.int .i64 (.int .i64 (.bool (.int .i64 (.int .i64 (.bool (.nil)))))))), .dead, .dead, .dead, .dead, .dead, .dead, .dead, .dead, .dead, .dead, .dead, .dead, .dead, .dead, .dead, .dead, .dead, .dead, .dead, .dead, .dead, .dead, .dead, .dead, .dead, .dead, .dead, .dead, .dead, .dead, .dead, .dead, .dead, .dead, .dead, .dead, .dead] [] [.mp false false (.int .i64 (.nil)) (.bool (.nil))] [.q (.int .i64 (.int .i64 (.int .i64 (.bool (.int .i64 (.int .i64 (.bool (.nil)))))))) y1, .m (.int .i64 (.nil)) (.bool (.nil)) y2])) r l2 last3 x4 x5 x6 m7) e
    have h3 : outbox_Fit_l0_step outbox_one (fun y1 y2 => k .ret (encSt [.dead, .dead, .bool, .dead, .dead, .dead, .dead, .dead, .dead, .dead, .dead, .dead, .dead, .dead, .dead, .dead, .dead, .dead, .dead, .dead, .dead, .dead, .dead, .dead, .dead, .dead, .dead, .dead, .dead, .dead, .dead, .dead, .dead, .dead, .dead, .dead, .dead, .dead] [] [.mp false false (.int .i64 (.nil)) (.bool (.nil))] [.b y1, .m (.int .i64 (.nil)) (.bool (.nil)) y2])) (fun y1 y2 => k (.exit 0) (encSt [.sl (.int .i64 (.int .i64 (.int .i64 (.bool (.int .i64 (.int .i64 (.bool (.nil)))))))), .dead, .dead, .dead, .dead, .dead, .dead, .dead, .dead, .dead, .dead, .dead, .dead, .dead, .dead, .dead, .dead, .dead, .dead, .dead, .dead, .dead, .dead, .dead, .dead, .dead, .dead, .dead, .dead, .dead, .dead, .dead, .dead, .dead, .dead, .dead, .dead, .dead] [] [.mp false false (.int .i64 (.nil)) (.bool (.nil))] [.q (.int .i64 (.int .i64 (.int .i64 (.bool (.int .i64 (.int .i64 (.bool (.nil)))))))) y1, .m (.int .i64 (.nil)) (.bool (.nil)) y2])) (fun (l2 : Seq Z1) (last3 : Int) (x4 : Seq Z1) (x5 : Int) (x6 : Int) (m7 : List ((Int × Unit) × (Bool × Unit))) => outbox_Fit_l0_run outbox_one (fun y1 y2 => k .ret (encSt [.dead, .dead, .bool, .dead, .dead, .dead, .dead, .dead, .dead, .dead, .dead, .dead, .dead, .dead, .dead, .dead, .dead, .dead, .dead, .dead, .dead, .dead, .dead, .dead, .dead, .dead, .dead, .dead, .dead, .dead, .dead, .dead, .dead, .dead, .dead, .dead, .dead, .dead] [] [.mp false false (.int .i64 (.nil)) (.bool (.nil))] [.b y1, .m (.int .i64 (.nil)) (.bool (.nil)) y2])) (fun y1 y2 => k (.exit 0) (encSt [.sl (.int .i64 (.int .i64 (.int .i64 (.bool (.int .i64 (.int .i64 (.bool (.nil)))))))), .dead, .dead, .dead, .dead, .dead, .dead, .dead, .dead, .dead, .dead, .dead, .dead, .dead, .dead, .dead, .dead, .dead, .dead, .dead, .dead, .dead, .dead, .dead, .dead, .dead, .dead, .dead, .dead, .dead, .dead, .dead, .dead, .dead, .dead, .dead, .dead, .dead] [] [.mp false false (.int .i64 (.nil)) (.bool (.nil))] [.q (.int .i64 (.int .i64 (.int .i64 (.bool (.int .i64 (.int .i64 (.bool (.nil)))))))) y1, .m (.int .i64 (.nil)) (.bool (.nil)) y2])) n l2 last3 x4 x5 x6 m7) l2 last3 x4 x5 x6 m7 = outbox_Fit_l0_run outbox_one (fun y1 y2 => k .ret (encSt [.dead, .dead, .bool, .dead, .dead, .dead, .dead, .dead, .dead, .dead, .dead, .dead, .dead, .dead, .dead, .dead, .dead, .dead, .dead, .dead, .dead, .dead, .dead, .dead, .dead, .dead, .dead, .dead, .dead, .dead, .dead, .dead, .dead, .dead, .dead, .dead, .dead, .dead] [] [.mp false false (.int .i64 (.nil)) (.bool (.nil))] [.b y1, .m (.int .i64 (.nil)) (.bool (.nil)) y2])) (fun y1 y2 => k (.exit 0) (encSt [.sl (.int .i64 (.int .i64 (.int .i64 (.bool (.int .i64 (.int .i64 (.bool (.nil)))))))), .dead, .dead, .dead, .dead, .dead, .dead, .dead, .dead, .dead, .dead, .dead, .dead, .dead, .dead, .dead, .dead, .dead, .dead, .dead, .dead, .dead, .dead, .dead, .dead, .dead, .dead, .dead, .dead, .dead, .dead, .dead, .dead, .dead, .dead, .dead, .dead, .dead] [] [.mp false false (.int .i64 (.nil)) (.bool (.nil))] [.q (.int .i64 (.int .i64 (.int .i64 (.bool (.int .i64 (.int .i64 (.bool (.nil)))))))) y1, .m (.int .i64 (.nil)) (.bool (.nil)) y2])) (n + 1) l2 last3 x4 x5 x6 m7 := by kernel_rfl
    exact h1.trans (h2.trans h3)

theorem outbox_Fit_l0_ok {α : Type} (outbox_one : outbox_one_T α) : (outbox_Fit_l0_spec outbox_one : LoopSpec α).ok Go.Proofs.Try.prog (envOf (outbox_Fit_C outbox_one) outbox_Fit_q outbox_Fit_inl 1000 outbox_Fit_ann false (outbox_Fit_loops outbox_one) (fun _ => none)) := by
  intro ds k
  have h1 : outbox_Fit_l0_ev outbox_one 1000 (encSt outbox_Fit_l0_t outbox_Fit_l0_s outbox_Fit_l0_h ds) k = outbox_Fit_l0_ev outbox_one 1000 (encSt outbox_Fit_l0_t outbox_Fit_l0_s outbox_Fit_l0_h [.q (.int .i64 (.int .i64 (.int .i64 (.bool (.int .i64 (.int .i64 (.bool (.nil)))))))) (hdQ (.int .i64 (.int .i64 (.int .i64 (.bool (.int .i64 (.int .i64 (.bool (.nil)))))))) ds), .i (hdI ds.tail), .q (.int .i64 (.int .i64 (.int .i64 (.bool (.int .i64 (.int .i64 (.bool (.nil)))))))) (hdQ (.int .i64 (.int .i64 (.int .i64 (.bool (.int .i64 (.int .i64 (.bool (.nil)))))))) ds.tail.tail), .i (hdI ds.tail.tail.tail), .i (hdI ds.tail.tail.tail.tail), .m (.int .i64 (.nil)) (.bool (.nil)) (hdM (.int .i64 (.nil)) (.bool (.nil)) ds.tail.tail.tail.tail.tail)]) k := by kernel_rfl
  have h2 := outbox_Fit_l0_eq outbox_one 1000 (hdQ (.int .i64 (.int .i64 (.int .i64 (.bool (.int .i64 (.int .i64 (.bool (.nil)))))))) ds) (hdI ds.tail) (hdQ (.int .i64 (.int .i64 (.int .i64 (.bool (.int .i64 (.int .i64 (.bool (.nil)))))))) ds.tail.tail) (hdI ds.tail.tail.tail) (hdI ds.tail.tail.tail.tail) (hdM (.int .i64 (.nil)) (.bool (.nil)) ds.tail.tail.tail.tail.tail) k
  exact h1.trans h2

theorem outbox_Fit_ev {α : Type} (outbox_one : outbox_one_T α) : EvOk (α := α) Go.Proofs.Try.prog (envOf (outbox_Fit_C outbox_one) outbox_Fit_q outbox_Fit_inl 1000 outbox_Fit_ann false (outbox_Fit_loops outbox_one) (fun _ => none)) 6 (outbox_Fit_sp (outbox_Fit_g outbox_one)) := by intro ds k; kernel_rfl

theorem outbox_Fit_ok {α : Type} : (outbox_Fit_spec : FunSpec α).ok Go.Proofs.Try.prog :=
  FunSpec.ok_of (sp := outbox_Fit_spec) (C := outbox_Fit_C outbox_one) (q := outbox_Fit_q) (inl := outbox_Fit_inl) (N := 1000) (ann := outbox_Fit_ann) (fr := false) (D := 6) (l := (outbox_Fit_loops outbox_one)) (hk := (fun _ => none)) (okCons outbox_one_ok okNil) (lokCons (outbox_Fit_l0_ok outbox_one) lokNil) noHooks (outbox_Fit_ev outbox_one)

end
end Go.Rv.Try

set_option linter.unusedVariables false
set_option maxRecDepth 100000
set_option maxHeartbeats 4000000
namespace Go.Rv.Try
open Go Go.Rv Go.RowKit
noncomputable section

-- drayman/msg.FitReply

abbrev msg_FitReply_T (α : Type) : Type := (Int × Int × Int × Int × Bool × Int × Int × Unit) → (Bool → Option α) → Option α

noncomputable def msg_FitReply_g {α : Type} (msg_id : msg_id_T α) (r1 : Int × Int × Int × Int × Bool × Int × Int × Unit) (k : Bool → Option α) : Option α :=
  (cond (r1.1 == 1)
    (cond (r1.1 == 1)
      (msg_id (⟨false, 3, (tSel [(r1.2.1, ()), (r1.2.2.1, ()), (r1.2.2.2.2.2.1, ())] (0, ()))⟩ : Seq (Int × Unit)) fun r2 =>
        (cond r2
          (cond (decide ((0 : Int) ≤ r1.2.2.2.1))
            (cond (decide (r1.2.2.2.1 < 6))
              (cond (decide ((1 : Int) ≤ r1.2.2.2.2.2.2.1))
                (k (decide (r1.2.2.2.2.2.2.1 ≤ 3)))
                (k false))
              (k false))
            (k false))
          (k false)))
      (k false))
    (cond (r1.1 == 2)
      (msg_id (⟨false, 3, (tSel [(r1.2.1, ()), (r1.2.2.1, ()), (r1.2.2.2.2.2.1, ())] (0, ()))⟩ : Seq (Int × Unit)) fun r3 =>
        (cond r3
          (cond (decide ((0 : Int) ≤ r1.2.2.2.1))
            (cond (decide (r1.2.2.2.1 < 6))
              (cond (decide ((1 : Int) ≤ r1.2.2.2.2.2.2.1))
                (k (decide (r1.2.2.2.2.2.2.1 ≤ 3)))
                (k false))
              (k false))
            (k false))
          (k false)))
      (k false)))

noncomputable def msg_FitReply {α : Type} : msg_FitReply_T α := msg_FitReply_g msg_id

noncomputable def msg_FitReply_sp {α : Type} (msg_FitReply : msg_FitReply_T α) : FunSpec α := ⟨51, [.agg [.int .i64, .int .i64, .int .i64, .int .i64, .bool, .int .i64, .int .i64]], [], fun ds k => msg_FitReply (hdI ds, hdI ds.tail, hdI ds.tail.tail, hdI ds.tail.tail.tail, hdB ds.tail.tail.tail.tail, hdI ds.tail.tail.tail.tail.tail, hdI ds.tail.tail.tail.tail.tail.tail, ()) (fun r1 => k (enc dep (.bool) [.b r1]).1 [])⟩

noncomputable def msg_FitReply_spec {α : Type} : FunSpec α := msg_FitReply_sp msg_FitReply

noncomputable def msg_FitReply_C {α : Type} (msg_id : msg_id_T α) : List (FunSpec α) := [msg_id_sp msg_id]

noncomputable def msg_FitReply_q : FuncId → Bool := fun f => Nat.beq f 102

noncomputable def msg_FitReply_inl : FuncId → Bool := fun f => false

noncomputable def msg_FitReply_ann : FuncId → AnnT := fun f p => ⟨[], [], [], [], 0, [], []⟩

noncomputable def msg_FitReply_loops {α : Type} (msg_id : msg_id_T α) : List (LoopSpec α) := []

theorem msg_FitReply_ev {α : Type} (msg_id : msg_id_T α) : EvOk (α := α) Go.Proofs.Try.prog (envOf (msg_FitReply_C msg_id) msg_FitReply_q msg_FitReply_inl 1000 msg_FitReply_ann false (msg_FitReply_loops msg_id) (fun _ => none)) 6 (msg_FitReply_sp (msg_FitReply_g msg_id)) := by intro ds k; kernel_rfl

theorem msg_FitReply_ok {α : Type} : (msg_FitReply_spec : FunSpec α).ok Go.Proofs.Try.prog :=
  FunSpec.ok_of (sp := msg_FitReply_spec) (C := msg_FitReply_C msg_id) (q := msg_FitReply_q) (inl := msg_FitReply_inl) (N := 1000) (ann := msg_FitReply_ann) (fr := false) (D := 6) (l := (msg_FitReply_loops msg_id)) (hk := (fun _ => none)) (okCons msg_id_ok okNil) lokNil noHooks (msg_FitReply_ev msg_id)

end
end Go.Rv.Try

set_option linter.unusedVariables false
set_option maxRecDepth 100000
set_option maxHeartbeats 4000000
namespace Go.Rv.Try
open Go Go.Rv Go.RowKit
noncomputable section

-- drayman/msg.Fit

abbrev msg_Fit_T (α : Type) : Type := Z0 → (Bool → Option α) → Option α

noncomputable def msg_Fit_g {α : Type} (msg_id : msg_id_T α) (outbox_Fit : outbox_Fit_T α) (outbox_Service : outbox_Service_T α) (msg_FitReply : msg_FitReply_T α) (x1 : Int × Bool × Int × Int × Int × Int × Bool × Int × Int × Bool × Int × Int × Int × Int × Bool × Int × Int × Unit) (k : Bool → Option α) : Option α :=
  (cond x1.2.1
    (msg_id (⟨false, 1, (fun _ => (x1.1, ()))⟩ : Seq (Int × Unit)) fun r2 =>
      (cond r2
        (outbox_Fit (⟨false, 1, (fun _ => (x1.2.2.2.1, x1.2.2.2.2.1, x1.2.2.2.2.2.1, x1.2.2.2.2.2.2.1, x1.2.2.2.2.2.2.2.1, x1.2.2.2.2.2.2.2.2.1, x1.2.2.2.2.2.2.2.2.2.1, ()))⟩ : Seq Z1) fun r3 =>
          (cond r3
            (outbox_Service x1.2.2.2.2.2.2.2.1 fun r4 =>
              (cond (x1.2.2.1 == r4)
                (k ((x1.2.2.2.2.2.2.2.2.2.2.1 == 0) && ((x1.2.2.2.2.2.2.2.2.2.2.2.1 == 0) && ((x1.2.2.2.2.2.2.2.2.2.2.2.2.1 == 0) && ((x1.2.2.2.2.2.2.2.2.2.2.2.2.2.1 == 0) && ((x1.2.2.2.2.2.2.2.2.2.2.2.2.2.2.1 == false) && ((x1.2.2.2.2.2.2.2.2.2.2.2.2.2.2.2.1 == 0) && ((x1.2.2.2.2.2.2.2.2.2.2.2.2.2.2.2.2.1 == 0) && true))))))))
                (k false)))
            (k false)))
        (k false)))
    (msg_id (⟨false, 1, (fun _ => (x1.1, ()))⟩ : Seq (Int × Unit)) fun r5 =>
      (cond r5
        (msg_FitReply x1.2.2.2.2.2.2.2.2.2.2 fun r6 =>
          (cond r6
            (cond (x1.2.2.1 == x1.2.2.2.2.2.2.2.2.2.2.1)
              (k ((x1.2.2.2.1 == 0) && ((x1.2.2.2.2.1 == 0) && ((x1.2.2.2.2.2.1 == 0) && ((x1.2.2.2.2.2.2.1 == false) && ((x1.2.2.2.2.2.2.2.1 == 0) && ((x1.2.2.2.2.2.2.2.2.1 == 0) && ((x1.2.2.2.2.2.2.2.2.2.1 == false) && true))))))))
              (k false))
            (k false)))
        (k false))))

noncomputable def msg_Fit {α : Type} : msg_Fit_T α := msg_Fit_g msg_id outbox_Fit outbox_Service msg_FitReply

noncomputable def msg_Fit_sp {α : Type} (msg_Fit : msg_Fit_T α) : FunSpec α := ⟨49, [.agg [.int .i64, .bool, .int .i64, .int .i64, .int .i64, .int .i64, .bool, .int .i64, .int .i64, .bool, .int .i64, .int .i64, .int .i64, .int .i64, .bool, .int .i64, .int .i64]], [], fun ds k => msg_Fit (hdI ds, hdB ds.tail, hdI ds.tail.tail, hdI ds.tail.tail.tail, hdI ds.tail.tail.tail.tail, hdI ds.tail.tail.tail.tail.tail, hdB ds.tail.tail.tail.tail.tail.tail, hdI ds.tail.tail.tail.tail.tail.tail.tail, hdI ds.tail.tail.tail.tail.tail.tail.tail.tail, hdB ds.tail.tail.tail.tail.tail.tail.tail.tail.tail, hdI ds.tail.tail.tail.tail.tail.tail.tail.tail.tail.tail, hdI ds.tail.tail.tail.tail.tail.tail.tail.tail.tail.tail.tail, hdI ds.tail.tail.tail.tail.tail.tail.tail.tail.tail.tail.tail.tail, hdI ds.tail.tail.tail.tail.tail.tail.tail.tail.tail.tail.tail.tail.tail, hdB ds.tail.tail.tail.tail.tail.tail.tail.tail.tail.tail.tail.tail.tail.tail, hdI ds.tail.tail.tail.tail.tail.tail.tail.tail.tail.tail.tail.tail.tail.tail.tail, hdI ds.tail.tail.tail.tail.tail.tail.tail.tail.tail.tail.tail.tail.tail.tail.tail.tail, ()) (fun r1 => k (enc dep (.bool) [.b r1]).1 [])⟩

noncomputable def msg_Fit_spec {α : Type} : FunSpec α := msg_Fit_sp msg_Fit

noncomputable def msg_Fit_C {α : Type} (msg_id : msg_id_T α) (outbox_Fit : outbox_Fit_T α) (outbox_Service : outbox_Service_T α) (msg_FitReply : msg_FitReply_T α) : List (FunSpec α) := [msg_id_sp msg_id, outbox_Fit_sp outbox_Fit, outbox_Service_sp outbox_Service, msg_FitReply_sp msg_FitReply]

noncomputable def msg_Fit_q : FuncId → Bool := fun f => Nat.beq f 51 || Nat.beq f 81 || Nat.beq f 102 || Nat.beq f 103

noncomputable def msg_Fit_inl : FuncId → Bool := fun f => false

noncomputable def msg_Fit_ann : FuncId → AnnT := fun f p => if f = 49 then (if p = [false, false, true, false, true] then ⟨[], [], [], [], 2, [], []⟩ else ⟨[], [], [], [], 0, [], []⟩) else ⟨[], [], [], [], 0, [], []⟩

noncomputable def msg_Fit_loops {α : Type} (msg_id : msg_id_T α) (outbox_Fit : outbox_Fit_T α) (outbox_Service : outbox_Service_T α) (msg_FitReply : msg_FitReply_T α) : List (LoopSpec α) := []

theorem msg_Fit_ev {α : Type} (msg_id : msg_id_T α) (outbox_Fit : outbox_Fit_T α) (outbox_Service : outbox_Service_T α) (msg_FitReply : msg_FitReply_T α) : EvOk (α := α) Go.Proofs.Try.prog (envOf (msg_Fit_C msg_id outbox_Fit outbox_Service msg_FitReply) msg_Fit_q msg_Fit_inl 1000 msg_Fit_ann false (msg_Fit_loops msg_id outbox_Fit outbox_Service msg_FitReply) (fun _ => none)) 6 (msg_Fit_sp (msg_Fit_g msg_id outbox_Fit outbox_Service msg_FitReply)) := by intro ds k; kernel_rfl

theorem msg_Fit_ok {α : Type} : (msg_Fit_spec : FunSpec α).ok Go.Proofs.Try.prog :=
  FunSpec.ok_of (sp := msg_Fit_spec) (C := msg_Fit_C msg_id outbox_Fit outbox_Service msg_FitReply) (q := msg_Fit_q) (inl := msg_Fit_inl) (N := 1000) (ann := msg_Fit_ann) (fr := false) (D := 6) (l := (msg_Fit_loops msg_id outbox_Fit outbox_Service msg_FitReply)) (hk := (fun _ => none)) (okCons msg_id_ok (okCons outbox_Fit_ok (okCons outbox_Service_ok (okCons msg_FitReply_ok okNil)))) lokNil noHooks (msg_Fit_ev msg_id outbox_Fit outbox_Service msg_FitReply)

end
end Go.Rv.Try

set_option linter.unusedVariables false
set_option maxRecDepth 100000
set_option maxHeartbeats 4000000
namespace Go.Rv.Try
open Go Go.Rv Go.RowKit
noncomputable section

-- drayman/net.Fit

abbrev net_Fit_T (α : Type) : Type := (Int × (Seq Z0) × Unit) → (Bool → Option α) → Option α

noncomputable def net_Fit_l0_step {α : Type} (msg_Fit : msg_Fit_T α) (kr : (Bool) → (Int × (Seq Z0) × Unit) → (List ((Int × Unit) × (Bool × Unit))) → Option α) (k0 : (Int × (Seq Z0) × Unit) → (List ((Int × Unit) × (Bool × Unit))) → Option α) (rec : (Seq Z0) → (Int) → (Int) → (Int × (Seq Z0) × Unit) → (List ((Int × Unit) × (Bool × Unit))) → Option α) (x2 : Seq Z0) (x3 : Int) (x4 : Int) (x5 : Int × (Seq Z0) × Unit) (m6 : List ((Int × Unit) × (Bool × Unit))) : Option α :=
  (cond (decide (x4 < x3))
    (cond ((decide ((0 : Int) ≤ x4)) && (decide (x4 < (x2.n : Int))))
      (msg_Fit (x2.g x4.toNat) fun r7 =>
        (cond (!(!r7))
          (cond (!(decide ((x2.g x4.toNat).1 ≥ x5.1)))
            (cond (mGetD (.int .i64 (.nil)) m6 ((x2.g x4.toNat).1, ()) (false, ())).1
              (kr false x5 m6)
              (rec x2 x3 (IntKind.i64.wrap (x4 + 1)) x5 (mPut (.int .i64 (.nil)) m6 ((x2.g x4.toNat).1, ()) (true, ()))))
            (kr false x5 m6))
          (kr false x5 m6)))
      none)
    (k0 x5 m6))

noncomputable def net_Fit_l0_run {α : Type} (msg_Fit : msg_Fit_T α) (kr : (Bool) → (Int × (Seq Z0) × Unit) → (List ((Int × Unit) × (Bool × Unit))) → Option α) (k0 : (Int × (Seq Z0) × Unit) → (List ((Int × Unit) × (Bool × Unit))) → Option α) : Nat → (Seq Z0) → (Int) → (Int) → (Int × (Seq Z0) × Unit) → (List ((Int × Unit) × (Bool × Unit))) → Option α
  | 0, _, _, _, _, _ => none
  | n + 1, x2, x3, x4, x5, m6 => net_Fit_l0_step msg_Fit kr k0 (fun x2 x3 x4 x5 m6 => net_Fit_l0_run msg_Fit kr k0 n x2 x3 x4 x5 m6) x2 x3 x4 x5 m6

noncomputable def net_Fit_g {α : Type} (msg_Fit : msg_Fit_T α) (n1 : Int × (Seq Z0) × Unit) (k : Bool → Option α) : Option α :=
  (net_Fit_l0_run msg_Fit
    (fun x8 x9 m10 =>
      (k x8))
    (fun x11 m12 =>
      (cond (decide ((1 : Int) ≤ x11.1))
        (cond (decide (x11.1 ≤ 1099511627776))
          (k (decide ((x11.2.1.n : Int) ≤ 64)))
          (k false))
        (k false)))
    1000 n1.2.1 (n1.2.1.n : Int) 0 n1 ([] : List ((Int × Unit) × (Bool × Unit))))

noncomputable def net_Fit {α : Type} : net_Fit_T α := net_Fit_g msg_Fit

noncomputable def net_Fit_sp {α : Type} (net_Fit : net_Fit_T α) : FunSpec α := ⟨20, [.agg [.int .i64, .sl (.int .i64 (.bool (.int .i64 (.int .i64 (.int .i64 (.int .i64 (.bool (.int .i64 (.int .i64 (.bool (.int .i64 (.int .i64 (.int .i64 (.int .i64 (.bool (.int .i64 (.int .i64 (.nil))))))))))))))))))]], [], fun ds k => net_Fit (hdI ds, hdQ (.int .i64 (.bool (.int .i64 (.int .i64 (.int .i64 (.int .i64 (.bool (.int .i64 (.int .i64 (.bool (.int .i64 (.int .i64 (.int .i64 (.int .i64 (.bool (.int .i64 (.int .i64 (.nil)))))))))))))))))) ds.tail, ()) (fun r1 => k (enc dep (.bool) [.b r1]).1 [])⟩

noncomputable def net_Fit_spec {α : Type} : FunSpec α := net_Fit_sp net_Fit

noncomputable def net_Fit_C {α : Type} (msg_Fit : msg_Fit_T α) : List (FunSpec α) := [msg_Fit_sp msg_Fit]

noncomputable def net_Fit_q : FuncId → Bool := fun f => Nat.beq f 49

noncomputable def net_Fit_inl : FuncId → Bool := fun f => false

noncomputable def net_Fit_ann : FuncId → AnnT := fun f p => if f = 20 then (if p = [true, false, true, true] then ⟨[1, 3, 8, 9, 10], [], [1], [2], 0, [], []⟩ else ⟨[], [], [], [], 0, [], []⟩) else ⟨[], [], [], [], 0, [], []⟩

noncomputable def net_Fit_l0_t : List Sh := [.dead, .ref 0 0, .dead, .mp 1, .dead, .dead, .dead, .dead, .sl (.int .i64 (.bool (.int .i64 (.int .i64 (.int .i64 (.int .i64 (.bool (.int .i64 (.int .i64 (.bool (.int .i64 (.int .i64 (.int .i64 (.int .i64 (.bool (.int .i64 (.int .i64 (.nil)))))))))))))))))), .int .i64, .int .i64, .dead, .dead, .dead, .dead, .dead, .dead, .dead, .dead, .dead, .dead, .dead, .dead, .dead, .dead, .dead, .dead, .dead, .dead, .dead, .dead, .dead, .dead, .dead, .dead, .dead, .dead, .dead, .dead, .dead, .dead, .dead, .dead, .dead, .dead, .dead, .dead, .dead]
noncomputable def net_Fit_l0_s : List (List Sh) := []
noncomputable def net_Fit_l0_h : List BSh := [.box [.int .i64, .sl (.int .i64 (.bool (.int .i64 (.int .i64 (.int .i64 (.int .i64 (.bool (.int .i64 (.int .i64 (.bool (.int .i64 (.int .i64 (.int .i64 (.int .i64 (.bool (.int .i64 (.int .i64 (.nil))))))))))))))))))], .mp false false (.int .i64 (.nil)) (.bool (.nil))]

noncomputable def net_Fit_l0_spec {α : Type} (msg_Fit : msg_Fit_T α) : LoopSpec α := ⟨6, 20, [true, false, true, true], net_Fit_l0_t, net_Fit_l0_s, net_Fit_l0_h, fun ds k => net_Fit_l0_run msg_Fit (fun y1 y2 y3 => k .ret (encSt [.dead, .dead, .bool, .dead, .dead, .dead, .dead, .dead, .dead, .dead, .dead, .dead, .dead, .dead, .dead, .dead, .dead, .dead, .dead, .dead, .dead, .dead, .dead, .dead, .dead, .dead, .dead, .dead, .dead, .dead, .dead, .dead, .dead, .dead, .dead, .dead, .dead, .dead, .dead, .dead, .dead, .dead, .dead, .dead, .dead, .dead, .dead, .dead] [] [.box [.int .i64, .sl (.int .i64 (.bool (.int .i64 (.int .i64 (.int .i64 (.int .i64 (.bool (.int .i64 (.int .i64 (.bool (.int .i64 (.int .i64 (.int .i64 (.int .i64 (.bool (.int .i64 (.int .i64 (.nil))))))))))))))))))], .mp false false (.int .i64 (.nil)) (.bool (.nil))] [.b y1, .i y2.1, .q (.int .i64 (.bool (.int .i64 (.int .i64 (.int .i64 (.int .i64 (.bool (.int .i64 (.int .i64 (.bool (.int .i64 (.int .i64 (.int .i64 (.int .i64 (.bool (.int .i64 (.int .i64 (.nil)))))))))))))))))) y2.2.1, .m (.int .i64 (.nil)) (.bool (.nil)) y3])) (fun y1 y2 => k (.exit 0) (encSt [.dead, .ref 0 0, .dead, .dead, .dead, .dead, .dead, .dead, .dead, .dead, .dead, .dead, .dead, .dead, .dead, .dead, .dead, .dead, .dead, .dead, .dead, .dead, .dead, .dead, .dead, .dead, .dead, .dead, .dead, .dead, .dead, .dead, .dead, .dead, .dead, .dead, .dead, .dead, .dead, .dead, .dead, .dead, .dead, .dead, .dead, .dead, .dead, .dead] [] [.box [.int .i64, .sl (.int .i64 (.bool (.int .i64 (.int .i64 (.int .i64 (.int .i64 (.bool (.int .i64 (.int .i64 (.bool (.int .i64 (.int .i64 (.int .i64 (.int .i64 (.bool (.int .i64 (.int .i64 (.nil))))))))))))))))))], .mp false false (.int .i64 (.nil)) (.bool (.nil))] [.i y1.1, .q (.int .i64 (.bool (.int .i64 (.int .i64 (.int .i64 (.int .i64 (.bool (.int .i64 (.int .i64 (.bool (.int .i64 (.int .i64 (.int .i64 (.int .i64 (.bool (.int .i64 (.int .i64 (.nil)))))))))))))))))) y1.2.1, .m (.int .i64 (.nil)) (.bool (.nil)) y2])) 1000 (hdQ (.int .i64 (.bool (.int .i64 (.int .i64 (.int .i64 (.int .i64 (.bool (.int .i64 (.int .i64 (.bool (.int .i64 (.int .i64 (.int .i64 (.int .i64 (.bool (.int .i64 (.int .i64 (.nil)))))))))))))))))) ds) (hdI ds.tail) (hdI ds.tail.tail) (hdI ds.tail.tail.tail, hdQ (.int .i64 (.bool (.int .i64 (.int .i64 (.int .i64 (.int .i64 (.bool (.int .i64 (.int .i64 (.bool (.int .i64 (.int .i64 (.int .i64 (.int .i64 (.bool (.int .i64 (.int .i64 (.nil)))))))))))))))))) ds.tail.tail.tail.tail, ()) (hdM (.int .i64 (.nil)) (.bool (.nil)) ds.tail.tail.tail.tail.tail)⟩

noncomputable def net_Fit_loops {α : Type} (msg_Fit : msg_Fit_T α) : List (LoopSpec α) := [net_Fit_l0_spec msg_Fit]

noncomputable def net_Fit_l0_ev {α : Type} (msg_Fit : msg_Fit_T α) (n : Nat) (st : St) (k : X → St → Option α) : Option α := loopN (evCode Go.Proofs.Try.prog (callD Go.Proofs.Try.prog (envOf (net_Fit_C msg_Fit) net_Fit_q net_Fit_inl 1000 net_Fit_ann false (net_Fit_loops msg_Fit) (fun _ => none)) 6) (((envOf (net_Fit_C msg_Fit) net_Fit_q net_Fit_inl 1000 net_Fit_ann false (net_Fit_loops msg_Fit) (fun _ => none)) : Env α).L 6 20) 1000 (net_Fit_ann 20) (false :: [true, false, true, true]) (loopC Go.Proofs.Try.prog 20 [true, false, true, true])) ((net_Fit_ann 20 [true, false, true, true]).head 2) ((net_Fit_ann 20 [true, false, true, true]).leave 2) n st k

theorem net_Fit_l0_eq {α : Type} (msg_Fit : msg_Fit_T α) : ∀ (n : Nat) (x2 : Seq Z0) (x3 : Int) (x4 : Int) (x5 : Int × (Seq Z0) × Unit) (m6 : List ((Int × Unit) × (Bool × Unit))) (k : X → St → Option α), net_Fit_l0_ev msg_Fit n (encSt net_Fit_l0_t net_Fit_l0_s net_Fit_l0_h [.q (.int .i64 (.bool (.int .i64 (.int .i64 (.int .i64 (.int .i64 (.bool (.int .i64 (.int .i64 (.bool (.int .i64 (.int .i64 (.int .i64 (.int .i64 (.bool (.int .i64 (.int .i64 (.nil)))))))))))))))))) x2, .i x3, .i x4, .i x5.1, .q (.int .i64 (.bool (.int .i64 (.int .i64 (.int .i64 (.int .i64 (.bool (.int .i64 (.int .i64 (.bool (.int .i64 (.int .i64 (.int .i64 (.int .i64 (.bool (.int .i64 (.int .i64 (.nil)))))))))))))))))) x5.2.1, .m (.int .i64 (.nil)) (.bool (.nil)) m6]) k = net_Fit_l0_run msg_Fit (fun y1 y2 y3 => k .ret (encSt [.dead, .dead, .bool, .dead, .dead, .dead, .dead, .dead, .dead, .dead, .dead, .dead, .dead, .dead, .dead, .dead, .dead, .dead, .dead, .dead, .dead, .dead, .dead, .dead, .dead, .dead, .dead, .dead, .dead, .dead, .dead, .dead, .dead, .dead, .dead, .dead, .dead, .dead, .dead, .dead, .dead, .dead, .dead, .dead, .dead, .dead, .dead, .dead] [] [.box [.int .i64, .sl (.int .i64 (.bool (.int .i64 (.int .i64 (.int .i64 (.int .i64 (.bool (.int .i64 (.int .i64 (.bool (.int .i64 (.int .i64 (.int .i64 (.int .i64 (.bool (.int .i64 (.int .i64 (.nil))))))))))))))))))], .mp false false (.int .i64 (.nil)) (.bool (.nil))] [.b y1, .i y2.1, .q (.int .i64 (.bool (.int .i64 (.int .i64 (.int .i64 (.int .i64 (.bool (.int .i64 (.int .i64 (.bool (.int .i64 (.int .i64 (.int .i64 (.int .i64 (.bool (.int .i64 (.int .i64 (.nil)))))))))))))))))) y2.2.1, .m (.int .i64 (.nil)) (.bool (.nil)) y3])) (fun y1 y2 => k (.exit 0) (encSt [.dead, .ref 0 0, .dead, .dead, .dead, .dead, .dead, .dead, .dead, .dead, .dead, .dead, .dead, .dead, .dead, .dead, .dead, .dead, .dead, .dead, .dead, .dead, .dead, .dead, .dead, .dead, .dead, .dead, .dead, .dead, .dead, .dead, .dead, .dead, .dead, .dead, .dead, .dead, .dead, .dead, .dead, .dead, .dead, .dead, .dead, .dead, .dead, .dead] [] [.box [.int .i64, .sl (.int .i64 (.bool (.int .i64 (.int .i64 (.int .i64 (.int .i64 (.bool (.int .i64 (.int .i64 (.bool (.int .i64 (.int .i64 (.int .i64 (.int .i64 (.bool (.int .i64 (.int .i64 (.nil))))))))))))))))))], .mp false false (.int .i64 (.nil)) (.bool (.nil))] [.i y1.1, .q (.int .i64 (.bool (.int .i64 (.int .i64 (.int .i64 (.int .i64 (.bool (.int .i64 (.int .i64 (.bool (.int .i64 (.int .i64 (.int .i64 (.int .i64 (.bool (.int .i64 (.int .i64 (.nil)))))))))))))))))) y1.2.1, .m (.int .i64 (.nil)) (.bool (.nil)) y2])) n x2 x3 x4 x5 m6 := by
  intro n
  induction n with
  | zero => intros; kernel_rfl
  | succ n ih =>
    intro x2 x3 x4 x5 m6 k
    have e : (fun (x2 : Seq Z0) (x3 : Int) (x4 : Int) (x5 : Int × (Seq Z0) × Unit) (m6 : List ((Int × Unit) × (Bool × Unit))) => net_Fit_l0_ev msg_Fit n (encSt net_Fit_l0_t net_Fit_l0_s net_Fit_l0_h [.q (.int .i64 (.bool (.int .i64 (.int .i64 (.int .i64 (.int .i64 (.bool (.int .i64 (.int .i64 (.bool (.int .i64 (.int .i64 (.int .i64 (.int .i64 (.bool (.int .i64 (.int .i64 (.nil)))))))))))))))))) x2, .i x3, .i x4, .i x5.1, .q (.int .i64 (.bool (.int .i64 (.int .i64 (.int .i64 (.int .i64 (.bool (.int .i64 (.int .i64 (.bool (.int .i64 (.int .i64 (.int .i64 (.int .i64 (.bool (.int .i64 (.int .i64 (.nil)))))))))))))))))) x5.2.1, .m (.int .i64 (.nil)) (.bool (.nil)) m6]) k) = (fun (x2 : Seq Z0) (x3 : Int) (x4 : Int) (x5 : Int × (Seq Z0) × Unit) (m6 : List ((Int × Unit) × (Bool × Unit))) => net_Fit_l0_run msg_Fit (fun y1 y2 y3 => k .ret (encSt [.dead, .dead, .bool, .dead, .dead, .dead, .dead, .dead, .dead, .dead, .dead, .dead, .dead, .dead, .dead, .dead, .dead, .dead, .dead, .dead, .dead, .dead, .dead, .dead, .dead, .dead, .dead, .dead, .dead, .dead, .dead, .dead, .dead, .dead, .dead, .dead, .dead, .dead, .dead, .dead, .dead, .dead, .dead, .dead, .dead, .dead, .dead, .dead] [] [.box [.int .i64, .sl (.int .i64 (.bool (.int .i64 (.int .i64 (.int .i64 (.int .i64 (.bool (.int .i64 (.int .i64 (.bool (.int .i64 (.int .i64 (.int .i64 (.int .i64 (.bool (.int .i64 (.int .i64 (.nil))))))))))))))))))], .mp false false (.int .i64 (.nil)) (.bool (.nil))] [.b y1, .i y2.1, .q (.int .i64 (.bool (.int .i64 (.int .i64 (.int .i64 (.int .i64 (.bool (.int .i64 (.int .i64 (.bool (.int .i64 (.int .i64 (.int .i64 (.int .i64 (.bool (.int .i64 (.int .i64 (.nil)))))))))))))))))) y2.2.1, .m (.int .i64 (.nil)) (.bool (.nil)) y3])) (fun y1 y2 => k (.exit 0) (encSt [.dead, .ref 0 0, .dead, .dead, .dead, .dead, .dead, .dead, .dead, .dead, .dead, .dead, .dead, .dead, .dead, .dead, .dead, .dead, .dead, .dead, .dead, .dead, .dead, .dead, .dead, .dead, .dead, .dead, .dead, .dead, .dead, .dead, .dead, .dead, .dead, .dead, .dead, .dead, .dead, .dead, .dead, .dead, .dead, .dead, .dead, .dead, .dead, .dead] [] [.box [.int .i64, .sl (.int .i64 (.bool (.int .i64 (.int .i64 (.int .i64 (.int .i64 (.bool (.int .i64 (.int .i64 (.bool (.int .i64 (.int .i64 (.int .i64 (.int .i64 (.bool (.int .i64 (.int .i64 (.nil))))))))))))))))))], .mp false false (.int .i64 (.nil)) (.bool (.nil))] [.i y1.1, .q (.int .i64 (.bool (.int .i64 (.int .i64 (.int .i64 (.int .i64 (.bool (.int .i64 (.int .i64 (.bool (.int .i64 (.int .i64 (.int .i64 (.int .i64 (.bool (.int .i64 (.int .i64 (.nil)))))))))))))))))) y1.2.1, .m (.int .i64 (.nil)) (.bool (.nil)) y2])) n x2 x3 x4 x5 m6) := by
      funext x2 x3 x4 x5 m6
      exact ih x2 x3 x4 x5 m6 k
    have h1 : net_Fit_l0_ev msg_Fit (n + 1) (encSt net_Fit_l0_t net_Fit_l0_s net_Fit_l0_h [.q (.int .i64 (.bool (.int .i64 (.int .i64 (.int .i64 (.int .i64 (.bool (.int .i64 (.int .i64 (.bool (.int .i64 (.int .i64 (.int .i64 (.int .i64 (.bool (.int .i64 (.int .i64 (.nil)))))))))))))))))) x2, .i x3, .i x4, .i x5.1, .q (.int .i64 (.bool (.int .i64 (.int .i64 (.int .i64 (.int .i64 (.bool (.int .i64 (.int .i64 (.bool (.int .i64 (.int .i64 (.int .i64 (.int .i64 (.bool (.int .i64 (.int .i64 (.nil)))))))))))))))))) x5.2.1, .m (.int .i64 (.nil)) (.bool (.nil)) m6]) k = net_Fit_l0_step msg_Fit (fun y1 y2 y3 => k .ret (encSt [.dead, .dead, .bool, .dead, .dead, .dead, .dead, .dead, .dead, .dead, .dead, .dead, .dead, .dead, .dead, .dead, .dead, .dead, .dead, .dead, .dead, .dead, .dead, .dead, .dead, .dead, .dead, .dead, .dead, .dead, .dead, .dead, .dead, .dead, .dead, .dead, .dead, .dead, .dead, .dead, .dead, .dead, .dead, .dead, .dead, .dead, .dead, .dead] [] [.box [.int .i64, .sl (.int .i64 (.bool (.int .i64 (.int .i64 (.int .i64 (.int .i64 (.bool (.int .i64 (.int .i64 (.bool (.int .i64 (.int .i64 (.int .i64 (.int .i64 (.bool (.int .i64 (.int .i64 (.nil))))))))))))))))))], .mp false false (.int .i64 (.nil)) (.bool (.nil))] [.b y1, .i y2.1, .q (.int .i64 (.bool (.int .i64 (.int .i64 (.int .i64 (.int .i64 (.bool (.int .i64 (.int .i64 (.bool (.int .i64 (.int .i64 (.int .i64 (.int .i64 (.bool (.int .i64 (.int .i64 (.nil)))))))))))))))))) y2.2.1, .m (.int .i64 (.nil)) (.bool (.nil)) y3])) (fun y1 y2 => k (.exit 0) (encSt [.dead, .ref 0 0, .dead, .dead, .dead, .dead, .dead, .dead, .dead, .dead, .dead, .dead, .dead, .dead, .dead, .dead, .dead, .dead, .dead, .dead, .dead, .dead, .dead, .dead, .dead, .dead, .dead, .dead, .dead, .dead, .dead, .dead, .dead, .dead, .dead, .dead, .dead, .dead, .dead, .dead, .dead, .dead, .dead, .dead, .dead, .dead, .dead, .dead] [] [.box [.int .i64, .sl (.int .i64 (.bool (.int .i64 (.int .i64 (.int .i64 (.int .i64 (.bool (.int .i64 (.int .i64 (.bool (.int .i64 (.int .i64 (.int .i64 (.int .i64 (.bool (.int .i64 (.int .i64 (.nil))))))))))))))))))], .mp false false (.int .i64 (.nil)) (.bool (.nil))] [.i y1.1, .q (.int .i64 (.bool (.int .i64 (.int .i64 (.int .i64 (.int .i64 (.bool (.int .i64 (.int .i64 (.bool (.int .i64 (.int .i64 (.int .i64 (.int .i64 (.bool (.int .i64 (.int .i64 (.nil)))))))))))))))))) y1.2.1, .m (.int .i64 (.nil)) (.bool (.nil)) y2])) (fun (x2 : Seq Z0) (x3 : Int) (x4 : Int) (x5 : Int × (Seq Z0) × Unit) (m6 : List ((Int × Unit) × (Bool × Unit))) => net_Fit_l0_ev msg_Fit n (encSt net_Fit_l0_t net_Fit_l0_s net_Fit_l0_h [.q (.int .i64 (.bool (.int .i64 (.int .i64 (.int .i64 (.int .i64 (.bool (.int .i64 (.int .i64 (.bool (.int .i64 (.int .i64 (.int .i64 (.int .i64 (.bool (.int .i64 (.int .i64 (.nil)))))))))))))))))) x2, .i x3, .i x4, .i x5.1, .q (.int .i64 (.bool (.int .i64 (.int .i64 (.int .i64 (.int .i64 (.bool (.int .i64 (.int .i64 (.bool (.int .i64 (.int .i64 (.int .i64 (.int .i64 (.bool (.int .i64 (.int .i64 (.nil)))))))))))))))))) x5.2.1, .m (.int .i64 (.nil)) (.bool (.nil)) m6]) k) x2 x3 x4 x5 m6 := by kernel_rfl
    have h2 := congrArg (fun r => net_Fit_l0_step msg_Fit (fun y1 y2 y3 => k .ret (encSt [.dead, .dead, .bool, .dead, .dead, .dead, .dead, .dead, .dead, .dead, .dead, .dead, .dead, .dead, .dead, .dead, .dead, .dead, .dead, .dead, .dead, .dead, .dead, .dead, .dead, .dead, .dead, .dead, .dead, .dead, .dead, .dead, .dead, .dead, .dead, .dead, .dead, .dead, .dead, .dead, .dead, .dead, .dead, .dead, .dead, .dead, .dead, .dead] [] [.box [.int .i64, .sl (.int .i64 (.bool (.int .i64 (.int .i64 (.int .i64 (.int .i64 (.bool (.int .i64 (.int .i64 (.bool (.int .i64 (.int .i64 (.int .i64 (.int .i64 (.bool (.int .i64 (.int .i64 (.nil))))))))))))))))))], .mp false false (.int .i64 (.nil)) (.bool (.nil))] [.b y1, .i y2.1, .q (.int .i64 (.bool (.int .i64 (.int .i64 (.int .i64 (.int .i64 (.bool (.int .i64 (.int .i64 (.bool (.int .i64 (.int .i64 (.int .i64 (.int .i64 (.bool (.int .i64 (.int .i64 (.nil)))))))))))))))))) y2.2.1, .m (.int .i64 (.nil)) (.bool (.nil)) y3])) (fun y1 y2 => k (.exit 0) (encSt [.dead, .ref 0 0, .dead, .dead, .dead, .dead, .dead, .dead, .dead, .dead, .dead, .dead, .dead, .dead, .dead, .dead, .dead, .dead, .dead, .dead, .dead, .dead, .dead, .dead, .dead, .dead, .dead, .dead, .dead, .dead, .dead, .dead, .dead, .dead, .dead, .dead, .dead, .dead, .dead, .dead, .dead, .dead, .dead, .dead, .dead, .dead, .dead, .dead] [] [.box [.int .i64, .sl (.int .i64 (.bool (.int .i64 (.int .i64 (.int .i64 (.int .i64 (.bool (.int .i64 (.int .i64 (.bool (.int .i64 (.int .i64 (.int .i64 (.int .i64 (.bool (.int .i64 (.int .i64 (.nil))))))))))))))))))], .mp false false (.int .i64 (.nil)) (.bool (.nil))] [.i y1.1, .q (.int .i64 (.bool (.int .i64 (.int .i64 (.int .i64 (.int .i64 (.bool (.int .i64 (.int .i64 (.bool (.int .i64 (.int .i64 (.int .i64 (.int .i64 (.bool (.int .i64 (.int .i64 (.nil)))))))))))))))))) y1.2.1, .m (.int .i64 (.nil)) (.bool (.nil)) y2])) r x2 x3 x4 x5 m6) e
    have h3 : net_Fit_l0_step msg_Fit (fun y1 y2 y3 => k .ret (encSt [.dead, .dead, .bool, .dead, .dead, .dead, .dead, .dead, .dead, .dead, .dead, .dead, .dead, .dead, .dead, .dead, .dead, .dead, .dead, .dead, .dead, .dead, .dead, .dead, .dead, .dead, .dead, .dead, .dead, .dead, .dead, .dead, .dead, .dead, .dead, .dead, .dead, .dead, .dead, .dead, .dead, .dead, .dead, .dead, .dead, .dead, .dead, .dead] [] [.box [.int .i64, .sl (.int .i64 (.bool (.int .i64 (.int .i64 (.int .i64 (.int .i64 (.bool (.int .i64 (.int .i64 (.bool (.int .i64 (.int .i64 (.int .i64 (.int .i64 (.bool (.int .i64 (.int .i64 (.nil))))))))))))))))))], .mp false false (.int .i64 (.nil)) (.bool (.nil))] [.b y1, .i y2.1, .q (.int .i64 (.bool (.int .i64 (.int .i64 (.int .i64 (.int .i64 (.bool (.int .i64 (.int .i64 (.bool (.int .i64 (.int .i64 (.int .i64 (.int .i64 (.bool (.int .i64 (.int .i64 (.nil)))))))))))))))))) y2.2.1, .m (.int .i64 (.nil)) (.bool (.nil)) y3])) (fun y1 y2 => k (.exit 0) (encSt [.dead, .ref 0 0, .dead, .dead, .dead, .dead, .dead, .dead, .dead, .dead, .dead, .dead, .dead, .dead, .dead, .dead, .dead, .dead, .dead, .dead, .dead, .dead, .dead, .dead, .dead, .dead, .dead, .dead, .dead, .dead, .dead, .dead, .dead, .dead, .dead, .dead, .dead, .dead, .dead, .dead, .dead, .dead, .dead, .dead, .dead, .dead, .dead, .dead] [] [.box [.int .i64, .sl (.int .i64 (.bool (.int .i64 (.int .i64 (.int .i64 (.int .i64 (.bool (.int .i64 (.int .i64 (.bool (.int .i64 (.int .i64 (.int .i64 (.int .i64 (.bool (.int .i64 (.int .i64 (.nil))))))))))))))))))], .mp false false (.int .i64 (.nil)) (.bool (.nil))] [.i y1.1, .q (.int .i64 (.bool (.int .i64 (.int .i64 (.int .i64 (.int .i64 (.bool (.int .i64 (.int .i64 (.bool (.int .i64 (.int .i64 (.int .i64 (.int .i64 (.bool (.int .i64 (.int .i64 (.nil)))))))))))))))))) y1.2.1, .m (.int .i64 (.nil)) (.bool (.nil)) y2])) (fun (x2 : Seq Z0) (x3 : Int) (x4 : Int) (x5 : Int × (Seq Z0) × Unit) (m6 : List ((Int × Unit) × (Bool × Unit))) => net_Fit_l0_run msg_Fit (fun y1 y2 y3 => k .ret (encSt [.dead, .dead, .bool, .dead, .dead, .dead, .dead, .dead, .dead, .dead, .dead, .dead, .dead, .dead, .dead, .dead, .dead, .dead, .dead, .dead, .dead, .dead, .dead, .dead, .dead, .dead, .dead, .dead, .dead, .dead, .dead, .dead, .dead, .dead, .dead, .dead, .dead, .dead, .dead, .dead, .dead, .dead, .dead, .dead, .dead, .dead, .dead, .dead] [] [.box [.int .i64, .sl (.int .i64 (.bool (.int .i64 (.int .i64 (.int .i64 (.int .i64 (.bool (.int .i64 (.int .i64 (.bool (.int .i64 (.int .i64 (.int .i64 (.int .i64 (.bool (.int .i64 (.int .i64 (.nil))))))))))))))))))], .mp false false (.int .i64 (.nil)) (.bool (.nil))] [.b y1, .i y2.1, .q (.int .i64 (.bool (.int .i64 (.int .i64 (.int .i64 (.int .i64 (.bool (.int .i64 (.int .i64 (.bool (.int .i64 (.int .i64 (.int .i64 (.int .i64 (.bool (.int .i64 (.int .i64 (.nil)))))))))))))))))) y2.2.1, .m (.int .i64 (.nil)) (.bool (.nil)) y3])) (fun y1 y2 => k (.exit 0) (encSt [.dead, .ref 0 0, .dead, .dead, .dead, .dead, .dead, .dead, .dead, .dead, .dead, .dead, .dead, .dead, .dead, .dead, .dead, .dead, .dead, .dead, .dead, .dead, .dead, .dead, .dead, .dead, .dead, .dead, .dead, .dead, .dead, .dead, .dead, .dead, .dead, .dead, .dead, .dead, .dead, .dead, .dead, .dead, .dead, .dead, .dead, .dead, .dead, .dead] [] [.box [.int .i64, .sl (.int .i64 (.bool (.int .i64 (.int .i64 (.int .i64 (.int .i64 (.bool (.int .i64 (.int .i64 (.bool (.int .i64 (.int .i64 (.int .i64 (.int .i64 (.bool (.int .i64 (.int .i64 (.nil))))))))))))))))))], .mp false false (.int .i64 (.nil)) (.bool (.nil))] [.i y1.1, .q (.int .i64 (.bool (.int .i64 (.int .i64 (.int .i64 (.int .i64 (.bool (.int .i64 (.int .i64 (.bool (.int .i64 (.int .i64 (.int .i64 (.int .i64 (.bool (.int .i64 (.int .i64 (.nil)))))))))))))))))) y1.2.1, .m (.int .i64 (.nil)) (.bool (.nil)) y2])) n x2 x3 x4 x5 m6) x2 x3 x4 x5 m6 = net_Fit_l0_run msg_Fit (fun y1 y2 y3 => k .ret (encSt [.dead, .dead, .bool, .dead, .dead, .dead, .dead, .dead, .dead, .dead, .dead, .dead, .dead, .dead, .dead, .dead, .dead, .dead, .dead, .dead, .dead, .dead, .dead, .dead, .dead, .dead, .dead, .dead, .dead, .dead, .dead, .dead, .dead, .dead, .dead, .dead, .dead, .dead, .dead, .dead, .dead, .dead, .dead, .dead, .dead, .dead, .dead, .dead] [] [.box [.int .i64, .sl (.int .i64 (.bool (.int .i64 (.int .i64 (.int .i64 (.int .i64 (.bool (.int .i64 (.int .i64 (.bool (.int .i64 (.int .i64 (.int .i64 (.int .i64 (.bool (.int .i64 (.int .i64 (.nil))))))))))))))))))], .mp false false (.int .i64 (.nil)) (.bool (.nil))] [.b y1, .i y2.1, .q (.int .i64 (.bool (.int .i64 (.int .i64 (.int .i64 (.int .i64 (.bool (.int .i64 (.int .i64 (.bool (.int .i64 (.int .i64 (.int .i64 (.int .i64 (.bool (.int .i64 (.int .i64 (.nil)))))))))))))))))) y2.2.1, .m (.int .i64 (.nil)) (.bool (.nil)) y3])) (fun y1 y2 => k (.exit 0) (encSt [.dead, .ref 0 0, .dead, .dead, .dead, .dead, .dead, .dead, .dead, .dead, .dead, .dead, .dead, .dead, .dead, .dead, .dead, .dead, .dead, .dead, .dead, .dead, .dead, .dead, .dead, .dead, .dead, .dead, .dead, .dead, .dead, .dead, .dead, .dead, .dead, .dead, .dead, .dead, .dead, .dead, .dead, .dead, .dead, .dead, .dead, .dead, .dead, .dead] [] [.box [.int .i64, .sl (.int .i64 (.bool (.int .i64 (.int .i64 (.int .i64 (.int .i64 (.bool (.int .i64 (.int .i64 (.bool (.int .i64 (.int .i64 (.int .i64 (.int .i64 (.bool (.int .i64 (.int .i64 (.nil))))))))))))))))))], .mp false false (.int .i64 (.nil)) (.bool (.nil))] [.i y1.1, .q (.int .i64 (.bool (.int .i64 (.int .i64 (.int .i64 (.int .i64 (.bool (.int .i64 (.int .i64 (.bool (.int .i64 (.int .i64 (.int .i64 (.int .i64 (.bool (.int .i64 (.int .i64 (.nil)))))))))))))))))) y1.2.1, .m (.int .i64 (.nil)) (.bool (.nil)) y2])) (n + 1) x2 x3 x4 x5 m6 := by kernel_rfl
    exact h1.trans (h2.trans h3)

theorem net_Fit_l0_ok {α : Type} (msg_Fit : msg_Fit_T α) : (net_Fit_l0_spec msg_Fit : LoopSpec α).ok Go.Proofs.Try.prog (envOf (net_Fit_C msg_Fit) net_Fit_q net_Fit_inl 1000 net_Fit_ann false (net_Fit_loops msg_Fit) (fun _ => none)) := by
  intro ds k
  have h1 : net_Fit_l0_ev msg_Fit 1000 (encSt net_Fit_l0_t net_Fit_l0_s net_Fit_l0_h ds) k = net_Fit_l0_ev msg_Fit 1000 (encSt net_Fit_l0_t net_Fit_l0_s net_Fit_l0_h [.q (.int .i64 (.bool (.int .i64 (.int .i64 (.int .i64 (.int .i64 (.bool (.int .i64 (.int .i64 (.bool (.int .i64 (.int .i64 (.int .i64 (.int .i64 (.bool (.int .i64 (.int .i64 (.nil)))))))))))))))))) (hdQ (.int .i64 (.bool (.int .i64 (.int .i64 (.int .i64 (.int .i64 (.bool (.int .i64 (.int .i64 (.bool (.int .i64 (.int .i64 (.int .i64 (.int .i64 (.bool (.int .i64 (.int .i64 (.nil)))))))))))))))))) ds), .i (hdI ds.tail), .i (hdI ds.tail.tail), .i ((hdI ds.tail.tail.tail, hdQ (.int .i64 (.bool (.int .i64 (.int .i64 (.int .i64 (.int .i64 (.bool (.int .i64 (.int .i64 (.bool (.int .i64 (.int .i64 (.int .i64 (.int .i64 (.bool (.int .i64 (.int .i64 (.nil)))))))))))))))))) ds.tail.tail.tail.tail, ()).1), .q (.int .i64 (.bool (.int .i64 (.int .i64 (.int .i64 (.int .i64 (.bool (.int .i64 (.int .i64 (.bool (.int .i64 (.int .i64 (.int .i64 (.int .i64 (.bool (.int .i64 (.int .i64 (.nil)))))))))))))))))) ((hdI ds.tail.tail.tail, hdQ (.int .i64 (.bool (.int .i64 (.int .i64 (.int .i64 (.int .i64 (.bool (.int .i64 (.int .i64 (.bool (.int .i64 (.int .i64 (.int .i64 (.int .i64 (.bool (.int .i64 (.int .i64 (.nil)))))))))))))))))) ds.tail.tail.tail.tail, ()).2.1), .m (.int .i64 (.nil)) (.bool (.nil)) (hdM (.int .i64 (.nil)) (.bool (.nil)) ds.tail.tail.tail.tail.tail)]) k := by kernel_rfl
  have h2 := net_Fit_l0_eq msg_Fit 1000 (hdQ (.int .i64 (.bool (.int .i64 (.int .i64 (.int .i64 (.int .i64 (.bool (.int .i64 (.int .i64 (.bool (.int .i64 (.int .i64 (.int .i64 (.int .i64 (.bool (.int .i64 (.int .i64 (.nil)))))))))))))))))) ds) (hdI ds.tail) (hdI ds.tail.tail) (hdI ds.tail.tail.tail, hdQ (.int .i64 (.bool (.int .i64 (.int .i64 (.int .i64 (.int .i64 (.bool (.int .i64 (.int .i64 (.bool (.int .i64 (.int .i64 (.int .i64 (.int .i64 (.bool (.int .i64 (.int .i64 (.nil)))))))))))))))))) ds.tail.tail.tail.tail, ()) (hdM (.int .i64 (.nil)) (.bool (.nil)) ds.tail.tail.tail.tail.tail) k
  exact h1.trans h2

theorem net_Fit_ev {α : Type} (msg_Fit : msg_Fit_T α) : EvOk (α := α) Go.Proofs.Try.prog (envOf (net_Fit_C msg_Fit) net_Fit_q net_Fit_inl 1000 net_Fit_ann false (net_Fit_loops msg_Fit) (fun _ => none)) 6 (net_Fit_sp (net_Fit_g msg_Fit)) := by intro ds k; kernel_rfl

theorem net_Fit_ok {α : Type} : (net_Fit_spec : FunSpec α).ok Go.Proofs.Try.prog :=
  FunSpec.ok_of (sp := net_Fit_spec) (C := net_Fit_C msg_Fit) (q := net_Fit_q) (inl := net_Fit_inl) (N := 1000) (ann := net_Fit_ann) (fr := false) (D := 6) (l := (net_Fit_loops msg_Fit)) (hk := (fun _ => none)) (okCons msg_Fit_ok okNil) (lokCons (net_Fit_l0_ok msg_Fit) lokNil) noHooks (net_Fit_ev msg_Fit)

end
end Go.Rv.Try

set_option linter.unusedVariables false
set_option maxRecDepth 100000
set_option maxHeartbeats 4000000
namespace Go.Rv.Try
open Go Go.Rv Go.RowKit
noncomputable section

-- drayman/net.Ask

abbrev net_Ask_T (α : Type) : Type := (Int × (Seq Z0) × Unit) → Z1 → ((Int × (Seq Z0) × Unit) → Option α) → Option α

noncomputable def net_Ask_g {α : Type} (outbox_Service : outbox_Service_T α) (net_Fit : net_Fit_T α) (msg_Fit : msg_Fit_T α) (n1 : Int × (Seq Z0) × Unit) (x2 : Int × Int × Int × Bool × Int × Int × Bool × Unit) (k : (Int × (Seq Z0) × Unit) → Option α) : Option α :=
  (outbox_Service x2.2.2.2.2.1 fun r3 =>
    (net_Fit n1 fun r4 =>
      (cond (!(!r4))
        (cond (!(n1.1 == 1099511627776))
          (msg_Fit (n1.1, true, r3, x2.1, x2.2.1, x2.2.2.1, x2.2.2.2.1, x2.2.2.2.2.1, x2.2.2.2.2.2.1, x2.2.2.2.2.2.2.1, 0, 0, 0, 0, false, 0, 0, ()) fun r5 =>
            (cond (!r5)
              (k n1)
              (cond (decide ((n1.2.1.n : Int) < 64))
                (cond (((decide ((0 : Int) ≤ (n1.2.1.n : Int))) && (decide ((n1.2.1.n : Int) ≤ (n1.2.1.n : Int)))) && (decide ((n1.2.1.n : Int) = (n1.2.1.n : Int))))
                  (cond (decide ((((n1.2.1.n : Int).toNat + 1)) * 136 ≤ 140737488355328))
                    (k ((IntKind.i64.wrap (n1.1 + 1)), (⟨(n1.2.1.nl && false), ((n1.2.1.n : Int).toNat + 1), (tApp (n1.2.1.n : Int).toNat n1.2.1.g (fun _ => (n1.1, true, r3, x2.1, x2.2.1, x2.2.2.1, x2.2.2.2.1, x2.2.2.2.2.1, x2.2.2.2.2.2.1, x2.2.2.2.2.2.2.1, 0, 0, 0, 0, false, 0, 0, ())))⟩ : Seq Z0), ()))
                    none)
                  none)
                (k ((IntKind.i64.wrap (n1.1 + 1)), n1.2.1, ())))))
          (k n1))
        (k n1))))

noncomputable def net_Ask {α : Type} : net_Ask_T α := net_Ask_g outbox_Service net_Fit msg_Fit

noncomputable def net_Ask_sp {α : Type} (net_Ask : net_Ask_T α) : FunSpec α := ⟨16, [.agg [.int .i64, .sl (.int .i64 (.bool (.int .i64 (.int .i64 (.int .i64 (.int .i64 (.bool (.int .i64 (.int .i64 (.bool (.int .i64 (.int .i64 (.int .i64 (.int .i64 (.bool (.int .i64 (.int .i64 (.nil))))))))))))))))))], .agg [.int .i64, .int .i64, .int .i64, .bool, .int .i64, .int .i64, .bool]], [], fun ds k => net_Ask (hdI ds, hdQ (.int .i64 (.bool (.int .i64 (.int .i64 (.int .i64 (.int .i64 (.bool (.int .i64 (.int .i64 (.bool (.int .i64 (.int .i64 (.int .i64 (.int .i64 (.bool (.int .i64 (.int .i64 (.nil)))))))))))))))))) ds.tail, ()) (hdI ds.tail.tail, hdI ds.tail.tail.tail, hdI ds.tail.tail.tail.tail, hdB ds.tail.tail.tail.tail.tail, hdI ds.tail.tail.tail.tail.tail.tail, hdI ds.tail.tail.tail.tail.tail.tail.tail, hdB ds.tail.tail.tail.tail.tail.tail.tail.tail, ()) (fun r1 => k (enc dep (.agg [.int .i64, .sl (.int .i64 (.bool (.int .i64 (.int .i64 (.int .i64 (.int .i64 (.bool (.int .i64 (.int .i64 (.bool (.int .i64 (.int .i64 (.int .i64 (.int .i64 (.bool (.int .i64 (.int .i64 (.nil))))))))))))))))))]) [.i r1.1, .q (.int .i64 (.bool (.int .i64 (.int .i64 (.int .i64 (.int .i64 (.bool (.int .i64 (.int .i64 (.bool (.int .i64 (.int .i64 (.int .i64 (.int .i64 (.bool (.int .i64 (.int .i64 (.nil)))))))))))))))))) r1.2.1]).1 [])⟩

noncomputable def net_Ask_spec {α : Type} : FunSpec α := net_Ask_sp net_Ask

noncomputable def net_Ask_C {α : Type} (outbox_Service : outbox_Service_T α) (net_Fit : net_Fit_T α) (msg_Fit : msg_Fit_T α) : List (FunSpec α) := [outbox_Service_sp outbox_Service, net_Fit_sp net_Fit, msg_Fit_sp msg_Fit]

noncomputable def net_Ask_q : FuncId → Bool := fun f => Nat.beq f 20 || Nat.beq f 49 || Nat.beq f 81

noncomputable def net_Ask_inl : FuncId → Bool := fun f => Nat.beq f 79 || Nat.beq f 80

noncomputable def net_Ask_ann : FuncId → AnnT := fun f p => if f = 80 then (if p = [false, true] then ⟨[], [5], [], [], 2, [], []⟩ else ⟨[], [], [], [], 0, [], []⟩) else if f = 79 then (if p = [false, true, true, false, true, true, true, true] then ⟨[1, 4], [3], [], [], 2, [], []⟩ else ⟨[], [], [], [], 0, [], []⟩) else ⟨[], [], [], [], 0, [], []⟩

noncomputable def net_Ask_loops {α : Type} (outbox_Service : outbox_Service_T α) (net_Fit : net_Fit_T α) (msg_Fit : msg_Fit_T α) : List (LoopSpec α) := []

theorem net_Ask_ev {α : Type} (outbox_Service : outbox_Service_T α) (net_Fit : net_Fit_T α) (msg_Fit : msg_Fit_T α) : EvOk (α := α) Go.Proofs.Try.prog (envOf (net_Ask_C outbox_Service net_Fit msg_Fit) net_Ask_q net_Ask_inl 1000 net_Ask_ann true (net_Ask_loops outbox_Service net_Fit msg_Fit) (fun _ => none)) 6 (net_Ask_sp (net_Ask_g outbox_Service net_Fit msg_Fit)) := by intro ds k; kernel_rfl

theorem net_Ask_ok {α : Type} : (net_Ask_spec : FunSpec α).ok Go.Proofs.Try.prog :=
  FunSpec.ok_of (sp := net_Ask_spec) (C := net_Ask_C outbox_Service net_Fit msg_Fit) (q := net_Ask_q) (inl := net_Ask_inl) (N := 1000) (ann := net_Ask_ann) (fr := true) (D := 6) (l := (net_Ask_loops outbox_Service net_Fit msg_Fit)) (hk := (fun _ => none)) (okCons outbox_Service_ok (okCons net_Fit_ok (okCons msg_Fit_ok okNil))) lokNil noHooks (net_Ask_ev outbox_Service net_Fit msg_Fit)

end
end Go.Rv.Try

set_option linter.unusedVariables false
set_option maxRecDepth 100000
set_option maxHeartbeats 4000000
namespace Go.Rv.Try
open Go Go.Rv Go.RowKit
noncomputable section

-- drayman/net.Look

abbrev net_Look_T (α : Type) : Type := (Int × (Seq Z0) × Unit) → Int → (Z0 → Bool → Option α) → Option α

noncomputable def net_Look {α : Type} (n1 : Int × (Seq Z0) × Unit) (x2 : Int) (k : Z0 → Bool → Option α) : Option α :=
  (cond (!(decide (x2 < 0)))
    (cond (decide (x2 ≥ (n1.2.1.n : Int)))
      (k (0, false, 0, 0, 0, 0, false, 0, 0, false, 0, 0, 0, 0, false, 0, 0, ()) false)
      (cond ((decide ((0 : Int) ≤ x2)) && (decide (x2 < (n1.2.1.n : Int))))
        (k (n1.2.1.g x2.toNat) true)
        none))
    (k (0, false, 0, 0, 0, 0, false, 0, 0, false, 0, 0, 0, 0, false, 0, 0, ()) false))

noncomputable def net_Look_sp {α : Type} (net_Look : net_Look_T α) : FunSpec α := ⟨24, [.agg [.int .i64, .sl (.int .i64 (.bool (.int .i64 (.int .i64 (.int .i64 (.int .i64 (.bool (.int .i64 (.int .i64 (.bool (.int .i64 (.int .i64 (.int .i64 (.int .i64 (.bool (.int .i64 (.int .i64 (.nil))))))))))))))))))], .int .i64], [], fun ds k => net_Look (hdI ds, hdQ (.int .i64 (.bool (.int .i64 (.int .i64 (.int .i64 (.int .i64 (.bool (.int .i64 (.int .i64 (.bool (.int .i64 (.int .i64 (.int .i64 (.int .i64 (.bool (.int .i64 (.int .i64 (.nil)))))))))))))))))) ds.tail, ()) (hdI ds.tail.tail) (fun r1 r2 => k (enc dep (.tup [.agg [.int .i64, .bool, .int .i64, .int .i64, .int .i64, .int .i64, .bool, .int .i64, .int .i64, .bool, .int .i64, .int .i64, .int .i64, .int .i64, .bool, .int .i64, .int .i64], .bool]) [.i r1.1, .b r1.2.1, .i r1.2.2.1, .i r1.2.2.2.1, .i r1.2.2.2.2.1, .i r1.2.2.2.2.2.1, .b r1.2.2.2.2.2.2.1, .i r1.2.2.2.2.2.2.2.1, .i r1.2.2.2.2.2.2.2.2.1, .b r1.2.2.2.2.2.2.2.2.2.1, .i r1.2.2.2.2.2.2.2.2.2.2.1, .i r1.2.2.2.2.2.2.2.2.2.2.2.1, .i r1.2.2.2.2.2.2.2.2.2.2.2.2.1, .i r1.2.2.2.2.2.2.2.2.2.2.2.2.2.1, .b r1.2.2.2.2.2.2.2.2.2.2.2.2.2.2.1, .i r1.2.2.2.2.2.2.2.2.2.2.2.2.2.2.2.1, .i r1.2.2.2.2.2.2.2.2.2.2.2.2.2.2.2.2.1, .b r2]).1 [])⟩

noncomputable def net_Look_spec {α : Type} : FunSpec α := net_Look_sp net_Look

noncomputable def net_Look_C {α : Type} : List (FunSpec α) := []

noncomputable def net_Look_q : FuncId → Bool := fun f => false

noncomputable def net_Look_inl : FuncId → Bool := fun f => false

noncomputable def net_Look_ann : FuncId → AnnT := fun f p => ⟨[], [], [], [], 0, [], []⟩

noncomputable def net_Look_loops {α : Type} : List (LoopSpec α) := []

theorem net_Look_ev {α : Type} : EvOk (α := α) Go.Proofs.Try.prog (envOf (net_Look_C) net_Look_q net_Look_inl 1000 net_Look_ann false (net_Look_loops) (fun _ => none)) 6 (net_Look_sp (net_Look)) := by intro ds k; kernel_rfl

theorem net_Look_ok {α : Type} : (net_Look_spec : FunSpec α).ok Go.Proofs.Try.prog :=
  FunSpec.ok_of (sp := net_Look_spec) (C := net_Look_C) (q := net_Look_q) (inl := net_Look_inl) (N := 1000) (ann := net_Look_ann) (fr := false) (D := 6) (l := (net_Look_loops)) (hk := (fun _ => none)) okNil lokNil noHooks (net_Look_ev)

end
end Go.Rv.Try

set_option linter.unusedVariables false
set_option maxRecDepth 100000
set_option maxHeartbeats 4000000
namespace Go.Rv.Try
open Go Go.Rv Go.RowKit
noncomputable section

-- drayman/net.found

abbrev net_found_T (α : Type) : Type := (Int × (Seq Z0) × Unit) → Int → (Z0 → Int → Option α) → Option α

noncomputable def net_found_g {α : Type} (net_Look : net_Look_T α) (net_Fit : net_Fit_T α) (n1 : Int × (Seq Z0) × Unit) (x2 : Int) (k : Z0 → Int → Option α) : Option α :=
  (net_Look n1 x2 fun r3 r4 =>
    (net_Fit n1 fun r5 =>
      (cond (!r5)
        (k (0, false, 0, 0, 0, 0, false, 0, 0, false, 0, 0, 0, 0, false, 0, 0, ()) 12)
        (cond (!r4)
          (k (0, false, 0, 0, 0, 0, false, 0, 0, false, 0, 0, 0, 0, false, 0, 0, ()) 2)
          (k r3 0)))))

noncomputable def net_found {α : Type} : net_found_T α := net_found_g net_Look net_Fit

noncomputable def net_found_sp {α : Type} (net_found : net_found_T α) : FunSpec α := ⟨83, [.agg [.int .i64, .sl (.int .i64 (.bool (.int .i64 (.int .i64 (.int .i64 (.int .i64 (.bool (.int .i64 (.int .i64 (.bool (.int .i64 (.int .i64 (.int .i64 (.int .i64 (.bool (.int .i64 (.int .i64 (.nil))))))))))))))))))], .int .i64], [], fun ds k => net_found (hdI ds, hdQ (.int .i64 (.bool (.int .i64 (.int .i64 (.int .i64 (.int .i64 (.bool (.int .i64 (.int .i64 (.bool (.int .i64 (.int .i64 (.int .i64 (.int .i64 (.bool (.int .i64 (.int .i64 (.nil)))))))))))))))))) ds.tail, ()) (hdI ds.tail.tail) (fun r1 r2 => k (enc dep (.tup [.agg [.int .i64, .bool, .int .i64, .int .i64, .int .i64, .int .i64, .bool, .int .i64, .int .i64, .bool, .int .i64, .int .i64, .int .i64, .int .i64, .bool, .int .i64, .int .i64], .int .i64]) [.i r1.1, .b r1.2.1, .i r1.2.2.1, .i r1.2.2.2.1, .i r1.2.2.2.2.1, .i r1.2.2.2.2.2.1, .b r1.2.2.2.2.2.2.1, .i r1.2.2.2.2.2.2.2.1, .i r1.2.2.2.2.2.2.2.2.1, .b r1.2.2.2.2.2.2.2.2.2.1, .i r1.2.2.2.2.2.2.2.2.2.2.1, .i r1.2.2.2.2.2.2.2.2.2.2.2.1, .i r1.2.2.2.2.2.2.2.2.2.2.2.2.1, .i r1.2.2.2.2.2.2.2.2.2.2.2.2.2.1, .b r1.2.2.2.2.2.2.2.2.2.2.2.2.2.2.1, .i r1.2.2.2.2.2.2.2.2.2.2.2.2.2.2.2.1, .i r1.2.2.2.2.2.2.2.2.2.2.2.2.2.2.2.2.1, .i r2]).1 [])⟩

noncomputable def net_found_spec {α : Type} : FunSpec α := net_found_sp net_found

noncomputable def net_found_C {α : Type} (net_Look : net_Look_T α) (net_Fit : net_Fit_T α) : List (FunSpec α) := [net_Look_sp net_Look, net_Fit_sp net_Fit]

noncomputable def net_found_q : FuncId → Bool := fun f => Nat.beq f 20 || Nat.beq f 24

noncomputable def net_found_inl : FuncId → Bool := fun f => false

noncomputable def net_found_ann : FuncId → AnnT := fun f p => ⟨[], [], [], [], 0, [], []⟩

noncomputable def net_found_loops {α : Type} (net_Look : net_Look_T α) (net_Fit : net_Fit_T α) : List (LoopSpec α) := []

theorem net_found_ev {α : Type} (net_Look : net_Look_T α) (net_Fit : net_Fit_T α) : EvOk (α := α) Go.Proofs.Try.prog (envOf (net_found_C net_Look net_Fit) net_found_q net_found_inl 1000 net_found_ann false (net_found_loops net_Look net_Fit) (fun _ => none)) 6 (net_found_sp (net_found_g net_Look net_Fit)) := by intro ds k; kernel_rfl

theorem net_found_ok {α : Type} : (net_found_spec : FunSpec α).ok Go.Proofs.Try.prog :=
  FunSpec.ok_of (sp := net_found_spec) (C := net_found_C net_Look net_Fit) (q := net_found_q) (inl := net_found_inl) (N := 1000) (ann := net_found_ann) (fr := false) (D := 6) (l := (net_found_loops net_Look net_Fit)) (hk := (fun _ => none)) (okCons net_Look_ok (okCons net_Fit_ok okNil)) lokNil noHooks (net_found_ev net_Look net_Fit)

end
end Go.Rv.Try
