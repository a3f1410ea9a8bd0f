/- What the functions of the program compute, each with the proof that its code computes it. Written by a program (rvp2.py). -/
import Derived.Test.YtkcdjgmialniiaaProg
import Derived.Test.YtkcdjgmialniiaaRvP
import Derived.Test.YtkcdjgmialniiaaE2

set_option linter.unusedVariables false
set_option maxRecDepth 100000
set_option maxHeartbeats 4000000
namespace Go.Rv.Try
open Go Go.Rv Go.RowKit
noncomputable section

-- drayman/draymanlaw34.of

abbrev draymanlaw34_of_T (α : Type) : Type := (Int × (Seq Z0) × Unit) → ((Int × (Seq Z0) × Unit) → Option α) → Option α

noncomputable def draymanlaw34_of {α : Type} (n1 : Int × (Seq Z0) × Unit) (k : (Int × (Seq Z0) × Unit) → Option α) : Option α :=
  (k n1)

noncomputable def draymanlaw34_of_sp {α : Type} (draymanlaw34_of : draymanlaw34_of_T α) : FunSpec α := ⟨21, [.agg [.int .i64, .sl (.int .i64 (.bool (.int .i64 (.int .i64 (.int .i64 (.int .i64 (.bool (.int .i64 (.int .i64 (.bool (.int .i64 (.int .i64 (.int .i64 (.int .i64 (.bool (.int .i64 (.int .i64 (.nil))))))))))))))))))]], [], fun ds k => draymanlaw34_of (hdI ds, hdQ (.int .i64 (.bool (.int .i64 (.int .i64 (.int .i64 (.int .i64 (.bool (.int .i64 (.int .i64 (.bool (.int .i64 (.int .i64 (.int .i64 (.int .i64 (.bool (.int .i64 (.int .i64 (.nil)))))))))))))))))) ds.tail, ()) (fun r1 => k (enc dep (.agg [.int .i64, .sl (.int .i64 (.bool (.int .i64 (.int .i64 (.int .i64 (.int .i64 (.bool (.int .i64 (.int .i64 (.bool (.int .i64 (.int .i64 (.int .i64 (.int .i64 (.bool (.int .i64 (.int .i64 (.nil))))))))))))))))))]) [.i r1.1, .q (.int .i64 (.bool (.int .i64 (.int .i64 (.int .i64 (.int .i64 (.bool (.int .i64 (.int .i64 (.bool (.int .i64 (.int .i64 (.int .i64 (.int .i64 (.bool (.int .i64 (.int .i64 (.nil)))))))))))))))))) r1.2.1]).1 [])⟩

noncomputable def draymanlaw34_of_spec {α : Type} : FunSpec α := draymanlaw34_of_sp draymanlaw34_of

noncomputable def draymanlaw34_of_C {α : Type} : List (FunSpec α) := []

noncomputable def draymanlaw34_of_q : FuncId → Bool := fun f => false

noncomputable def draymanlaw34_of_inl : FuncId → Bool := fun f => false

noncomputable def draymanlaw34_of_ann : FuncId → AnnT := fun f p => ⟨[], [], [], [], 0, [], []⟩

noncomputable def draymanlaw34_of_loops {α : Type} : List (LoopSpec α) := []

theorem draymanlaw34_of_ev {α : Type} : EvOk (α := α) Go.Proofs.Try.prog (envOf (draymanlaw34_of_C) draymanlaw34_of_q draymanlaw34_of_inl 1000 draymanlaw34_of_ann false (draymanlaw34_of_loops) (fun _ => none)) 6 (draymanlaw34_of_sp (draymanlaw34_of)) := by intro ds k; kernel_rfl

theorem draymanlaw34_of_ok {α : Type} : (draymanlaw34_of_spec : FunSpec α).ok Go.Proofs.Try.prog :=
  FunSpec.ok_of (sp := draymanlaw34_of_spec) (C := draymanlaw34_of_C) (q := draymanlaw34_of_q) (inl := draymanlaw34_of_inl) (N := 1000) (ann := draymanlaw34_of_ann) (fr := false) (D := 6) (l := (draymanlaw34_of_loops)) (hk := (fun _ => none)) okNil lokNil noHooks (draymanlaw34_of_ev)

end
end Go.Rv.Try

set_option linter.unusedVariables false
set_option maxRecDepth 100000
set_option maxHeartbeats 4000000
namespace Go.Rv.Try
open Go Go.Rv Go.RowKit
noncomputable section

-- drayman/draymanref17.Service

abbrev draymanref17_Service_T (α : Type) : Type := Int → (Int → Option α) → Option α

noncomputable def draymanref17_Service {α : Type} (op1 : Int) (k : Int → Option α) : Option α :=
  (cond (op1 == 2)
    (cond (op1 == 2)
      (k 1)
      (cond (op1 == 4)
        (k 2)
        (k 0)))
    (cond (op1 == 6)
      (k 1)
      (cond (op1 == 4)
        (k 2)
        (k 0))))

noncomputable def draymanref17_Service_sp {α : Type} (draymanref17_Service : draymanref17_Service_T α) : FunSpec α := ⟨87, [.int .i64], [], fun ds k => draymanref17_Service (hdI ds) (fun r1 => k (enc dep (.int .i64) [.i r1]).1 [])⟩

noncomputable def draymanref17_Service_spec {α : Type} : FunSpec α := draymanref17_Service_sp draymanref17_Service

noncomputable def draymanref17_Service_C {α : Type} : List (FunSpec α) := []

noncomputable def draymanref17_Service_q : FuncId → Bool := fun f => false

noncomputable def draymanref17_Service_inl : FuncId → Bool := fun f => false

noncomputable def draymanref17_Service_ann : FuncId → AnnT := fun f p => ⟨[], [], [], [], 0, [], []⟩

noncomputable def draymanref17_Service_loops {α : Type} : List (LoopSpec α) := []

theorem draymanref17_Service_ev {α : Type} : EvOk (α := α) Go.Proofs.Try.prog (envOf (draymanref17_Service_C) draymanref17_Service_q draymanref17_Service_inl 1000 draymanref17_Service_ann false (draymanref17_Service_loops) (fun _ => none)) 6 (draymanref17_Service_sp (draymanref17_Service)) := by intro ds k; kernel_rfl

theorem draymanref17_Service_ok {α : Type} : (draymanref17_Service_spec : FunSpec α).ok Go.Proofs.Try.prog :=
  FunSpec.ok_of (sp := draymanref17_Service_spec) (C := draymanref17_Service_C) (q := draymanref17_Service_q) (inl := draymanref17_Service_inl) (N := 1000) (ann := draymanref17_Service_ann) (fr := false) (D := 6) (l := (draymanref17_Service_loops)) (hk := (fun _ => none)) okNil lokNil noHooks (draymanref17_Service_ev)

end
end Go.Rv.Try

set_option linter.unusedVariables false
set_option maxRecDepth 100000
set_option maxHeartbeats 4000000
namespace Go.Rv.Try
open Go Go.Rv Go.RowKit
noncomputable section

-- drayman/draymanref01.Fit

abbrev draymanref01_Fit_T (α : Type) : Type := Int → (Bool → Option α) → Option α

noncomputable def draymanref01_Fit {α : Type} (n1 : Int) (k : Bool → Option α) : Option α :=
  (cond (decide (n1 ≥ 0))
    (k (decide (n1 ≤ 1099511627776)))
    (k false))

noncomputable def draymanref01_Fit_sp {α : Type} (draymanref01_Fit : draymanref01_Fit_T α) : FunSpec α := ⟨97, [.int .i64], [], fun ds k => draymanref01_Fit (hdI ds) (fun r1 => k (enc dep (.bool) [.b r1]).1 [])⟩

noncomputable def draymanref01_Fit_spec {α : Type} : FunSpec α := draymanref01_Fit_sp draymanref01_Fit

noncomputable def draymanref01_Fit_C {α : Type} : List (FunSpec α) := []

noncomputable def draymanref01_Fit_q : FuncId → Bool := fun f => false

noncomputable def draymanref01_Fit_inl : FuncId → Bool := fun f => false

noncomputable def draymanref01_Fit_ann : FuncId → AnnT := fun f p => ⟨[], [], [], [], 0, [], []⟩

noncomputable def draymanref01_Fit_loops {α : Type} : List (LoopSpec α) := []

theorem draymanref01_Fit_ev {α : Type} : EvOk (α := α) Go.Proofs.Try.prog (envOf (draymanref01_Fit_C) draymanref01_Fit_q draymanref01_Fit_inl 1000 draymanref01_Fit_ann false (draymanref01_Fit_loops) (fun _ => none)) 6 (draymanref01_Fit_sp (draymanref01_Fit)) := by intro ds k; kernel_rfl

theorem draymanref01_Fit_ok {α : Type} : (draymanref01_Fit_spec : FunSpec α).ok Go.Proofs.Try.prog :=
  FunSpec.ok_of (sp := draymanref01_Fit_spec) (C := draymanref01_Fit_C) (q := draymanref01_Fit_q) (inl := draymanref01_Fit_inl) (N := 1000) (ann := draymanref01_Fit_ann) (fr := false) (D := 6) (l := (draymanref01_Fit_loops)) (hk := (fun _ => none)) okNil lokNil noHooks (draymanref01_Fit_ev)

end
end Go.Rv.Try

set_option linter.unusedVariables false
set_option maxRecDepth 100000
set_option maxHeartbeats 4000000
namespace Go.Rv.Try
open Go Go.Rv Go.RowKit
noncomputable section

-- drayman/draymanref17.One

abbrev draymanref17_One_T (α : Type) : Type := Z1 → (Bool → Option α) → Option α

noncomputable def draymanref17_One_g {α : Type} (draymanref17_Service : draymanref17_Service_T α) (draymanref01_Fit : draymanref01_Fit_T α) (x1 : Int × Int × Int × Bool × Int × Int × Bool × Unit) (k : Bool → Option α) : Option α :=
  (cond (decide (x1.1 ≥ 1))
    (cond (decide (x1.1 ≤ 1099511627776))
      (cond (decide (x1.2.1 ≥ 1))
        (cond (decide (x1.2.1 ≤ 1099511627776))
          (cond (decide (x1.2.2.1 ≥ 0))
            (cond (decide (x1.2.2.1 < 6))
              (draymanref17_Service x1.2.2.2.2.1 fun r2 =>
                (cond (r2 != 0)
                  (draymanref01_Fit x1.2.2.2.2.2.1 fun r3 =>
                    (k r3))
                  (k false)))
              (k false))
            (k false))
          (k false))
        (k false))
      (k false))
    (k false))

noncomputable def draymanref17_One {α : Type} : draymanref17_One_T α := draymanref17_One_g draymanref17_Service draymanref01_Fit

noncomputable def draymanref17_One_sp {α : Type} (draymanref17_One : draymanref17_One_T α) : FunSpec α := ⟨104, [.agg [.int .i64, .int .i64, .int .i64, .bool, .int .i64, .int .i64, .bool]], [], fun ds k => draymanref17_One (hdI ds, hdI ds.tail, hdI ds.tail.tail, hdB ds.tail.tail.tail, hdI ds.tail.tail.tail.tail, hdI ds.tail.tail.tail.tail.tail, hdB ds.tail.tail.tail.tail.tail.tail, ()) (fun r1 => k (enc dep (.bool) [.b r1]).1 [])⟩

noncomputable def draymanref17_One_spec {α : Type} : FunSpec α := draymanref17_One_sp draymanref17_One

noncomputable def draymanref17_One_C {α : Type} (draymanref17_Service : draymanref17_Service_T α) (draymanref01_Fit : draymanref01_Fit_T α) : List (FunSpec α) := [draymanref17_Service_sp draymanref17_Service, draymanref01_Fit_sp draymanref01_Fit]

noncomputable def draymanref17_One_q : FuncId → Bool := fun f => Nat.beq f 87 || Nat.beq f 97

noncomputable def draymanref17_One_inl : FuncId → Bool := fun f => false

noncomputable def draymanref17_One_ann : FuncId → AnnT := fun f p => ⟨[], [], [], [], 0, [], []⟩

noncomputable def draymanref17_One_loops {α : Type} (draymanref17_Service : draymanref17_Service_T α) (draymanref01_Fit : draymanref01_Fit_T α) : List (LoopSpec α) := []

theorem draymanref17_One_ev {α : Type} (draymanref17_Service : draymanref17_Service_T α) (draymanref01_Fit : draymanref01_Fit_T α) : EvOk (α := α) Go.Proofs.Try.prog (envOf (draymanref17_One_C draymanref17_Service draymanref01_Fit) draymanref17_One_q draymanref17_One_inl 1000 draymanref17_One_ann false (draymanref17_One_loops draymanref17_Service draymanref01_Fit) (fun _ => none)) 6 (draymanref17_One_sp (draymanref17_One_g draymanref17_Service draymanref01_Fit)) := by intro ds k; kernel_rfl

theorem draymanref17_One_ok {α : Type} : (draymanref17_One_spec : FunSpec α).ok Go.Proofs.Try.prog :=
  FunSpec.ok_of (sp := draymanref17_One_spec) (C := draymanref17_One_C draymanref17_Service draymanref01_Fit) (q := draymanref17_One_q) (inl := draymanref17_One_inl) (N := 1000) (ann := draymanref17_One_ann) (fr := false) (D := 6) (l := (draymanref17_One_loops draymanref17_Service draymanref01_Fit)) (hk := (fun _ => none)) (okCons draymanref17_Service_ok (okCons draymanref01_Fit_ok okNil)) lokNil noHooks (draymanref17_One_ev draymanref17_Service draymanref01_Fit)

end
end Go.Rv.Try

set_option linter.unusedVariables false
set_option maxRecDepth 100000
set_option maxHeartbeats 4000000
namespace Go.Rv.Try
open Go Go.Rv Go.RowKit
noncomputable section

-- drayman/draymanref23.FitReply

abbrev draymanref23_FitReply_T (α : Type) : Type := (Int × Int × Int × Int × Bool × Int × Int × Unit) → (Bool → Option α) → Option α

noncomputable def draymanref23_FitReply {α : Type} (r1 : Int × Int × Int × Int × Bool × Int × Int × Unit) (k : Bool → Option α) : Option α :=
  (cond (!(r1.1 == 1))
    (cond (r1.1 == 2)
      (cond (decide (r1.2.1 ≥ 1))
        (cond (decide (r1.2.1 ≤ 1099511627776))
          (cond (decide (r1.2.2.1 ≥ 1))
            (cond (decide (r1.2.2.1 ≤ 1099511627776))
              (cond (decide (r1.2.2.2.2.2.1 ≥ 1))
                (cond (decide (r1.2.2.2.2.2.1 ≤ 1099511627776))
                  (cond (decide (r1.2.2.2.1 ≥ 0))
                    (cond (decide (r1.2.2.2.1 < 6))
                      (cond (decide (r1.2.2.2.2.2.2.1 ≥ 1))
                        (k (decide (r1.2.2.2.2.2.2.1 ≤ 3)))
                        (k false))
                      (k false))
                    (k false))
                  (k false))
                (k false))
              (k false))
            (k false))
          (k false))
        (k false))
      (k false))
    (cond (decide (r1.2.1 ≥ 1))
      (cond (decide (r1.2.1 ≤ 1099511627776))
        (cond (decide (r1.2.2.1 ≥ 1))
          (cond (decide (r1.2.2.1 ≤ 1099511627776))
            (cond (decide (r1.2.2.2.2.2.1 ≥ 1))
              (cond (decide (r1.2.2.2.2.2.1 ≤ 1099511627776))
                (cond (decide (r1.2.2.2.1 ≥ 0))
                  (cond (decide (r1.2.2.2.1 < 6))
                    (cond (decide (r1.2.2.2.2.2.2.1 ≥ 1))
                      (k (decide (r1.2.2.2.2.2.2.1 ≤ 3)))
                      (k false))
                    (k false))
                  (k false))
                (k false))
              (k false))
            (k false))
          (k false))
        (k false))
      (k false)))

noncomputable def draymanref23_FitReply_sp {α : Type} (draymanref23_FitReply : draymanref23_FitReply_T α) : FunSpec α := ⟨52, [.agg [.int .i64, .int .i64, .int .i64, .int .i64, .bool, .int .i64, .int .i64]], [], fun ds k => draymanref23_FitReply (hdI ds, hdI ds.tail, hdI ds.tail.tail, hdI ds.tail.tail.tail, hdB ds.tail.tail.tail.tail, hdI ds.tail.tail.tail.tail.tail, hdI ds.tail.tail.tail.tail.tail.tail, ()) (fun r1 => k (enc dep (.bool) [.b r1]).1 [])⟩

noncomputable def draymanref23_FitReply_spec {α : Type} : FunSpec α := draymanref23_FitReply_sp draymanref23_FitReply

noncomputable def draymanref23_FitReply_C {α : Type} : List (FunSpec α) := []

noncomputable def draymanref23_FitReply_q : FuncId → Bool := fun f => false

noncomputable def draymanref23_FitReply_inl : FuncId → Bool := fun f => false

noncomputable def draymanref23_FitReply_ann : FuncId → AnnT := fun f p => ⟨[], [], [], [], 0, [], []⟩

noncomputable def draymanref23_FitReply_loops {α : Type} : List (LoopSpec α) := []

theorem draymanref23_FitReply_ev {α : Type} : EvOk (α := α) Go.Proofs.Try.prog (envOf (draymanref23_FitReply_C) draymanref23_FitReply_q draymanref23_FitReply_inl 1000 draymanref23_FitReply_ann false (draymanref23_FitReply_loops) (fun _ => none)) 6 (draymanref23_FitReply_sp (draymanref23_FitReply)) := by intro ds k; kernel_rfl

theorem draymanref23_FitReply_ok {α : Type} : (draymanref23_FitReply_spec : FunSpec α).ok Go.Proofs.Try.prog :=
  FunSpec.ok_of (sp := draymanref23_FitReply_spec) (C := draymanref23_FitReply_C) (q := draymanref23_FitReply_q) (inl := draymanref23_FitReply_inl) (N := 1000) (ann := draymanref23_FitReply_ann) (fr := false) (D := 6) (l := (draymanref23_FitReply_loops)) (hk := (fun _ => none)) okNil lokNil noHooks (draymanref23_FitReply_ev)

end
end Go.Rv.Try

set_option linter.unusedVariables false
set_option maxRecDepth 100000
set_option maxHeartbeats 4000000
namespace Go.Rv.Try
open Go Go.Rv Go.RowKit
noncomputable section

-- drayman/draymanref23.Fit

abbrev draymanref23_Fit_T (α : Type) : Type := Z0 → (Bool → Option α) → Option α

noncomputable def draymanref23_Fit_g {α : Type} (draymanref17_One : draymanref17_One_T α) (draymanref17_Service : draymanref17_Service_T α) (draymanref23_FitReply : draymanref23_FitReply_T α) (x1 : Int × Bool × Int × Int × Int × Int × Bool × Int × Int × Bool × Int × Int × Int × Int × Bool × Int × Int × Unit) (k : Bool → Option α) : Option α :=
  (cond (!(decide (x1.1 < 1)))
    (cond (decide (x1.1 > 1099511627776))
      (k false)
      (cond x1.2.1
        (draymanref17_One (x1.2.2.2.1, x1.2.2.2.2.1, x1.2.2.2.2.2.1, x1.2.2.2.2.2.2.1, x1.2.2.2.2.2.2.2.1, x1.2.2.2.2.2.2.2.2.1, x1.2.2.2.2.2.2.2.2.2.1, ()) fun r2 =>
          (cond r2
            (draymanref17_Service x1.2.2.2.2.2.2.2.1 fun r3 =>
              (cond (x1.2.2.1 == r3)
                (k ((x1.2.2.2.2.2.2.2.2.2.2.1 == 0) && ((x1.2.2.2.2.2.2.2.2.2.2.2.1 == 0) && ((x1.2.2.2.2.2.2.2.2.2.2.2.2.1 == 0) && ((x1.2.2.2.2.2.2.2.2.2.2.2.2.2.1 == 0) && ((x1.2.2.2.2.2.2.2.2.2.2.2.2.2.2.1 == false) && ((x1.2.2.2.2.2.2.2.2.2.2.2.2.2.2.2.1 == 0) && ((x1.2.2.2.2.2.2.2.2.2.2.2.2.2.2.2.2.1 == 0) && true))))))))
                (k false)))
            (k false)))
        (draymanref23_FitReply x1.2.2.2.2.2.2.2.2.2.2 fun r4 =>
          (cond r4
            (cond (x1.2.2.1 == x1.2.2.2.2.2.2.2.2.2.2.1)
              (k ((x1.2.2.2.1 == 0) && ((x1.2.2.2.2.1 == 0) && ((x1.2.2.2.2.2.1 == 0) && ((x1.2.2.2.2.2.2.1 == false) && ((x1.2.2.2.2.2.2.2.1 == 0) && ((x1.2.2.2.2.2.2.2.2.1 == 0) && ((x1.2.2.2.2.2.2.2.2.2.1 == false) && true))))))))
              (k false))
            (k false)))))
    (k false))

noncomputable def draymanref23_Fit {α : Type} : draymanref23_Fit_T α := draymanref23_Fit_g draymanref17_One draymanref17_Service draymanref23_FitReply

noncomputable def draymanref23_Fit_sp {α : Type} (draymanref23_Fit : draymanref23_Fit_T α) : FunSpec α := ⟨50, [.agg [.int .i64, .bool, .int .i64, .int .i64, .int .i64, .int .i64, .bool, .int .i64, .int .i64, .bool, .int .i64, .int .i64, .int .i64, .int .i64, .bool, .int .i64, .int .i64]], [], fun ds k => draymanref23_Fit (hdI ds, hdB ds.tail, hdI ds.tail.tail, hdI ds.tail.tail.tail, hdI ds.tail.tail.tail.tail, hdI ds.tail.tail.tail.tail.tail, hdB ds.tail.tail.tail.tail.tail.tail, hdI ds.tail.tail.tail.tail.tail.tail.tail, hdI ds.tail.tail.tail.tail.tail.tail.tail.tail, hdB ds.tail.tail.tail.tail.tail.tail.tail.tail.tail, hdI ds.tail.tail.tail.tail.tail.tail.tail.tail.tail.tail, hdI ds.tail.tail.tail.tail.tail.tail.tail.tail.tail.tail.tail, hdI ds.tail.tail.tail.tail.tail.tail.tail.tail.tail.tail.tail.tail, hdI ds.tail.tail.tail.tail.tail.tail.tail.tail.tail.tail.tail.tail.tail, hdB ds.tail.tail.tail.tail.tail.tail.tail.tail.tail.tail.tail.tail.tail.tail, hdI ds.tail.tail.tail.tail.tail.tail.tail.tail.tail.tail.tail.tail.tail.tail.tail, hdI ds.tail.tail.tail.tail.tail.tail.tail.tail.tail.tail.tail.tail.tail.tail.tail.tail, ()) (fun r1 => k (enc dep (.bool) [.b r1]).1 [])⟩

noncomputable def draymanref23_Fit_spec {α : Type} : FunSpec α := draymanref23_Fit_sp draymanref23_Fit

noncomputable def draymanref23_Fit_C {α : Type} (draymanref17_One : draymanref17_One_T α) (draymanref17_Service : draymanref17_Service_T α) (draymanref23_FitReply : draymanref23_FitReply_T α) : List (FunSpec α) := [draymanref17_One_sp draymanref17_One, draymanref17_Service_sp draymanref17_Service, draymanref23_FitReply_sp draymanref23_FitReply]

noncomputable def draymanref23_Fit_q : FuncId → Bool := fun f => Nat.beq f 52 || Nat.beq f 87 || Nat.beq f 104

noncomputable def draymanref23_Fit_inl : FuncId → Bool := fun f => false

noncomputable def draymanref23_Fit_ann : FuncId → AnnT := fun f p => if f = 50 then (if p = [false, false, true, false, true, true] then ⟨[], [], [], [], 2, [], []⟩ else ⟨[], [], [], [], 0, [], []⟩) else ⟨[], [], [], [], 0, [], []⟩

noncomputable def draymanref23_Fit_loops {α : Type} (draymanref17_One : draymanref17_One_T α) (draymanref17_Service : draymanref17_Service_T α) (draymanref23_FitReply : draymanref23_FitReply_T α) : List (LoopSpec α) := []

theorem draymanref23_Fit_ev {α : Type} (draymanref17_One : draymanref17_One_T α) (draymanref17_Service : draymanref17_Service_T α) (draymanref23_FitReply : draymanref23_FitReply_T α) : EvOk (α := α) Go.Proofs.Try.prog (envOf (draymanref23_Fit_C draymanref17_One draymanref17_Service draymanref23_FitReply) draymanref23_Fit_q draymanref23_Fit_inl 1000 draymanref23_Fit_ann false (draymanref23_Fit_loops draymanref17_One draymanref17_Service draymanref23_FitReply) (fun _ => none)) 6 (draymanref23_Fit_sp (draymanref23_Fit_g draymanref17_One draymanref17_Service draymanref23_FitReply)) := by intro ds k; kernel_rfl

theorem draymanref23_Fit_ok {α : Type} : (draymanref23_Fit_spec : FunSpec α).ok Go.Proofs.Try.prog :=
  FunSpec.ok_of (sp := draymanref23_Fit_spec) (C := draymanref23_Fit_C draymanref17_One draymanref17_Service draymanref23_FitReply) (q := draymanref23_Fit_q) (inl := draymanref23_Fit_inl) (N := 1000) (ann := draymanref23_Fit_ann) (fr := false) (D := 6) (l := (draymanref23_Fit_loops draymanref17_One draymanref17_Service draymanref23_FitReply)) (hk := (fun _ => none)) (okCons draymanref17_One_ok (okCons draymanref17_Service_ok (okCons draymanref23_FitReply_ok okNil))) lokNil noHooks (draymanref23_Fit_ev draymanref17_One draymanref17_Service draymanref23_FitReply)

end
end Go.Rv.Try

set_option linter.unusedVariables false
set_option maxRecDepth 100000
set_option maxHeartbeats 4000000
namespace Go.Rv.Try
open Go Go.Rv Go.RowKit
noncomputable section

-- drayman/draymanref34.Fit

abbrev draymanref34_Fit_T (α : Type) : Type := (Int × (Seq Z0) × Unit) → (Bool → Option α) → Option α

noncomputable def draymanref34_Fit_l0_step {α : Type} (draymanref23_Fit : draymanref23_Fit_T α) (kr : (Bool) → (Int × (Seq Z0) × Unit) → Option α) (k2 : (Int) → (Int × (Seq Z0) × Unit) → Option α) (rec : (Int) → (Int) → (Int × (Seq Z0) × Unit) → Option α) (i5 : Int) (x6 : Int) (x7 : Int × (Seq Z0) × Unit) : Option α :=
  (cond (decide (x6 < i5))
    (cond ((decide ((0 : Int) ≤ x6)) && (decide (x6 < (x7.2.1.n : Int))))
      (cond ((decide ((0 : Int) ≤ i5)) && (decide (i5 < (x7.2.1.n : Int))))
        (cond ((x7.2.1.g x6.toNat).1 == (x7.2.1.g i5.toNat).1)
          (kr false x7)
          (rec i5 (IntKind.i64.wrap (x6 + 1)) x7))
        none)
      none)
    (k2 i5 x7))

noncomputable def draymanref34_Fit_l0_run {α : Type} (draymanref23_Fit : draymanref23_Fit_T α) (kr : (Bool) → (Int × (Seq Z0) × Unit) → Option α) (k2 : (Int) → (Int × (Seq Z0) × Unit) → Option α) : Nat → (Int) → (Int) → (Int × (Seq Z0) × Unit) → Option α
  | 0, _, _, _ => none
  | n + 1, i5, x6, x7 => draymanref34_Fit_l0_step draymanref23_Fit kr k2 (fun i5 x6 x7 => draymanref34_Fit_l0_run draymanref23_Fit kr k2 n i5 x6 x7) i5 x6 x7

noncomputable def draymanref34_Fit_l1_step {α : Type} (draymanref23_Fit : draymanref23_Fit_T α) (kr : (Bool) → (Int × (Seq Z0) × Unit) → Option α) (k0 : (Int × (Seq Z0) × Unit) → Option α) (rec : (Int) → (Int × (Seq Z0) × Unit) → Option α) (i2 : Int) (x3 : Int × (Seq Z0) × Unit) : Option α :=
  (cond (decide (i2 < (x3.2.1.n : Int)))
    (cond ((decide ((0 : Int) ≤ i2)) && (decide (i2 < (x3.2.1.n : Int))))
      (draymanref23_Fit (x3.2.1.g i2.toNat) fun r4 =>
        (cond (!(!r4))
          (cond ((decide ((0 : Int) ≤ i2)) && (decide (i2 < (x3.2.1.n : Int))))
            (cond (decide ((x3.2.1.g i2.toNat).1 ≥ x3.1))
              (kr false x3)
              (draymanref34_Fit_l0_run draymanref23_Fit
                (fun x8 x9 =>
                  (kr x8 x9))
                (fun x10 x11 =>
                  (rec (IntKind.i64.wrap (x10 + 1)) x11))
                1000 i2 0 x3))
            none)
          (kr false x3)))
      none)
    (k0 x3))

noncomputable def draymanref34_Fit_l1_run {α : Type} (draymanref23_Fit : draymanref23_Fit_T α) (kr : (Bool) → (Int × (Seq Z0) × Unit) → Option α) (k0 : (Int × (Seq Z0) × Unit) → Option α) : Nat → (Int) → (Int × (Seq Z0) × Unit) → Option α
  | 0, _, _ => none
  | n + 1, i2, x3 => draymanref34_Fit_l1_step draymanref23_Fit kr k0 (fun i2 x3 => draymanref34_Fit_l1_run draymanref23_Fit kr k0 n i2 x3) i2 x3

noncomputable def draymanref34_Fit_g {α : Type} (draymanref23_Fit : draymanref23_Fit_T α) (n1 : Int × (Seq Z0) × Unit) (k : Bool → Option α) : Option α :=
  (cond (!(decide (n1.1 < 1)))
    (cond (!(decide (n1.1 > 1099511627776)))
      (cond (decide ((n1.2.1.n : Int) > 64))
        (k false)
        (draymanref34_Fit_l1_run draymanref23_Fit
          (fun x12 x13 =>
            (k x12))
          (fun x14 =>
            (k true))
          1000 0 n1))
      (k false))
    (k false))

noncomputable def draymanref34_Fit {α : Type} : draymanref34_Fit_T α := draymanref34_Fit_g draymanref23_Fit

noncomputable def draymanref34_Fit_sp {α : Type} (draymanref34_Fit : draymanref34_Fit_T α) : FunSpec α := ⟨29, [.agg [.int .i64, .sl (.int .i64 (.bool (.int .i64 (.int .i64 (.int .i64 (.int .i64 (.bool (.int .i64 (.int .i64 (.bool (.int .i64 (.int .i64 (.int .i64 (.int .i64 (.bool (.int .i64 (.int .i64 (.nil))))))))))))))))))]], [], fun ds k => draymanref34_Fit (hdI ds, hdQ (.int .i64 (.bool (.int .i64 (.int .i64 (.int .i64 (.int .i64 (.bool (.int .i64 (.int .i64 (.bool (.int .i64 (.int .i64 (.int .i64 (.int .i64 (.bool (.int .i64 (.int .i64 (.nil)))))))))))))))))) ds.tail, ()) (fun r1 => k (enc dep (.bool) [.b r1]).1 [])⟩

noncomputable def draymanref34_Fit_spec {α : Type} : FunSpec α := draymanref34_Fit_sp draymanref34_Fit

noncomputable def draymanref34_Fit_C {α : Type} (draymanref23_Fit : draymanref23_Fit_T α) : List (FunSpec α) := [draymanref23_Fit_sp draymanref23_Fit]

noncomputable def draymanref34_Fit_q : FuncId → Bool := fun f => Nat.beq f 50

noncomputable def draymanref34_Fit_inl : FuncId → Bool := fun f => false

noncomputable def draymanref34_Fit_ann : FuncId → AnnT := fun f p => if f = 29 then (if p = [true, false, true, true] then ⟨[1, 3], [], [], [2], 0, [], []⟩ else if p = [true, true, false, true, false, true, false, true, true] then ⟨[1, 3, 4], [], [1, 3], [2], 0, [], []⟩ else if p = [false, false, false, true, false, true, false, true, true] then ⟨[], [], [], [], 2, [], []⟩ else ⟨[], [], [], [], 0, [], []⟩) else ⟨[], [], [], [], 0, [], []⟩

noncomputable def draymanref34_Fit_l0_t : List Sh := [.dead, .ref 0 0, .dead, .int .i64, .int .i64, .dead, .dead, .dead, .dead, .dead, .dead, .dead, .dead, .dead, .dead, .dead, .dead, .dead, .dead, .dead, .dead, .dead, .dead, .dead, .dead, .dead, .dead, .dead, .dead, .dead, .dead, .dead, .dead, .dead, .dead, .dead, .dead, .dead, .dead, .dead, .dead, .dead, .dead, .dead, .dead, .dead, .dead, .dead, .dead, .dead, .dead, .dead, .dead, .dead, .dead, .dead, .dead, .dead, .dead, .dead, .dead, .dead]
noncomputable def draymanref34_Fit_l0_s : List (List Sh) := []
noncomputable def draymanref34_Fit_l0_h : List BSh := [.box [.int .i64, .sl (.int .i64 (.bool (.int .i64 (.int .i64 (.int .i64 (.int .i64 (.bool (.int .i64 (.int .i64 (.bool (.int .i64 (.int .i64 (.int .i64 (.int .i64 (.bool (.int .i64 (.int .i64 (.nil))))))))))))))))))]]

noncomputable def draymanref34_Fit_l0_spec {α : Type} (draymanref23_Fit : draymanref23_Fit_T α) : LoopSpec α := ⟨6, 29, [true, true, false, true, false, true, false, true, true], draymanref34_Fit_l0_t, draymanref34_Fit_l0_s, draymanref34_Fit_l0_h, fun ds k => draymanref34_Fit_l0_run draymanref23_Fit (fun y1 y2 => k .ret (encSt [.dead, .dead, .bool, .dead, .dead, .dead, .dead, .dead, .dead, .dead, .dead, .dead, .dead, .dead, .dead, .dead, .dead, .dead, .dead, .dead, .dead, .dead, .dead, .dead, .dead, .dead, .dead, .dead, .dead, .dead, .dead, .dead, .dead, .dead, .dead, .dead, .dead, .dead, .dead, .dead, .dead, .dead, .dead, .dead, .dead, .dead, .dead, .dead, .dead, .dead, .dead, .dead, .dead, .dead, .dead, .dead, .dead, .dead, .dead, .dead, .dead, .dead] [] [.box [.int .i64, .sl (.int .i64 (.bool (.int .i64 (.int .i64 (.int .i64 (.int .i64 (.bool (.int .i64 (.int .i64 (.bool (.int .i64 (.int .i64 (.int .i64 (.int .i64 (.bool (.int .i64 (.int .i64 (.nil))))))))))))))))))]] [.b y1, .i y2.1, .q (.int .i64 (.bool (.int .i64 (.int .i64 (.int .i64 (.int .i64 (.bool (.int .i64 (.int .i64 (.bool (.int .i64 (.int .i64 (.int .i64 (.int .i64 (.bool (.int .i64 (.int .i64 (.nil)))))))))))))))))) y2.2.1])) (fun y1 y2 => k (.exit 2) (encSt [.dead, .ref 0 0, .dead, .int .i64, .dead, .dead, .dead, .dead, .dead, .dead, .dead, .dead, .dead, .dead, .dead, .dead, .dead, .dead, .dead, .dead, .dead, .dead, .dead, .dead, .dead, .dead, .dead, .dead, .dead, .dead, .dead, .dead, .dead, .dead, .dead, .dead, .dead, .dead, .dead, .dead, .dead, .dead, .dead, .dead, .dead, .dead, .dead, .dead, .dead, .dead, .dead, .dead, .dead, .dead, .dead, .dead, .dead, .dead, .dead, .dead, .dead, .dead] [] [.box [.int .i64, .sl (.int .i64 (.bool (.int .i64 (.int .i64 (.int .i64 (.int .i64 (.bool (.int .i64 (.int .i64 (.bool (.int .i64 (.int .i64 (.int .i64 (.int .i64 (.bool (.int .i64 (.int .i64 (.nil))))))))))))))))))]] [.i y1, .i y2.1, .q (.int .i64 (.bool (.int .i64 (.int .i64 (.int .i64 (.int .i64 (.bool (.int .i64 (.int .i64 (.bool (.int .i64 (.int .i64 (.int .i64 (.int .i64 (.bool (.int .i64 (.int .i64 (.nil)))))))))))))))))) y2.2.1])) 1000 (hdI ds) (hdI ds.tail) (hdI ds.tail.tail, hdQ (.int .i64 (.bool (.int .i64 (.int .i64 (.int .i64 (.int .i64 (.bool (.int .i64 (.int .i64 (.bool (.int .i64 (.int .i64 (.int .i64 (.int .i64 (.bool (.int .i64 (.int .i64 (.nil)))))))))))))))))) ds.tail.tail.tail, ())⟩

noncomputable def draymanref34_Fit_l1_t : List Sh := [.dead, .ref 0 0, .dead, .int .i64, .dead, .dead, .dead, .dead, .dead, .dead, .dead, .dead, .dead, .dead, .dead, .dead, .dead, .dead, .dead, .dead, .dead, .dead, .dead, .dead, .dead, .dead, .dead, .dead, .dead, .dead, .dead, .dead, .dead, .dead, .dead, .dead, .dead, .dead, .dead, .dead, .dead, .dead, .dead, .dead, .dead, .dead, .dead, .dead, .dead, .dead, .dead, .dead, .dead, .dead, .dead, .dead, .dead, .dead, .dead, .dead, .dead, .dead]
noncomputable def draymanref34_Fit_l1_s : List (List Sh) := []
noncomputable def draymanref34_Fit_l1_h : List BSh := [.box [.int .i64, .sl (.int .i64 (.bool (.int .i64 (.int .i64 (.int .i64 (.int .i64 (.bool (.int .i64 (.int .i64 (.bool (.int .i64 (.int .i64 (.int .i64 (.int .i64 (.bool (.int .i64 (.int .i64 (.nil))))))))))))))))))]]

noncomputable def draymanref34_Fit_l1_spec {α : Type} (draymanref23_Fit : draymanref23_Fit_T α) : LoopSpec α := ⟨6, 29, [true, false, true, true], draymanref34_Fit_l1_t, draymanref34_Fit_l1_s, draymanref34_Fit_l1_h, fun ds k => draymanref34_Fit_l1_run draymanref23_Fit (fun y1 y2 => k .ret (encSt [.dead, .dead, .bool, .dead, .dead, .dead, .dead, .dead, .dead, .dead, .dead, .dead, .dead, .dead, .dead, .dead, .dead, .dead, .dead, .dead, .dead, .dead, .dead, .dead, .dead, .dead, .dead, .dead, .dead, .dead, .dead, .dead, .dead, .dead, .dead, .dead, .dead, .dead, .dead, .dead, .dead, .dead, .dead, .dead, .dead, .dead, .dead, .dead, .dead, .dead, .dead, .dead, .dead, .dead, .dead, .dead, .dead, .dead, .dead, .dead, .dead, .dead] [] [.box [.int .i64, .sl (.int .i64 (.bool (.int .i64 (.int .i64 (.int .i64 (.int .i64 (.bool (.int .i64 (.int .i64 (.bool (.int .i64 (.int .i64 (.int .i64 (.int .i64 (.bool (.int .i64 (.int .i64 (.nil))))))))))))))))))]] [.b y1, .i y2.1, .q (.int .i64 (.bool (.int .i64 (.int .i64 (.int .i64 (.int .i64 (.bool (.int .i64 (.int .i64 (.bool (.int .i64 (.int .i64 (.int .i64 (.int .i64 (.bool (.int .i64 (.int .i64 (.nil)))))))))))))))))) y2.2.1])) (fun y1 => k (.exit 0) (encSt [.dead, .dead, .dead, .dead, .dead, .dead, .dead, .dead, .dead, .dead, .dead, .dead, .dead, .dead, .dead, .dead, .dead, .dead, .dead, .dead, .dead, .dead, .dead, .dead, .dead, .dead, .dead, .dead, .dead, .dead, .dead, .dead, .dead, .dead, .dead, .dead, .dead, .dead, .dead, .dead, .dead, .dead, .dead, .dead, .dead, .dead, .dead, .dead, .dead, .dead, .dead, .dead, .dead, .dead, .dead, .dead, .dead, .dead, .dead, .dead, .dead, .dead] [] [.box [.int .i64, .sl (.int .i64 (.bool (.int .i64 (.int .i64 (.int .i64 (.int .i64 (.bool (.int .i64 (.int .i64 (.bool (.int .i64 (.int .i64 (.int .i64 (.int .i64 (.bool (.int .i64 (.int .i64 (.nil))))))))))))))))))]] [.i y1.1, .q (.int .i64 (.bool (.int .i64 (.int .i64 (.int .i64 (.int .i64 (.bool (.int .i64 (.int .i64 (.bool (.int .i64 (.int .i64 (.int .i64 (.int .i64 (.bool (.int .i64 (.int .i64 (.nil)))))))))))))))))) y1.2.1])) 1000 (hdI ds) (hdI ds.tail, hdQ (.int .i64 (.bool (.int .i64 (.int .i64 (.int .i64 (.int .i64 (.bool (.int .i64 (.int .i64 (.bool (.int .i64 (.int .i64 (.int .i64 (.int .i64 (.bool (.int .i64 (.int .i64 (.nil)))))))))))))))))) ds.tail.tail, ())⟩

noncomputable def draymanref34_Fit_loops {α : Type} (draymanref23_Fit : draymanref23_Fit_T α) : List (LoopSpec α) := [draymanref34_Fit_l0_spec draymanref23_Fit, draymanref34_Fit_l1_spec draymanref23_Fit]

noncomputable def draymanref34_Fit_l0_ev {α : Type} (draymanref23_Fit : draymanref23_Fit_T α) (n : Nat) (st : St) (k : X → St → Option α) : Option α := loopN (evCode Go.Proofs.Try.prog (callD Go.Proofs.Try.prog (envOf (draymanref34_Fit_C draymanref23_Fit) draymanref34_Fit_q draymanref34_Fit_inl 1000 draymanref34_Fit_ann false (draymanref34_Fit_loops draymanref23_Fit) (fun _ => none)) 6) (((envOf (draymanref34_Fit_C draymanref23_Fit) draymanref34_Fit_q draymanref34_Fit_inl 1000 draymanref34_Fit_ann false (draymanref34_Fit_loops draymanref23_Fit) (fun _ => none)) : Env α).L 6 29) 1000 (draymanref34_Fit_ann 29) (false :: [true, true, false, true, false, true, false, true, true]) (loopC Go.Proofs.Try.prog 29 [true, true, false, true, false, true, false, true, true])) ((draymanref34_Fit_ann 29 [true, true, false, true, false, true, false, true, true]).head 1) ((draymanref34_Fit_ann 29 [true, true, false, true, false, true, false, true, true]).leave 1) n st k

theorem draymanref34_Fit_l0_eq {α : Type} (draymanref23_Fit : draymanref23_Fit_T α) : ∀ (n : Nat) (i5 : Int) (x6 : Int) (x7 : Int × (Seq Z0) × Unit) (k : X → St → Option α), draymanref34_Fit_l0_ev draymanref23_Fit n (encSt draymanref34_Fit_l0_t draymanref34_Fit_l0_s draymanref34_Fit_l0_h [.i i5, .i x6, .i x7.1, .q (.int .i64 (.bool (.int .i64 (.int .i64 (.int .i64 (.int .i64 (.bool (.int .i64 (.int .i64 (.bool (.int .i64 (.int .i64 (.int .i64 (.int .i64 (.bool (.int .i64 (.int .i64 (.nil)))))))))))))))))) x7.2.1]) k = draymanref34_Fit_l0_run draymanref23_Fit (fun y1 y2 => k .ret (encSt [.dead, .dead, .bool, .dead, .dead, .dead, .dead, .dead, .dead, .dead, .dead, .dead, .dead, .dead, .dead, .dead, .dead, .dead, .dead, .dead, .dead, .dead, .dead, .dead, .dead, .dead, .dead, .dead, .dead, .dead, .dead, .dead, .dead, .dead, .dead, .dead, .dead, .dead, .dead, .dead, .dead, .dead, .dead, .dead, .dead, .dead, .dead, .dead, .dead, .dead, .dead, .dead, .dead, .dead, .dead, .dead, .dead, .dead, .dead, .dead, .dead, .dead] [] [.box [.int .i64, .sl (.int .i64 (.bool (.int .i64 (.int .i64 (.int .i64 (.int .i64 (.bool (.int .i64 (.int .i64 (.bool (.int .i64 (.int .i64 (.int .i64 (.int .i64 (.bool (.int .i64 (.int .i64 (.nil))))))))))))))))))]] [.b y1, .i y2.1, .q (.int .i64 (.bool (.int .i64 (.int .i64 (.int .i64 (.int .i64 (.bool (.int .i64 (.int .i64 (.bool (.int .i64 (.int .i64 (.int .i64 (.int .i64 (.bool (.int .i64 (.int .i64 (.nil)))))))))))))))))) y2.2.1])) (fun y1 y2 => k (.exit 2) (encSt [.dead, .ref 0 0, .dead, .int .i64, .dead, .dead, .dead, .dead, .dead, .dead, .dead, .dead, .dead, .dead, .dead, .dead, .dead, .dead, .dead, .dead, .dead, .dead, .dead, .dead, .dead, .dead, .dead, .dead, .dead, .dead, .dead, .dead, .dead, .dead, .dead, .dead, .dead, .dead, .dead, .dead, .dead, .dead, .dead, .dead, .dead, .dead, .dead, .dead, .dead, .dead, .dead, .dead, .dead, .dead, .dead, .dead, .dead, .dead, .dead, .dead, .dead, .dead] [] [.box [.int .i64, .sl (.int .i64 (.bool (.int .i64 (.int .i64 (.int .i64 (.int .i64 (.bool (.int .i64 (.int .i64 (.bool (.int .i64 (.int .i64 (.int .i64 (.int .i64 (.bool (.int .i64 (.int .i64 (.nil))))))))))))))))))]] [.i y1, .i y2.1, .q (.int .i64 (.bool (.int .i64 (.int .i64 (.int .i64 (.int .i64 (.bool (.int .i64 (.int .i64 (.bool (.int .i64 (.int .i64 (.int .i64 (.int .i64 (.bool (.int .i64 (.int .i64 (.nil)))))))))))))))))) y2.2.1])) n i5 x6 x7 := by
  intro n
  induction n with
  | zero => intros; kernel_rfl
  | succ n ih =>
    intro i5 x6 x7 k
    have e : (fun (i5 : Int) (x6 : Int) (x7 : Int × (Seq Z0) × Unit) => draymanref34_Fit_l0_ev draymanref23_Fit n (encSt draymanref34_Fit_l0_t draymanref34_Fit_l0_s draymanref34_Fit_l0_h [.i i5, .i x6, .i x7.1, .q (.int .i64 (.bool (.int .i64 (.int .i64 (.int .i64 (.int .i64 (.bool (.int .i64 (.int .i64 (.bool (.int .i64 (.int .i64 (.int .i64 (.int .i64 (.bool (.int .i64 (.int .i64 (.nil)))))))))))))))))) x7.2.1]) k) = (fun (i5 : Int) (x6 : Int) (x7 : Int × (Seq Z0) × Unit) => draymanref34_Fit_l0_run draymanref23_Fit (fun y1 y2 => k .ret (encSt [.dead, .dead, .bool, .dead, .dead, .dead, .dead, .dead, .dead, .dead, .dead, .dead, .dead, .dead, .dead, .dead, .dead, .dead, .dead, .dead, .dead, .dead, .dead, .dead, .dead, .dead, .dead, .dead, .dead, .dead, .dead, .dead, .dead, .dead, .dead, .dead, .dead, .dead, .dead, .dead, .dead, .dead, .dead, .dead, .dead, .dead, .dead, .dead, .dead, .dead, .dead, .dead, .dead, .dead, .dead, .dead, .dead, .dead, .dead, .dead, .dead, .dead] [] [.box [.int .i64, .sl (.int .i64 (.bool (.int .i64 (.int .i64 (.int .i64 (.int .i64 (.bool (.int .i64 (.int .i64 (.bool (.int .i64 (.int .i64 (.int .i64 (.int .i64 (.bool (.int .i64 (.int .i64 (.nil))))))))))))))))))]] [.b y1, .i y2.1, .q (.int .i64 (.bool (.int .i64 (.int .i64 (.int .i64 (.int .i64 (.bool (.int .i64 (.int .i64 (.bool (.int .i64 (.int .i64 (.int .i64 (.int .i64 (.bool (.int .i64 (.int .i64 (.nil)))))))))))))))))) y2.2.1])) (fun y1 y2 => k (.exit 2) (encSt [.dead, .ref 0 0, .dead, .int .i64, .dead, .dead, .dead, .dead, .dead, .dead, .dead, .dead, .dead, .dead, .dead, .dead, .dead, .dead, .dead, .dead, .dead, .dead, .dead, .dead, .dead, .dead, .dead, .dead, .dead, .dead, .dead, .dead, .dead, .dead, .dead, .dead, .dead, .dead, .dead, .dead, .dead, .dead, .dead, .dead, .dead, .dead, .dead, .dead, .dead, .dead, .dead, .dead, .dead, .dead, .dead, .dead, .dead, .dead, .dead, .dead, .dead, .dead] [] [.box [.int .i64, .sl (.int .i64 (.bool (.int .i64 (.int .i64 (.int .i64 (.int .i64 (.bool (.int .i64 (.int .i64 (.bool (.int .i64 (.int .i64 (.int .i64 (.int .i64 (.bool (.int .i64 (.int .i64 (.nil))))))))))))))))))]] [.i y1, .i y2.1, .q (.int .i64 (.bool (.int .i64 (.int .i64 (.int .i64 (.int .i64 (.bool (.int .i64 (.int .i64 (.bool (.int .i64 (.int .i64 (.int .i64 (.int .i64 (.bool (.int .i64 (.int .i64 (.nil)))))))))))))))))) y2.2.1])) n i5 x6 x7) := by
      funext i5 x6 x7
      exact ih i5 x6 x7 k
    have h1 : draymanref34_Fit_l0_ev draymanref23_Fit (n + 1) (encSt draymanref34_Fit_l0_t draymanref34_Fit_l0_s draymanref34_Fit_l0_h [.i i5, .i x6, .i x7.1, .q (.int .i64 (.bool (.int .i64 (.int .i64 (.int .i64 (.int .i64 (.bool (.int .i64 (.int .i64 (.bool (.int .i64 (.int .i64 (.int .i64 (.int .i64 (.bool (.int .i64 (.int .i64 (.nil)))))))))))))))))) x7.2.1]) k = draymanref34_Fit_l0_step draymanref23_Fit (fun y1 y2 => k .ret (encSt [.dead, .dead, .bool, .dead, .dead, .dead, .dead, .dead, .dead, .dead, .dead, .dead, .dead, .dead, .dead, .dead, .dead, .dead, .dead, .dead, .dead, .dead, .dead, .dead, .dead, .dead, .dead, .dead, .dead, .dead, .dead, .dead, .dead, .dead, .dead, .dead, .dead, .dead, .dead, .dead, .dead, .dead, .dead, .dead, .dead, .dead, .dead, .dead, .dead, .dead, .dead, .dead, .dead, .dead, .dead, .dead, .dead, .dead, .dead, .dead, .dead, .dead] [] [.box [.int .i64, .sl (.int .i64 (.bool (.int .i64 (.int .i64 (.int .i64 (.int .i64 (.bool (.int .i64 (.int .i64 (.bool (.int .i64 (.int .i64 (.int .i64 (.int .i64 (.bool (.int .i64 (.int .i64 (.nil))))))))))))))))))]] [.b y1, .i y2.1, .q (.int .i64 (.bool (.int .i64 (.int .i64 (.int .i64 (.int .i64 (.bool (.int .i64 (.int .i64 (.bool (.int .i64 (.int .i64 (.int .i64 (.int .i64 (.bool (.int .i64 (.int .i64 (.nil)))))))))))))))))) y2.2.1])) (fun y1 y2 => k (.exit 2) (encSt [.dead, .ref 0 0, .dead, .int .i64, .dead, .dead, .dead, .dead, .dead, .dead, .dead, .dead, .dead, .dead, .dead, .dead, .dead, .dead, .dead, .dead, .dead, .dead, .dead, .dead, .dead, .dead, .dead, .dead, .dead, .dead, .dead, .dead, .dead, .dead, .dead, .dead, .dead, .dead, .dead, .dead, .dead, .dead, .dead, .dead, .dead, .dead, .dead, .dead, .dead, .dead, .dead, .dead, .dead, .dead, .dead, .dead, .dead, .dead, .dead, .dead, .dead, .dead] [] [.box [.int .i64, .sl (.int .i64 (.bool (.int .i64 (.int .i64 (.int .i64 (.int .i64 (.bool (.int .i64 (.int .i64 (.bool (.int .i64 (.int .i64 (.int .i64 (.int .i64 (.bool (.int .i64 (.int .i64 (.nil))))))))))))))))))]] [.i y1, .i y2.1, .q (.int .i64 (.bool (.int .i64 (.int .i64 (.int .i64 (.int .i64 (.bool (.int .i64 (.int .i64 (.bool (.int .i64 (.int .i64 (.int .i64 (.int .i64 (.bool (.int .i64 (.int .i64 (.nil)))))))))))))))))) y2.2.1])) (fun (i5 : Int) (x6 : Int) (x7 : Int × (Seq Z0) × Unit) => draymanref34_Fit_l0_ev draymanref23_Fit n (encSt draymanref34_Fit_l0_t draymanref34_Fit_l0_s draymanref34_Fit_l0_h [.i i5, .i x6, .i x7.1, .q (.int .i64 (.bool (.int .i64 (.int .i64 (.int .i64 (.int .i64 (.bool (.int .i64 (.int .i64 (.bool (.int .i64 (.int .i64 (.int .i64 (.int .i64 (.bool (.int .i64 (.int .i64 (.nil)))))))))))))))))) x7.2.1]) k) i5 x6 x7 := by kernel_rfl
    have h2 := congrArg (fun r => draymanref34_Fit_l0_step draymanref23_Fit (fun y1 y2 => k .ret (encSt [.dead, .dead, .bool, .dead, .dead, .dead, .dead, .dead, .dead, .dead, .dead, .dead, .dead, .dead, .dead, .dead, .dead, .dead, .dead, .dead, .dead, .dead, .dead, .dead, .dead, .dead, .dead, .dead, .dead, .dead, .dead, .dead, .dead, .dead, .dead, .dead, .dead, .dead, .dead, .dead, .dead, .dead, .dead, .dead, .dead, .dead, .dead, .dead, .dead, .dead, .dead, .dead, .dead, .dead, .dead, .dead, .dead, .dead, .dead, .dead, .dead, .dead] [] [.box [.int .i64, .sl (.int .i64 (.bool (.int .i64 (.int .i64 (.int .i64 (.int .i64 (.bool (.int .i64 (.int .i64 (.bool (.int .i64 (.int .i64 (.int .i64 (.int .i64 (.bool (.int .i64 (.int .i64 (.nil))))))))))))))))))]] [.b y1, .i y2.1, .q (.int .i64 (.bool (.int .i64 (.int .i64 (.int .i64 (.int .i64 (.bool (.int .i64 (.int .i64 (.bool (.int .i64 (.int .i64 (.int .i64 (.int .i64 (.bool (.int .i64 (.int .i64 (.nil)))))))))))))))))) y2.2.1])) (fun y1 y2 => k (.exit 2) (encSt [.dead, .ref 0 0, .dead, .int .i64, .dead, .dead, .dead, .dead, .dead, .dead, .dead, .dead, .dead, .dead, .dead, .dead, .dead, .dead, .dead, .dead, .dead, .dead, .dead, .dead, .dead, .dead, .dead, .dead, .dead, .dead, .dead, .dead, .dead, .dead, .dead, .dead, .dead, .dead, .dead, .dead, .dead, .dead, .dead, .dead, .dead, .dead, .dead, .dead, .dead, .dead, .dead, .dead, .dead, .dead, .dead, .dead, .dead, .dead, .dead, .dead, .dead, .dead] [] [.box [.int .i64, .sl (.int .i64 (.bool (.int .i64 (.int .i64 (.int .i64 (.int .i64 (.bool (.int .i64 (.int .i64 (.bool (.int .i64 (.int .i64 (.int .i64 (.int .i64 (.bool (.int .i64 (.int .i64 (.nil))))))))))))))))))]] [.i y1, .i y2.1, .q (.int .i64 (.bool (.int .i64 (.int .i64 (.int .i64 (.int .i64 (.bool (.int .i64 (.int .i64 (.bool (.int .i64 (.int .i64 (.int .i64 (.int .i64 (.bool (.int .i64 (.int .i64 (.nil)))))))))))))))))) y2.2.1])) r i5 x6 x7) e
    have h3 : draymanref34_Fit_l0_step draymanref23_Fit (fun y1 y2 => k .ret (encSt [.dead, .dead, .bool, .dead, .dead, .dead, .dead, .dead, .dead, .dead, .dead, .dead, .dead, .dead, .dead, .dead, .dead, .dead, .dead, .dead, .dead, .dead, .dead, .dead, .dead, .dead, .dead, .dead, .dead, .dead, .dead, .dead, .dead, .dead, .dead, .dead, .dead, .dead, .dead, .dead, .dead, .dead, .dead, .dead, .dead, .dead, .dead, .dead, .dead, .dead, .dead, .dead, .dead, .dead, .dead, .dead, .dead, .dead, .dead, .dead, .dead, .dead] [] [.box [.int .i64, .sl (.int .i64 (.bool (.int .i64 (.int .i64 (.int .i64 (.int .i64 (.bool (.int .i64 (.int .i64 (.bool (.int .i64 (.int .i64 (.int .i64 (.int .i64 (.bool (.int .i64 (.int .i64 (.nil))))))))))))))))))]] [.b y1, .i y2.1, .q (.int .i64 (.bool (.int .i64 (.int .i64 (.int .i64 (.int .i64 (.bool (.int .i64 (.int .i64 (.bool (.int .i64 (.int .i64 (.int .i64 (.int .i64 (.bool (.int .i64 (.int .i64 (.nil)))))))))))))))))) y2.2.1])) (fun y1 y2 => k (.exit 2) (encSt [.dead, .ref 0 0, .dead, .int .i64, .dead, .dead, .dead, .dead, .dead, .dead, .dead, .dead, .dead, .dead, .dead, .dead, .dead, .dead, .dead, .dead, .dead, .dead, .dead, .dead, .dead, .dead, .dead, .dead, .dead, .dead, .dead, .dead, .dead, .dead, .dead, .dead, .dead, .dead, .dead, .dead, .dead, .dead, .dead, .dead, .dead, .dead, .dead, .dead, .dead, .dead, .dead, .dead, .dead, .dead, .dead, .dead, .dead, .dead, .dead, .dead, .dead, .dead] [] [.box [.int .i64, .sl (.int .i64 (.bool (.int .i64 (.int .i64 (.int .i64 (.int .i64 (.bool (.int .i64 (.int .i64 (.bool (.int .i64 (.int .i64 (.int .i64 (.int .i64 (.bool (.int .i64 (.int .i64 (.nil))))))))))))))))))]] [.i y1, .i y2.1, .q (.int .i64 (.bool (.int .i64 (.int .i64 (.int .i64 (.int .i64 (.bool (.int .i64 (.int .i64 (.bool (.int .i64 (.int .i64 (.int .i64 (.int .i64 (.bool (.int .i64 (.int .i64 (.nil)))))))))))))))))) y2.2.1])) (fun (i5 : Int) (x6 : Int) (x7 : Int × (Seq Z0) × Unit) => draymanref34_Fit_l0_run draymanref23_Fit (fun y1 y2 => k .ret (encSt [.dead, .dead, .bool, .dead, .dead, .dead, .dead, .dead, .dead, .dead, .dead, .dead, .dead, .dead, .dead, .dead, .dead, .dead, .dead, .dead, .dead, .dead, .dead, .dead, .dead, .dead, .dead, .dead, .dead, .dead, .dead, .dead, .dead, .dead, .dead, .dead, .dead, .dead, .dead, .dead, .dead, .dead, .dead, .dead, .dead, .dead, .dead, .dead, .dead, .dead, .dead, .dead, .dead, .dead, .dead, .dead, .dead, .dead, .dead, .dead, .dead, .dead] [] [.box [.int .i64, .sl (.int .i64 (.bool (.int .i64 (.int .i64 (.int .i64 (.int .i64 (.bool (.int .i64 (.int .i64 (.bool (.int .i64 (.int .i64 (.int .i64 (.int .i64 (.bool (.int .i64 (.int .i64 (.nil))))))))))))))))))]] [.b y1, .i y2.1, .q (.int .i64 (.bool (.int .i64 (.int .i64 (.int .i64 (.int .i64 (.bool (.int .i64 (.int .i64 (.bool (.int .i64 (.int .i64 (.int .i64 (.int .i64 (.bool (.int .i64 (.int .i64 (.nil)))))))))))))))))) y2.2.1])) (fun y1 y2 => k (.exit 2) (encSt [.dead, .ref 0 0, .dead, .int .i64, .dead, .dead, .dead, .dead, .dead, .dead, .dead, .dead, .dead, .dead, .dead, .dead, .dead, .dead, .dead, .dead, .dead, .dead, .dead, .dead, .dead, .dead, .dead, .dead, .dead, .dead, .dead, .dead, .dead, .dead, .dead, .dead, .dead, .dead, .dead, .dead, .dead, .dead, .dead, .dead, .dead, .dead, .dead, .dead, .dead, .dead, .dead, .dead, .dead, .dead, .dead, .dead, .dead, .dead, .dead, .dead, .dead, .dead] [] [.box [.int .i64, .sl (.int .i64 (.bool (.int .i64 (.int .i64 (.int .i64 (.int .i64 (.bool (.int .i64 (.int .i64 (.bool (.int .i64 (.int .i64 (.int .i64 (.int .i64 (.bool (.int .i64 (.int .i64 (.nil))))))))))))))))))]] [.i y1, .i y2.1, .q (.int .i64 (.bool (.int .i64 (.int .i64 (.int .i64 (.int .i64 (.bool (.int .i64 (.int .i64 (.bool (.int .i64 (.int .i64 (.int .i64 (.int .i64 (.bool (.int .i64 (.int .i64 (.nil)))))))))))))))))) y2.2.1])) n i5 x6 x7) i5 x6 x7 = draymanref34_Fit_l0_run draymanref23_Fit (fun y1 y2 => k .ret (encSt [.dead, .dead, .bool, .dead, .dead, .dead, .dead, .dead, .dead, .dead, .dead, .dead, .dead, .dead, .dead, .dead, .dead, .dead, .dead, .dead, .dead, .dead, .dead, .dead, .dead, .dead, .dead, .dead, .dead, .dead, .dead, .dead, .dead, .dead, .dead, .dead, .dead, .dead, .dead, .dead, .dead, .dead, .dead, .dead, .dead, .dead, .dead, .dead, .dead, .dead, .dead, .dead, .dead, .dead, .dead, .dead, .dead, .dead, .dead, .dead, .dead, .dead] [] [.box [.int .i64, .sl (.int .i64 (.bool (.int .i64 (.int .i64 (.int .i64 (.int .i64 (.bool (.int .i64 (.int .i64 (.bool (.int .i64 (.int .i64 (.int .i64 (.int .i64 (.bool (.int .i64 (.int .i64 (.nil))))))))))))))))))]] [.b y1, .i y2.1, .q (.int .i64 (.bool (.int .i64 (.int .i64 (.int .i64 (.int .i64 (.bool (.int .i64 (.int .i64 (.bool (.int .i64 (.int .i64 (.int .i64 (.int .i64 (.bool (.int .i64 (.int .i64 (.nil)))))))))))))))))) y2.2.1])) (fun y1 y2 => k (.exit 2) (encSt [.dead, .ref 0 0, .dead, .int .i64, .dead, .dead, .dead, .dead, .dead, .dead, .dead, .dead, .dead, .dead, .dead, .dead, .dead, .dead, .dead, .dead, .dead, .dead, .dead, .dead, .dead, .dead, .dead, .dead, .dead, .dead, .dead, .dead, .dead, .dead, .dead, .dead, .dead, .dead, .dead, .dead, .dead, .dead, .dead, .dead, .dead, .dead, .dead, .dead, .dead, .dead, .dead, .dead, .dead, .dead, .dead, .dead, .dead, .dead, .dead, .dead, .dead, .dead] [] [.box [.int .i64, .sl (.int .i64 (.bool (.int .i64 (.int .i64 (.int .i64 (.int .i64 (.bool (.int .i64 (.int .i64 (.bool (.int .i64 (.int .i64 (.int .i64 (.int .i64 (.bool (.int .i64 (.int .i64 (.nil))))))))))))))))))]] [.i y1, .i y2.1, .q (.int .i64 (.bool (.int .i64 (.int .i64 (.int .i64 (.int .i64 (.bool (.int .i64 (.int .i64 (.bool (.int .i64 (.int .i64 (.int .i64 (.int .i64 (.bool (.int .i64 (.int .i64 (.nil)))))))))))))))))) y2.2.1])) (n + 1) i5 x6 x7 := by kernel_rfl
    exact h1.trans (h2.trans h3)

theorem draymanref34_Fit_l0_ok {α : Type} (draymanref23_Fit : draymanref23_Fit_T α) : (draymanref34_Fit_l0_spec draymanref23_Fit : LoopSpec α).ok Go.Proofs.Try.prog (envOf (draymanref34_Fit_C draymanref23_Fit) draymanref34_Fit_q draymanref34_Fit_inl 1000 draymanref34_Fit_ann false (draymanref34_Fit_loops draymanref23_Fit) (fun _ => none)) := by
  intro ds k
  have h1 : draymanref34_Fit_l0_ev draymanref23_Fit 1000 (encSt draymanref34_Fit_l0_t draymanref34_Fit_l0_s draymanref34_Fit_l0_h ds) k = draymanref34_Fit_l0_ev draymanref23_Fit 1000 (encSt draymanref34_Fit_l0_t draymanref34_Fit_l0_s draymanref34_Fit_l0_h [.i (hdI ds), .i (hdI ds.tail), .i ((hdI ds.tail.tail, hdQ (.int .i64 (.bool (.int .i64 (.int .i64 (.int .i64 (.int .i64 (.bool (.int .i64 (.int .i64 (.bool (.int .i64 (.int .i64 (.int .i64 (.int .i64 (.bool (.int .i64 (.int .i64 (.nil)))))))))))))))))) ds.tail.tail.tail, ()).1), .q (.int .i64 (.bool (.int .i64 (.int .i64 (.int .i64 (.int .i64 (.bool (.int .i64 (.int .i64 (.bool (.int .i64 (.int .i64 (.int .i64 (.int .i64 (.bool (.int .i64 (.int .i64 (.nil)))))))))))))))))) ((hdI ds.tail.tail, hdQ (.int .i64 (.bool (.int .i64 (.int .i64 (.int .i64 (.int .i64 (.bool (.int .i64 (.int .i64 (.bool (.int .i64 (.int .i64 (.int .i64 (.int .i64 (.bool (.int .i64 (.int .i64 (.nil)))))))))))))))))) ds.tail.tail.tail, ()).2.1)]) k := by kernel_rfl
  have h2 := draymanref34_Fit_l0_eq draymanref23_Fit 1000 (hdI ds) (hdI ds.tail) (hdI ds.tail.tail, hdQ (.int .i64 (.bool (.int .i64 (.int .i64 (.int .i64 (.int .i64 (.bool (.int .i64 (.int .i64 (.bool (.int .i64 (.int .i64 (.int .i64 (.int .i64 (.bool (.int .i64 (.int .i64 (.nil)))))))))))))))))) ds.tail.tail.tail, ()) k
  exact h1.trans h2

noncomputable def draymanref34_Fit_l1_ev {α : Type} (draymanref23_Fit : draymanref23_Fit_T α) (n : Nat) (st : St) (k : X → St → Option α) : Option α := loopN (evCode Go.Proofs.Try.prog (callD Go.Proofs.Try.prog (envOf (draymanref34_Fit_C draymanref23_Fit) draymanref34_Fit_q draymanref34_Fit_inl 1000 draymanref34_Fit_ann false (draymanref34_Fit_loops draymanref23_Fit) (fun _ => none)) 6) (((envOf (draymanref34_Fit_C draymanref23_Fit) draymanref34_Fit_q draymanref34_Fit_inl 1000 draymanref34_Fit_ann false (draymanref34_Fit_loops draymanref23_Fit) (fun _ => none)) : Env α).L 6 29) 1000 (draymanref34_Fit_ann 29) (false :: [true, false, true, true]) (loopC Go.Proofs.Try.prog 29 [true, false, true, true])) ((draymanref34_Fit_ann 29 [true, false, true, true]).head 1) ((draymanref34_Fit_ann 29 [true, false, true, true]).leave 1) n st k

theorem draymanref34_Fit_l1_eq {α : Type} (draymanref23_Fit : draymanref23_Fit_T α) : ∀ (n : Nat) (i2 : Int) (x3 : Int × (Seq Z0) × Unit) (k : X → St → Option α), draymanref34_Fit_l1_ev draymanref23_Fit n (encSt draymanref34_Fit_l1_t draymanref34_Fit_l1_s draymanref34_Fit_l1_h [.i i2, .i x3.1, .q (.int .i64 (.bool (.int .i64 (.int .i64 (.int .i64 (.int .i64 (.bool (.int .i64 (.int .i64 (.bool (.int .i64 (.int .i64 (.int .i64 (.int .i64 (.bool (.int .i64 (.int .i64 (.nil)))))))))))))))))) x3.2.1]) k = draymanref34_Fit_l1_run draymanref23_Fit (fun y1 y2 => k .ret (encSt [.dead, .dead, .bool, .dead, .dead, .dead, .dead, .dead, .dead, .dead, .dead, .dead, .dead, .dead, .dead, .dead, .dead, .dead, .dead, .dead, .dead, .dead, .dead, .dead, .dead, .dead, .dead, .dead, .dead, .dead, .dead, .dead, .dead, .dead, .dead, .dead, .dead, .dead, .dead, .dead, .dead, .dead, .dead, .dead, .dead, .dead, .dead, .dead, .dead, .dead, .dead, .dead, .dead, .dead, .dead, .dead, .dead, .dead, .dead, .dead, .dead, .dead] [] [.box [.int .i64, .sl (.int .i64 (.bool (.int .i64 (.int .i64 (.int .i64 (.int .i64 (.bool (.int .i64 (.int .i64 (.bool (.int .i64 (.int .i64 (.int .i64 (.int .i64 (.bool (.int .i64 (.int .i64 (.nil))))))))))))))))))]] [.b y1, .i y2.1, .q (.int .i64 (.bool (.int .i64 (.int .i64 (.int .i64 (.int .i64 (.bool (.int .i64 (.int .i64 (.bool (.int .i64 (.int .i64 (.int .i64 (.int .i64 (.bool (.int .i64 (.int .i64 (.nil)))))))))))))))))) y2.2.1])) (fun y1 => k (.exit 0) (encSt [.dead, .dead, .dead, .dead, .dead, .dead, .dead, .dead, .dead, .dead, .dead, .dead, .dead, .dead, .dead, .dead, .dead, .dead, .dead, .dead, .dead, .dead, .dead, .dead, .dead, .dead, .dead, .dead, .dead, .dead, .dead, .dead, .dead, .dead, .dead, .dead, .dead, .dead, .dead, .dead, .dead, .dead, .dead, .dead, .dead, .dead, .dead, .dead, .dead, .dead, .dead, .dead, .dead, .dead, .dead, .dead, .dead, .dead, .dead, .dead, .dead, .dead] [] [.box [.int .i64, .sl (.int .i64 (.bool (.int .i64 (.int .i64 (.int .i64 (.int .i64 (.bool (.int .i64 (.int .i64 (.bool (.int .i64 (.int .i64 (.int .i64 (.int .i64 (.bool (.int .i64 (.int .i64 (.nil))))))))))))))))))]] [.i y1.1, .q (.int .i64 (.bool (.int .i64 (.int .i64 (.int .i64 (.int .i64 (.bool (.int .i64 (.int .i64 (.bool (.int .i64 (.int .i64 (.int .i64 (.int .i64 (.bool (.int .i64 (.int .i64 (.nil)))))))))))))))))) y1.2.1])) n i2 x3 := by
  intro n
  induction n with
  | zero => intros; kernel_rfl
  | succ n ih =>
    intro i2 x3 k
    have e : (fun (i2 : Int) (x3 : Int × (Seq Z0) × Unit) => draymanref34_Fit_l1_ev draymanref23_Fit n (encSt draymanref34_Fit_l1_t draymanref34_Fit_l1_s draymanref34_Fit_l1_h [.i i2, .i x3.1, .q (.int .i64 (.bool (.int .i64 (.int .i64 (.int .i64 (.int .i64 (.bool (.int .i64 (.int .i64 (.bool (.int .i64 (.int .i64 (.int .i64 (.int .i64 (.bool (.int .i64 (.int .i64 (.nil)))))))))))))))))) x3.2.1]) k) = (fun (i2 : Int) (x3 : Int × (Seq Z0) × Unit) => draymanref34_Fit_l1_run draymanref23_Fit (fun y1 y2 => k .ret (encSt [.dead, .dead, .bool, .dead, .dead, .dead, .dead, .dead, .dead, .dead, .dead, .dead, .dead, .dead, .dead, .dead, .dead, .dead, .dead, .dead, .dead, .dead, .dead, .dead, .dead, .dead, .dead, .dead, .dead, .dead, .dead, .dead, .dead, .dead, .dead, .dead, .dead, .dead, .dead, .dead, .dead, .dead, .dead, .dead, .dead, .dead, .dead, .dead, .dead, .dead, .dead, .dead, .dead, .dead, .dead, .dead, .dead, .dead, .dead, .dead, .dead, .dead] [] [.box [.int .i64, .sl (.int .i64 (.bool (.int .i64 (.int .i64 (.int .i64 (.int .i64 (.bool (.int .i64 (.int .i64 (.bool (.int .i64 (.int .i64 (.int .i64 (.int .i64 (.bool (.int .i64 (.int .i64 (.nil))))))))))))))))))]] [.b y1, .i y2.1, .q (.int .i64 (.bool (.int .i64 (.int .i64 (.int .i64 (.int .i64 (.bool (.int .i64 (.int .i64 (.bool (.int .i64 (.int .i64 (.int .i64 (.int .i64 (.bool (.int .i64 (.int .i64 (.nil)))))))))))))))))) y2.2.1])) (fun y1 => k (.exit 0) (encSt [.dead, .dead, .dead, .dead, .dead, .dead, .dead, .dead, .dead, .dead, .dead, .dead, .dead, .dead, .dead, .dead, .dead, .dead, .dead, .dead, .dead, .dead, .dead, .dead, .dead, .dead, .dead, .dead, .dead, .dead, .dead, .dead, .dead, .dead, .dead, .dead, .dead, .dead, .dead, .dead, .dead, .dead, .dead, .dead, .dead, .dead, .dead, .dead, .dead, .dead, .dead, .dead, .dead, .dead, .dead, .dead, .dead, .dead, .dead, .dead, .dead, .dead] [] [.box [.int .i64, .sl (.int .i64 (.bool (.int .i64 (.int .i64 (.int .i64 (.int .i64 (.bool (.int .i64 (.int .i64 (.bool (.int .i64 (.int .i64 (.int .i64 (.int .i64 (.bool (.int .i64 (.int .i64 (.nil))))))))))))))))))]] [.i y1.1, .q (.int .i64 (.bool (.int .i64 (.int .i64 (.int .i64 (.int .i64 (.bool (.int .i64 (.int .i64 (.bool (.int .i64 (.int .i64 (.int .i64 (.int .i64 (.bool (.int .i64 (.int .i64 (.nil)))))))))))))))))) y1.2.1])) n i2 x3) := by
      funext i2 x3
      exact ih i2 x3 k
    have h1 : draymanref34_Fit_l1_ev draymanref23_Fit (n + 1) (encSt draymanref34_Fit_l1_t draymanref34_Fit_l1_s draymanref34_Fit_l1_h [.i i2, .i x3.1, .q (.int .i64 (.bool (.int .i64 (.int .i64 (.int .i64 (.int .i64 (.bool (.int .i64 (.int .i64 (.bool (.int .i64 (.int .i64 (.int .i64 (.int .i64 (.bool (.int .i64 (.int .i64 (.nil)))))))))))))))))) x3.2.1]) k = draymanref34_Fit_l1_step draymanref23_Fit (fun y1 y2 => k .ret (encSt [.dead, .dead, .bool, .dead, .dead, .dead, .dead, .dead, .dead, .dead, .dead, .dead, .dead, .dead, .dead, .dead, .dead, .dead, .dead, .dead, .dead, .dead, .dead, .dead, .dead, .dead, .dead, .dead, .dead, .dead, .dead, .dead, .dead, .dead, .dead, .dead, .dead, .dead, .dead, .dead, .dead, .dead, .dead, .dead, .dead, .dead, .dead, .dead, .dead, .dead, .dead, .dead, .dead, .dead, .dead, .dead, .dead, .dead, .dead, .dead, .dead, .dead] [] [.box [.int .i64, .sl (.int .i64 (.bool (.int .i64 (.int .i64 (.int .i64 (.int .i64 (.bool (.int .i64 (.int .i64 (.bool (.int .i64 (.int .i64 (.int .i64 (.int .i64 (.bool (.int .i64 (.int .i64 (.nil))))))))))))))))))]] [.b y1, .i y2.1, .q (.int .i64 (.bool (.int .i64 (.int .i64 (.int .i64 (.int .i64 (.bool (.int .i64 (.int .i64 (.bool (.int .i64 (.int .i64 (.int .i64 (.int .i64 (.bool (.int .i64 (.int .i64 (.nil)))))))))))))))))) y2.2.1])) (fun y1 => k (.exit 0) (encSt [.dead, .dead, .dead, .dead, .dead, .dead, .dead, .dead, .dead, .dead, .dead, .dead, .dead, .dead, .dead, .dead, .dead, .dead, .dead, .dead, .dead, .dead, .dead, .dead, .dead, .dead, .dead, .dead, .dead, .dead, .dead, .dead, .dead, .dead, .dead, .dead, .dead, .dead, .dead, .dead, .dead, .dead, .dead, .dead, .dead, .dead, .dead, .dead, .dead, .dead, .dead, .dead, .dead, .dead, .dead, .dead, .dead, .dead, .dead, .dead, .dead, .dead] [] [.box [.int .i64, .sl (.int .i64 (.bool (.int .i64 (.int .i64 (.int .i64 (.int .i64 (.bool (.int .i64 (.int .i64 (.bool (.int .i64 (.int .i64 (.int .i64 (.int .i64 (.bool (.int .i64 (.int .i64 (.nil))))))))))))))))))]] [.i y1.1, .q (.int .i64 (.bool (.int .i64 (.int .i64 (.int .i64 (.int .i64 (.bool (.int .i64 (.int .i64 (.bool (.int .i64 (.int .i64 (.int .i64 (.int .i64 (.bool (.int .i64 (.int .i64 (.nil)))))))))))))))))) y1.2.1])) (fun (i2 : Int) (x3 : Int × (Seq Z0) × Unit) => draymanref34_Fit_l1_ev draymanref23_Fit n (encSt draymanref34_Fit_l1_t draymanref34_Fit_l1_s draymanref34_Fit_l1_h [.i i2, .i x3.1, .q (.int .i64 (.bool (.int .i64 (.int .i64 (.int .i64 (.int .i64 (.bool (.int .i64 (.int .i64 (.bool (.int .i64 (.int .i64 (.int .i64 (.int .i64 (.bool (.int .i64 (.int .i64 (.nil)))))))))))))))))) x3.2.1]) k) i2 x3 := by kernel_rfl
    have h2 := congrArg (fun r => draymanref34_Fit_l1_step draymanref23_Fit (fun y1 y2 => k .ret (encSt [.dead, .dead, .bool, .dead, .dead, .dead, .dead, .dead, .dead, .dead, .dead, .dead, .dead, .dead, .dead, .dead, .dead, .dead, .dead, .dead, .dead, .dead, .dead, .dead, .dead, .dead, .dead, .dead, .dead, .dead, .dead, .dead, .dead, .dead, .dead, .dead, .dead, .dead, .dead, .dead, .dead, .dead, .dead, .dead, .dead, .dead, .dead, .dead, .dead, .dead, .dead, .dead, .dead, .dead, .dead, .dead, .dead, .dead, .dead, .dead, .dead, .dead] [] [.box [.int .i64, .sl (.int .i64 (.bool (.int .i64 (.int .i64 (.int .i64 (.int .i64 (.bool (.int .i64 (.int .i64 (.bool (.int .i64 (.int .i64 (.int .i64 (.int .i64 (.bool (.int .i64 (.int .i64 (.nil))))))))))))))))))]] [.b y1, .i y2.1, .q (.int .i64 (.bool (.int .i64 (.int .i64 (.int .i64 (.int .i64 (.bool (.int .i64 (.int .i64 (.bool (.int .i64 (.int .i64 (.int .i64 (.int .i64 (.bool (.int .i64 (.int .i64 (.nil)))))))))))))))))) y2.2.1])) (fun y1 => k (.exit 0) (encSt [.dead, .dead, .dead, .dead, .dead, .dead, .dead, .dead, .dead, .dead, .dead, .dead, .dead, .dead, .dead, .dead, .dead, .dead, .dead, .dead, .dead, .dead, .dead, .dead, .dead, .dead, .dead, .dead, .dead, .dead, .dead, .dead, .dead, .dead, .dead, .dead, .dead, .dead, .dead, .dead, .dead, .dead, .dead, .dead, .dead, .dead, .dead, .dead, .dead, .dead, .dead, .dead, .dead, .dead, .dead, .dead, .dead, .dead, .dead, .dead, .dead, .dead] [] [.box [.int .i64, .sl (.int .i64 (.bool (.int .i64 (.int .i64 (.int .i64 (.int .i64 (.bool (.int .i64 (.int .i64 (.bool (.int .i64 (.int .i64 (.int .i64 (.int .i64 (.bool (.int .i64 (.int .i64 (.nil))))))))))))))))))]] [.i y1.1, .q (.int .i64 (.bool (.int .i64 (.int .i64 (.int .i64 (.int .i64 (.bool (.int .i64 (.int .i64 (.bool (.int .i64 (.int .i64 (.int .i64 (.int .i64 (.bool (.int .i64 (.int .i64 (.nil)))))))))))))))))) y1.2.1])) r i2 x3) e
    have h3 : draymanref34_Fit_l1_step draymanref23_Fit (fun y1 y2 => k .ret (encSt [.dead, .dead, .bool, .dead, .dead, .dead, .dead, .dead, .dead, .dead, .dead, .dead, .dead, .dead, .dead, .dead, .dead, .dead, .dead, .dead, .dead, .dead, .dead, .dead, .dead, .dead, .dead, .dead, .dead, .dead, .dead, .dead, .dead, .dead, .dead, .dead, .dead, .dead, .dead, .dead, .dead, .dead, .dead, .dead, .dead, .dead, .dead, .dead, .dead, .dead, .dead, .dead, .dead, .dead, .dead, .dead, .dead, .dead, .dead, .dead, .dead, .dead] [] [.box [.int .i64, .sl (.int .i64 (.bool (.int .i64 (.int .i64 (.int .i64 (.int .i64 (.bool (.int .i64 (.int .i64 (.bool (.int .i64 (.int .i64 (.int .i64 (.int .i64 (.bool (.int .i64 (.int .i64 (.nil))))))))))))))))))]] [.b y1, .i y2.1, .q (.int .i64 (.bool (.int .i64 (.int .i64 (.int .i64 (.int .i64 (.bool (.int .i64 (.int .i64 (.bool (.int .i64 (.int .i64 (.int .i64 (.int .i64 (.bool (.int .i64 (.int .i64 (.nil)))))))))))))))))) y2.2.1])) (fun y1 => k (.exit 0) (encSt [.dead, .dead, .dead, .dead, .dead, .dead, .dead, .dead, .dead, .dead, .dead, .dead, .dead, .dead, .dead, .dead, .dead, .dead, .dead, .dead, .dead, .dead, .dead, .dead, .dead, .dead, .dead, .dead, .dead, .dead, .dead, .dead, .dead, .dead, .dead, .dead, .dead, .dead, .dead, .dead, .dead, .dead, .dead, .dead, .dead, .dead, .dead, .dead, .dead, .dead, .dead, .dead, .dead, .dead, .dead, .dead, .dead, .dead, .dead, .dead, .dead, .dead] [] [.box [.int .i64, .sl (.int .i64 (.bool (.int .i64 (.int .i64 (.int .i64 (.int .i64 (.bool (.int .i64 (.int .i64 (.bool (.int .i64 (.int .i64 (.int .i64 (.int .i64 (.bool (.int .i64 (.int .i64 (.nil))))))))))))))))))]] [.i y1.1, .q (.int .i64 (.bool (.int .i64 (.int .i64 (.int .i64 (.int .i64 (.bool (.int .i64 (.int .i64 (.bool (.int .i64 (.int .i64 (.int .i64 (.int .i64 (.bool (.int .i64 (.int .i64 (.nil)))))))))))))))))) y1.2.1])) (fun (i2 : Int) (x3 : Int × (Seq Z0) × Unit) => draymanref34_Fit_l1_run draymanref23_Fit (fun y1 y2 => k .ret (encSt [.dead, .dead, .bool, .dead, .dead, .dead, .dead, .dead, .dead, .dead, .dead, .dead, .dead, .dead, .dead, .dead, .dead, .dead, .dead, .dead, .dead, .dead, .dead, .dead, .dead, .dead, .dead, .dead, .dead, .dead, .dead, .dead, .dead, .dead, .dead, .dead, .dead, .dead, .dead, .dead, .dead, .dead, .dead, .dead, .dead, .dead, .dead, .dead, .dead, .dead, .dead, .dead, .dead, .dead, .dead, .dead, .dead, .dead, .dead, .dead, .dead, .dead] [] [.box [.int .i64, .sl (.int .i64 (.bool (.int .i64 (.int .i64 (.int .i64 (.int .i64 (.bool (.int .i64 (.int .i64 (.bool (.int .i64 (.int .i64 (.int .i64 (.int .i64 (.bool (.int .i64 (.int .i64 (.nil))))))))))))))))))]] [.b y1, .i y2.1, .q (.int .i64 (.bool (.int .i64 (.int .i64 (.int .i64 (.int .i64 (.bool (.int .i64 (.int .i64 (.bool (.int .i64 (.int .i64 (.int .i64 (.int .i64 (.bool (.int .i64 (.int .i64 (.nil)))))))))))))))))) y2.2.1])) (fun y1 => k (.exit 0) (encSt [.dead, .dead, .dead, .dead, .dead, .dead, .dead, .dead, .dead, .dead, .dead, .dead, .dead, .dead, .dead, .dead, .dead, .dead, .dead, .dead, .dead, .dead, .dead, .dead, .dead, .dead, .dead, .dead, .dead, .dead, .dead, .dead, .dead, .dead, .dead, .dead, .dead, .dead, .dead, .dead, .dead, .dead, .dead, .dead, .dead, .dead, .dead, .dead, .dead, .dead, .dead, .dead, .dead, .dead, .dead, .dead, .dead, .dead, .dead, .dead, .dead, .dead] [] [.box [.int .i64, .sl (.int .i64 (.bool (.int .i64 (.int .i64 (.int .i64 (.int .i64 (.bool (.int .i64 (.int .i64 (.bool (.int .i64 (.int .i64 (.int .i64 (.int .i64 (.bool (.int .i64 (.int .i64 (.nil))))))))))))))))))]] [.i y1.1, .q (.int .i64 (.bool (.int .i64 (.int .i64 (.int .i64 (.int .i64 (.bool (.int .i64 (.int .i64 (.bool (.int .i64 (.int .i64 (.int .i64 (.int .i64 (.bool (.int .i64 (.int .i64 (.nil)))))))))))))))))) y1.2.1])) n i2 x3) i2 x3 = draymanref34_Fit_l1_run draymanref23_Fit (fun y1 y2 => k .ret (encSt [.dead, .dead, .bool, .dead, .dead, .dead, .dead, .dead, .dead, .dead, .dead, .dead, .dead, .dead, .dead, .dead, .dead, .dead, .dead, .dead, .dead, .dead, .dead, .dead, .dead, .dead, .dead, .dead, .dead, .dead, .dead, .dead, .dead, .dead, .dead, .dead, .dead, .dead, .dead, .dead, .dead, .dead, .dead, .dead, .dead, .dead, .dead, .dead, .dead, .dead, .dead, .dead, .dead, .dead, .dead, .dead, .dead, .dead, .dead, .dead, .dead, .dead] [] [.box [.int .i64, .sl (.int .i64 (.bool (.int .i64 (.int .i64 (.int .i64 (.int .i64 (.bool (.int .i64 (.int .i64 (.bool (.int .i64 (.int .i64 (.int .i64 (.int .i64 (.bool (.int .i64 (.int .i64 (.nil))))))))))))))))))]] [.b y1, .i y2.1, .q (.int .i64 (.bool (.int .i64 (.int .i64 (.int .i64 (.int .i64 (.bool (.int .i64 (.int .i64 (.bool (.int .i64 (.int .i64 (.int .i64 (.int .i64 (.bool (.int .i64 (.int .i64 (.nil)))))))))))))))))) y2.2.1])) (fun y1 => k (.exit 0) (encSt [.dead, .dead, .dead, .dead, .dead, .dead, .dead, .dead, .dead, .dead, .dead, .dead, .dead, .dead, .dead, .dead, .dead, .dead, .dead, .dead, .dead, .dead, .dead, .dead, .dead, .dead, .dead, .dead, .dead, .dead, .dead, .dead, .dead, .dead, .dead, .dead, .dead, .dead, .dead, .dead, .dead, .dead, .dead, .dead, .dead, .dead, .dead, .dead, .dead, .dead, .dead, .dead, .dead, .dead, .dead, .dead, .dead, .dead, .dead, .dead, .dead, .dead] [] [.box [.int .i64, .sl (.int .i64 (.bool (.int .i64 (.int .i64 (.int .i64 (.int .i64 (.bool (.int .i64 (.int .i64 (.bool (.int .i64 (.int .i64 (.int .i64 (.int .i64 (.bool (.int .i64 (.int .i64 (.nil))))))))))))))))))]] [.i y1.1, .q (.int .i64 (.bool (.int .i64 (.int .i64 (.int .i64 (.int .i64 (.bool (.int .i64 (.int .i64 (.bool (.int .i64 (.int .i64 (.int .i64 (.int .i64 (.bool (.int .i64 (.int .i64 (.nil)))))))))))))))))) y1.2.1])) (n + 1) i2 x3 := by kernel_rfl
    exact h1.trans (h2.trans h3)

theorem draymanref34_Fit_l1_ok {α : Type} (draymanref23_Fit : draymanref23_Fit_T α) : (draymanref34_Fit_l1_spec draymanref23_Fit : LoopSpec α).ok Go.Proofs.Try.prog (envOf (draymanref34_Fit_C draymanref23_Fit) draymanref34_Fit_q draymanref34_Fit_inl 1000 draymanref34_Fit_ann false (draymanref34_Fit_loops draymanref23_Fit) (fun _ => none)) := by
  intro ds k
  have h1 : draymanref34_Fit_l1_ev draymanref23_Fit 1000 (encSt draymanref34_Fit_l1_t draymanref34_Fit_l1_s draymanref34_Fit_l1_h ds) k = draymanref34_Fit_l1_ev draymanref23_Fit 1000 (encSt draymanref34_Fit_l1_t draymanref34_Fit_l1_s draymanref34_Fit_l1_h [.i (hdI ds), .i ((hdI ds.tail, hdQ (.int .i64 (.bool (.int .i64 (.int .i64 (.int .i64 (.int .i64 (.bool (.int .i64 (.int .i64 (.bool (.int .i64 (.int .i64 (.int .i64 (.int .i64 (.bool (.int .i64 (.int .i64 (.nil)))))))))))))))))) ds.tail.tail, ()).1), .q (.int .i64 (.bool (.int .i64 (.int .i64 (.int .i64 (.int .i64 (.bool (.int .i64 (.int .i64 (.bool (.int .i64 (.int .i64 (.int .i64 (.int .i64 (.bool (.int .i64 (.int .i64 (.nil)))))))))))))))))) ((hdI ds.tail, hdQ (.int .i64 (.bool (.int .i64 (.int .i64 (.int .i64 (.int .i64 (.bool (.int .i64 (.int .i64 (.bool (.int .i64 (.int .i64 (.int .i64 (.int .i64 (.bool (.int .i64 (.int .i64 (.nil)))))))))))))))))) ds.tail.tail, ()).2.1)]) k := by kernel_rfl
  have h2 := draymanref34_Fit_l1_eq draymanref23_Fit 1000 (hdI ds) (hdI ds.tail, hdQ (.int .i64 (.bool (.int .i64 (.int .i64 (.int .i64 (.int .i64 (.bool (.int .i64 (.int .i64 (.bool (.int .i64 (.int .i64 (.int .i64 (.int .i64 (.bool (.int .i64 (.int .i64 (.nil)))))))))))))))))) ds.tail.tail, ()) k
  exact h1.trans h2

theorem draymanref34_Fit_ev {α : Type} (draymanref23_Fit : draymanref23_Fit_T α) : EvOk (α := α) Go.Proofs.Try.prog (envOf (draymanref34_Fit_C draymanref23_Fit) draymanref34_Fit_q draymanref34_Fit_inl 1000 draymanref34_Fit_ann false (draymanref34_Fit_loops draymanref23_Fit) (fun _ => none)) 6 (draymanref34_Fit_sp (draymanref34_Fit_g draymanref23_Fit)) := by intro ds k; kernel_rfl

theorem draymanref34_Fit_ok {α : Type} : (draymanref34_Fit_spec : FunSpec α).ok Go.Proofs.Try.prog :=
  FunSpec.ok_of (sp := draymanref34_Fit_spec) (C := draymanref34_Fit_C draymanref23_Fit) (q := draymanref34_Fit_q) (inl := draymanref34_Fit_inl) (N := 1000) (ann := draymanref34_Fit_ann) (fr := false) (D := 6) (l := (draymanref34_Fit_loops draymanref23_Fit)) (hk := (fun _ => none)) (okCons draymanref23_Fit_ok okNil) (lokCons (draymanref34_Fit_l0_ok draymanref23_Fit) (lokCons (draymanref34_Fit_l1_ok draymanref23_Fit) lokNil)) noHooks (draymanref34_Fit_ev draymanref23_Fit)

end
end Go.Rv.Try

set_option linter.unusedVariables false
set_option maxRecDepth 100000
set_option maxHeartbeats 4000000
namespace Go.Rv.Try
open Go Go.Rv Go.RowKit
noncomputable section

-- drayman/draymanref34.Look

abbrev draymanref34_Look_T (α : Type) : Type := (Int × (Seq Z0) × Unit) → Int → (Z0 → Bool → Option α) → Option α

noncomputable def draymanref34_Look {α : Type} (n1 : Int × (Seq Z0) × Unit) (x2 : Int) (k : Z0 → Bool → Option α) : Option α :=
  (cond (!(decide (x2 < 0)))
    (cond (decide (x2 ≥ (n1.2.1.n : Int)))
      (k (0, false, 0, 0, 0, 0, false, 0, 0, false, 0, 0, 0, 0, false, 0, 0, ()) false)
      (cond ((decide ((0 : Int) ≤ x2)) && (decide (x2 < (n1.2.1.n : Int))))
        (k (n1.2.1.g x2.toNat) true)
        none))
    (k (0, false, 0, 0, 0, 0, false, 0, 0, false, 0, 0, 0, 0, false, 0, 0, ()) false))

noncomputable def draymanref34_Look_sp {α : Type} (draymanref34_Look : draymanref34_Look_T α) : FunSpec α := ⟨25, [.agg [.int .i64, .sl (.int .i64 (.bool (.int .i64 (.int .i64 (.int .i64 (.int .i64 (.bool (.int .i64 (.int .i64 (.bool (.int .i64 (.int .i64 (.int .i64 (.int .i64 (.bool (.int .i64 (.int .i64 (.nil))))))))))))))))))], .int .i64], [], fun ds k => draymanref34_Look (hdI ds, hdQ (.int .i64 (.bool (.int .i64 (.int .i64 (.int .i64 (.int .i64 (.bool (.int .i64 (.int .i64 (.bool (.int .i64 (.int .i64 (.int .i64 (.int .i64 (.bool (.int .i64 (.int .i64 (.nil)))))))))))))))))) ds.tail, ()) (hdI ds.tail.tail) (fun r1 r2 => k (enc dep (.tup [.agg [.int .i64, .bool, .int .i64, .int .i64, .int .i64, .int .i64, .bool, .int .i64, .int .i64, .bool, .int .i64, .int .i64, .int .i64, .int .i64, .bool, .int .i64, .int .i64], .bool]) [.i r1.1, .b r1.2.1, .i r1.2.2.1, .i r1.2.2.2.1, .i r1.2.2.2.2.1, .i r1.2.2.2.2.2.1, .b r1.2.2.2.2.2.2.1, .i r1.2.2.2.2.2.2.2.1, .i r1.2.2.2.2.2.2.2.2.1, .b r1.2.2.2.2.2.2.2.2.2.1, .i r1.2.2.2.2.2.2.2.2.2.2.1, .i r1.2.2.2.2.2.2.2.2.2.2.2.1, .i r1.2.2.2.2.2.2.2.2.2.2.2.2.1, .i r1.2.2.2.2.2.2.2.2.2.2.2.2.2.1, .b r1.2.2.2.2.2.2.2.2.2.2.2.2.2.2.1, .i r1.2.2.2.2.2.2.2.2.2.2.2.2.2.2.2.1, .i r1.2.2.2.2.2.2.2.2.2.2.2.2.2.2.2.2.1, .b r2]).1 [])⟩

noncomputable def draymanref34_Look_spec {α : Type} : FunSpec α := draymanref34_Look_sp draymanref34_Look

noncomputable def draymanref34_Look_C {α : Type} : List (FunSpec α) := []

noncomputable def draymanref34_Look_q : FuncId → Bool := fun f => false

noncomputable def draymanref34_Look_inl : FuncId → Bool := fun f => false

noncomputable def draymanref34_Look_ann : FuncId → AnnT := fun f p => ⟨[], [], [], [], 0, [], []⟩

noncomputable def draymanref34_Look_loops {α : Type} : List (LoopSpec α) := []

theorem draymanref34_Look_ev {α : Type} : EvOk (α := α) Go.Proofs.Try.prog (envOf (draymanref34_Look_C) draymanref34_Look_q draymanref34_Look_inl 1000 draymanref34_Look_ann false (draymanref34_Look_loops) (fun _ => none)) 6 (draymanref34_Look_sp (draymanref34_Look)) := by intro ds k; kernel_rfl

theorem draymanref34_Look_ok {α : Type} : (draymanref34_Look_spec : FunSpec α).ok Go.Proofs.Try.prog :=
  FunSpec.ok_of (sp := draymanref34_Look_spec) (C := draymanref34_Look_C) (q := draymanref34_Look_q) (inl := draymanref34_Look_inl) (N := 1000) (ann := draymanref34_Look_ann) (fr := false) (D := 6) (l := (draymanref34_Look_loops)) (hk := (fun _ => none)) okNil lokNil noHooks (draymanref34_Look_ev)

end
end Go.Rv.Try
