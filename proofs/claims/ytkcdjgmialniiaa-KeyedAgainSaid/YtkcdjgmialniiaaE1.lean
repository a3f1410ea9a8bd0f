/- What the functions of the program compute, each with the proof that its code computes it. Written by a program (rvp2.py). -/
import Derived.Test.YtkcdjgmialniiaaProg
import Derived.Test.YtkcdjgmialniiaaRvP
import Derived.Test.YtkcdjgmialniiaaE0

set_option linter.unusedVariables false
set_option maxRecDepth 100000
set_option maxHeartbeats 4000000
namespace Go.Rv.Try
open Go Go.Rv Go.RowKit
noncomputable section

-- (drayman/keyed.come).marked

abbrev keyed_come_marked_T (α : Type) : Type := ((Seq Z1) × Int × Int × Int × Int × Int × Int × Bool × Int × Bool × Unit) → Int → ((Seq Z1) → Option α) → Option α

noncomputable def keyed_come_marked_g {α : Type} (keyed_put_api_Key : keyed_put_api_Key_T α) (c1 : (Seq Z1) × Int × Int × Int × Int × Int × Int × Bool × Int × Bool × Unit) (mark2 : Int) (k : (Seq Z1) → Option α) : Option α :=
  (cond (mark2 == 2)
    (keyed_put_api_Key c1.1 (c1.2.1, c1.2.2.1, mark2, 1, c1.2.2.2.2.2.1, c1.2.2.2.2.2.2.1, ()) fun r3 =>
      (k r3))
    (cond (mark2 == 4)
      (keyed_put_api_Key c1.1 (c1.2.1, c1.2.2.1, mark2, c1.2.2.2.2.1, 1, c1.2.2.2.2.2.2.1, ()) fun r4 =>
        (k r4))
      (keyed_put_api_Key c1.1 (c1.2.1, c1.2.2.1, mark2, c1.2.2.2.2.1, c1.2.2.2.2.2.1, c1.2.2.2.2.2.2.1, ()) fun r5 =>
        (k r5))))

noncomputable def keyed_come_marked {α : Type} : keyed_come_marked_T α := keyed_come_marked_g keyed_put_api_Key

noncomputable def keyed_come_marked_sp {α : Type} (keyed_come_marked : keyed_come_marked_T α) : FunSpec α := ⟨139, [.agg [.sl (.int .i64 (.int .i64 (.int .i64 (.int .i64 (.int .i64 (.int .i64 (.nil))))))), .int .i64, .int .i64, .int .i64, .int .i64, .int .i64, .int .i64, .bool, .int .i64, .bool], .int .i64], [], fun ds k => keyed_come_marked (hdQ (.int .i64 (.int .i64 (.int .i64 (.int .i64 (.int .i64 (.int .i64 (.nil))))))) ds, hdI ds.tail, hdI ds.tail.tail, hdI ds.tail.tail.tail, hdI ds.tail.tail.tail.tail, hdI ds.tail.tail.tail.tail.tail, hdI ds.tail.tail.tail.tail.tail.tail, hdB ds.tail.tail.tail.tail.tail.tail.tail, hdI ds.tail.tail.tail.tail.tail.tail.tail.tail, hdB ds.tail.tail.tail.tail.tail.tail.tail.tail.tail, ()) (hdI ds.tail.tail.tail.tail.tail.tail.tail.tail.tail.tail) (fun q1 => k (enc dep (.own 0) []).1 (encBs [.row true (.int .i64 (.int .i64 (.int .i64 (.int .i64 (.int .i64 (.int .i64 (.nil)))))))] [.q (.int .i64 (.int .i64 (.int .i64 (.int .i64 (.int .i64 (.int .i64 (.nil))))))) q1]).1)⟩

noncomputable def keyed_come_marked_spec {α : Type} : FunSpec α := keyed_come_marked_sp keyed_come_marked

noncomputable def keyed_come_marked_C {α : Type} (keyed_put_api_Key : keyed_put_api_Key_T α) : List (FunSpec α) := [keyed_put_api_Key_sp keyed_put_api_Key]

noncomputable def keyed_come_marked_q : FuncId → Bool := fun f => false

noncomputable def keyed_come_marked_inl : FuncId → Bool := fun f => false

noncomputable def keyed_come_marked_ann : FuncId → AnnT := fun f p => ⟨[], [], [], [], 0, [], []⟩

noncomputable def keyed_come_marked_loops {α : Type} (keyed_put_api_Key : keyed_put_api_Key_T α) : List (LoopSpec α) := []

theorem keyed_come_marked_ev {α : Type} (keyed_put_api_Key : keyed_put_api_Key_T α) : EvOk (α := α) Go.Proofs.Try.prog (envOf (keyed_come_marked_C keyed_put_api_Key) keyed_come_marked_q keyed_come_marked_inl 1000 keyed_come_marked_ann false (keyed_come_marked_loops keyed_put_api_Key) (fun _ => none)) 6 (keyed_come_marked_sp (keyed_come_marked_g keyed_put_api_Key)) := by intro ds k; kernel_rfl

theorem keyed_come_marked_ok {α : Type} : (keyed_come_marked_spec : FunSpec α).ok Go.Proofs.Try.prog :=
  FunSpec.ok_of (sp := keyed_come_marked_spec) (C := keyed_come_marked_C keyed_put_api_Key) (q := keyed_come_marked_q) (inl := keyed_come_marked_inl) (N := 1000) (ann := keyed_come_marked_ann) (fr := false) (D := 6) (l := (keyed_come_marked_loops keyed_put_api_Key)) (hk := (fun _ => none)) (okCons keyed_put_api_Key_ok okNil) lokNil noHooks (keyed_come_marked_ev keyed_put_api_Key)

end
end Go.Rv.Try

set_option linter.unusedVariables false
set_option maxRecDepth 100000
set_option maxHeartbeats 4000000
namespace Go.Rv.Try
open Go Go.Rv Go.RowKit
noncomputable section

-- (drayman/keyed.come).back

abbrev keyed_come_back_T (α : Type) : Type := ((Seq Z1) × Int × Int × Int × Int × Int × Int × Bool × Int × Bool × Unit) → ((Seq Z1) → Int → Bool → Option α) → Option α

noncomputable def keyed_come_back_g {α : Type} (keyed_come_marked : keyed_come_marked_T α) (c1 : (Seq Z1) × Int × Int × Int × Int × Int × Int × Bool × Int × Bool × Unit) (k : (Seq Z1) → Int → Bool → Option α) : Option α :=
  (cond c1.2.2.2.2.2.2.2.1
    (cond c1.2.2.2.2.2.2.2.1
      (cond (!(c1.2.2.2.1 == 2))
        (k c1.1 1 false)
        (cond (c1.2.2.2.2.2.2.2.2.1 != 1)
          (k c1.1 2 false)
          (cond (c1.2.2.2.1 == 2)
            (keyed_come_marked c1 4 fun r2 =>
              (k r2 1 true))
            (keyed_come_marked c1 3 fun r3 =>
              (k r3 1 false)))))
      (cond (c1.2.2.2.2.2.2.2.2.1 != 1)
        (k c1.1 2 false)
        (cond (c1.2.2.2.1 == 2)
          (keyed_come_marked c1 4 fun r4 =>
            (k r4 1 true))
          (keyed_come_marked c1 3 fun r5 =>
            (k r5 1 false)))))
    (cond c1.2.2.2.2.2.2.2.1
      (k c1.1 1 false)
      (cond (c1.2.2.2.2.2.2.2.2.1 != 1)
        (k c1.1 2 false)
        (keyed_come_marked c1 3 fun r6 =>
          (k r6 1 false)))))

noncomputable def keyed_come_back {α : Type} : keyed_come_back_T α := keyed_come_back_g keyed_come_marked

noncomputable def keyed_come_back_sp {α : Type} (keyed_come_back : keyed_come_back_T α) : FunSpec α := ⟨113, [.agg [.sl (.int .i64 (.int .i64 (.int .i64 (.int .i64 (.int .i64 (.int .i64 (.nil))))))), .int .i64, .int .i64, .int .i64, .int .i64, .int .i64, .int .i64, .bool, .int .i64, .bool]], [], fun ds k => keyed_come_back (hdQ (.int .i64 (.int .i64 (.int .i64 (.int .i64 (.int .i64 (.int .i64 (.nil))))))) ds, hdI ds.tail, hdI ds.tail.tail, hdI ds.tail.tail.tail, hdI ds.tail.tail.tail.tail, hdI ds.tail.tail.tail.tail.tail, hdI ds.tail.tail.tail.tail.tail.tail, hdB ds.tail.tail.tail.tail.tail.tail.tail, hdI ds.tail.tail.tail.tail.tail.tail.tail.tail, hdB ds.tail.tail.tail.tail.tail.tail.tail.tail.tail, ()) (fun r1 r2 r3 => k (enc dep (.tup [.sl (.int .i64 (.int .i64 (.int .i64 (.int .i64 (.int .i64 (.int .i64 (.nil))))))), .int .i64, .bool]) [.q (.int .i64 (.int .i64 (.int .i64 (.int .i64 (.int .i64 (.int .i64 (.nil))))))) r1, .i r2, .b r3]).1 [])⟩

noncomputable def keyed_come_back_spec {α : Type} : FunSpec α := keyed_come_back_sp keyed_come_back

noncomputable def keyed_come_back_C {α : Type} (keyed_come_marked : keyed_come_marked_T α) : List (FunSpec α) := [keyed_come_marked_sp keyed_come_marked]

noncomputable def keyed_come_back_q : FuncId → Bool := fun f => false

noncomputable def keyed_come_back_inl : FuncId → Bool := fun f => false

noncomputable def keyed_come_back_ann : FuncId → AnnT := fun f p => ⟨[], [], [], [], 0, [], []⟩

noncomputable def keyed_come_back_loops {α : Type} (keyed_come_marked : keyed_come_marked_T α) : List (LoopSpec α) := []

theorem keyed_come_back_ev {α : Type} (keyed_come_marked : keyed_come_marked_T α) : EvOk (α := α) Go.Proofs.Try.prog (envOf (keyed_come_back_C keyed_come_marked) keyed_come_back_q keyed_come_back_inl 1000 keyed_come_back_ann true (keyed_come_back_loops keyed_come_marked) (fun _ => none)) 6 (keyed_come_back_sp (keyed_come_back_g keyed_come_marked)) := by intro ds k; kernel_rfl

theorem keyed_come_back_ok {α : Type} : (keyed_come_back_spec : FunSpec α).ok Go.Proofs.Try.prog :=
  FunSpec.ok_of (sp := keyed_come_back_spec) (C := keyed_come_back_C keyed_come_marked) (q := keyed_come_back_q) (inl := keyed_come_back_inl) (N := 1000) (ann := keyed_come_back_ann) (fr := true) (D := 6) (l := (keyed_come_back_loops keyed_come_marked)) (hk := (fun _ => none)) (okCons keyed_come_marked_ok okNil) lokNil noHooks (keyed_come_back_ev keyed_come_marked)

end
end Go.Rv.Try

set_option linter.unusedVariables false
set_option maxRecDepth 100000
set_option maxHeartbeats 4000000
namespace Go.Rv.Try
open Go Go.Rv Go.RowKit
noncomputable section

-- slices.Clone[[]drayman/api.Key,drayman/api.Key]

abbrev slices_Clone_api_Key_api_Key_T (α : Type) : Type := (Seq Z1) → ((Seq Z1) → Option α) → Option α

noncomputable def slices_Clone_api_Key_api_Key {α : Type} (s1 : Seq Z1) (k : (Seq Z1) → Option α) : Option α :=
  (cond s1.nl
    (k (⟨true, 0, (fun _ => (0, 0, 0, 0, 0, 0, ()))⟩ : Seq Z1))
    (cond (decide (((0 + s1.n)) * 48 ≤ 140737488355328))
      (k (⟨false, (0 + s1.n), (tApp 0 (tSel [] (0, 0, 0, 0, 0, 0, ())) s1.g)⟩ : Seq Z1))
      none))

noncomputable def slices_Clone_api_Key_api_Key_sp {α : Type} (slices_Clone_api_Key_api_Key : slices_Clone_api_Key_api_Key_T α) : FunSpec α := ⟨114, [.sl (.int .i64 (.int .i64 (.int .i64 (.int .i64 (.int .i64 (.int .i64 (.nil)))))))], [], fun ds k => slices_Clone_api_Key_api_Key (hdQ (.int .i64 (.int .i64 (.int .i64 (.int .i64 (.int .i64 (.int .i64 (.nil))))))) ds) (fun q1 => k (enc dep (.own 0) []).1 (encBs [.row true (.int .i64 (.int .i64 (.int .i64 (.int .i64 (.int .i64 (.int .i64 (.nil)))))))] [.q (.int .i64 (.int .i64 (.int .i64 (.int .i64 (.int .i64 (.int .i64 (.nil))))))) q1]).1)⟩

noncomputable def slices_Clone_api_Key_api_Key_spec {α : Type} : FunSpec α := slices_Clone_api_Key_api_Key_sp slices_Clone_api_Key_api_Key

noncomputable def slices_Clone_api_Key_api_Key_C {α : Type} : List (FunSpec α) := []

noncomputable def slices_Clone_api_Key_api_Key_q : FuncId → Bool := fun f => false

noncomputable def slices_Clone_api_Key_api_Key_inl : FuncId → Bool := fun f => false

noncomputable def slices_Clone_api_Key_api_Key_ann : FuncId → AnnT := fun f p => ⟨[], [], [], [], 0, [], []⟩

noncomputable def slices_Clone_api_Key_api_Key_loops {α : Type} : List (LoopSpec α) := []

theorem slices_Clone_api_Key_api_Key_ev {α : Type} : EvOk (α := α) Go.Proofs.Try.prog (envOf (slices_Clone_api_Key_api_Key_C) slices_Clone_api_Key_api_Key_q slices_Clone_api_Key_api_Key_inl 1000 slices_Clone_api_Key_api_Key_ann false (slices_Clone_api_Key_api_Key_loops) (fun _ => none)) 6 (slices_Clone_api_Key_api_Key_sp (slices_Clone_api_Key_api_Key)) := by intro ds k; kernel_rfl

theorem slices_Clone_api_Key_api_Key_ok {α : Type} : (slices_Clone_api_Key_api_Key_spec : FunSpec α).ok Go.Proofs.Try.prog :=
  FunSpec.ok_of (sp := slices_Clone_api_Key_api_Key_spec) (C := slices_Clone_api_Key_api_Key_C) (q := slices_Clone_api_Key_api_Key_q) (inl := slices_Clone_api_Key_api_Key_inl) (N := 1000) (ann := slices_Clone_api_Key_api_Key_ann) (fr := false) (D := 6) (l := (slices_Clone_api_Key_api_Key_loops)) (hk := (fun _ => none)) okNil lokNil noHooks (slices_Clone_api_Key_api_Key_ev)

end
end Go.Rv.Try

set_option linter.unusedVariables false
set_option maxRecDepth 100000
set_option maxHeartbeats 4000000
namespace Go.Rv.Try
open Go Go.Rv Go.RowKit
noncomputable section

-- (drayman/keyed.come).there

abbrev keyed_come_there_T (α : Type) : Type := ((Seq Z1) × Int × Int × Int × Int × Int × Int × Bool × Int × Bool × Unit) → ((Seq Z1) → Int → Bool → Option α) → Option α

noncomputable def keyed_come_there_g {α : Type} (keyed_come_marked : keyed_come_marked_T α) (c1 : (Seq Z1) × Int × Int × Int × Int × Int × Int × Bool × Int × Bool × Unit) (k : (Seq Z1) → Int → Bool → Option α) : Option α :=
  (cond c1.2.2.2.2.2.2.2.1
    (cond (c1.2.2.2.1 == 2)
      (k c1.1 1 false)
      (cond c1.2.2.2.2.2.2.2.1
        (k c1.1 3 false)
        (cond (c1.2.2.2.2.2.2.2.2.1 == 1)
          (keyed_come_marked c1 2 fun r2 =>
            (k r2 1 true))
          (cond (c1.2.2.2.2.2.2.2.2.1 == 3)
            (cond (!c1.2.2.2.2.2.2.2.2.2.1)
              (keyed_come_marked c1 5 fun r3 =>
                (k r3 3 false))
              (k c1.1 2 false))
            (k c1.1 2 false)))))
    (cond c1.2.2.2.2.2.2.2.1
      (k c1.1 3 false)
      (cond (c1.2.2.2.2.2.2.2.2.1 == 1)
        (keyed_come_marked c1 2 fun r4 =>
          (k r4 1 true))
        (cond (c1.2.2.2.2.2.2.2.2.1 == 3)
          (cond (!c1.2.2.2.2.2.2.2.2.2.1)
            (keyed_come_marked c1 5 fun r5 =>
              (k r5 3 false))
            (k c1.1 2 false))
          (k c1.1 2 false)))))

noncomputable def keyed_come_there {α : Type} : keyed_come_there_T α := keyed_come_there_g keyed_come_marked

noncomputable def keyed_come_there_sp {α : Type} (keyed_come_there : keyed_come_there_T α) : FunSpec α := ⟨112, [.agg [.sl (.int .i64 (.int .i64 (.int .i64 (.int .i64 (.int .i64 (.int .i64 (.nil))))))), .int .i64, .int .i64, .int .i64, .int .i64, .int .i64, .int .i64, .bool, .int .i64, .bool]], [], fun ds k => keyed_come_there (hdQ (.int .i64 (.int .i64 (.int .i64 (.int .i64 (.int .i64 (.int .i64 (.nil))))))) ds, hdI ds.tail, hdI ds.tail.tail, hdI ds.tail.tail.tail, hdI ds.tail.tail.tail.tail, hdI ds.tail.tail.tail.tail.tail, hdI ds.tail.tail.tail.tail.tail.tail, hdB ds.tail.tail.tail.tail.tail.tail.tail, hdI ds.tail.tail.tail.tail.tail.tail.tail.tail, hdB ds.tail.tail.tail.tail.tail.tail.tail.tail.tail, ()) (fun r1 r2 r3 => k (enc dep (.tup [.sl (.int .i64 (.int .i64 (.int .i64 (.int .i64 (.int .i64 (.int .i64 (.nil))))))), .int .i64, .bool]) [.q (.int .i64 (.int .i64 (.int .i64 (.int .i64 (.int .i64 (.int .i64 (.nil))))))) r1, .i r2, .b r3]).1 [])⟩

noncomputable def keyed_come_there_spec {α : Type} : FunSpec α := keyed_come_there_sp keyed_come_there

noncomputable def keyed_come_there_C {α : Type} (keyed_come_marked : keyed_come_marked_T α) : List (FunSpec α) := [keyed_come_marked_sp keyed_come_marked]

noncomputable def keyed_come_there_q : FuncId → Bool := fun f => false

noncomputable def keyed_come_there_inl : FuncId → Bool := fun f => false

noncomputable def keyed_come_there_ann : FuncId → AnnT := fun f p => ⟨[], [], [], [], 0, [], []⟩

noncomputable def keyed_come_there_loops {α : Type} (keyed_come_marked : keyed_come_marked_T α) : List (LoopSpec α) := []

theorem keyed_come_there_ev {α : Type} (keyed_come_marked : keyed_come_marked_T α) : EvOk (α := α) Go.Proofs.Try.prog (envOf (keyed_come_there_C keyed_come_marked) keyed_come_there_q keyed_come_there_inl 1000 keyed_come_there_ann true (keyed_come_there_loops keyed_come_marked) (fun _ => none)) 6 (keyed_come_there_sp (keyed_come_there_g keyed_come_marked)) := by intro ds k; kernel_rfl

theorem keyed_come_there_ok {α : Type} : (keyed_come_there_spec : FunSpec α).ok Go.Proofs.Try.prog :=
  FunSpec.ok_of (sp := keyed_come_there_spec) (C := keyed_come_there_C keyed_come_marked) (q := keyed_come_there_q) (inl := keyed_come_there_inl) (N := 1000) (ann := keyed_come_there_ann) (fr := true) (D := 6) (l := (keyed_come_there_loops keyed_come_marked)) (hk := (fun _ => none)) (okCons keyed_come_marked_ok okNil) lokNil noHooks (keyed_come_there_ev keyed_come_marked)

end
end Go.Rv.Try

set_option linter.unusedVariables false
set_option maxRecDepth 100000
set_option maxHeartbeats 4000000
namespace Go.Rv.Try
open Go Go.Rv Go.RowKit
noncomputable section

-- drayman/keyed.Come

abbrev keyed_Come_T (α : Type) : Type := (Seq Z1) → Z0 → Int → (Int → Bool → Int → (Seq Z1) → Option α) → Option α

noncomputable def keyed_Come_g {α : Type} (keyed_Fit : keyed_Fit_T α) (outbox_Fit : outbox_Fit_T α) (keyed_Find : keyed_Find_T α) (keyed_come_back : keyed_come_back_T α) (slices_Clone_api_Key_api_Key : slices_Clone_api_Key_api_Key_T α) (keyed_come_there : keyed_come_there_T α) (x1 : Seq Z1) (x2 : Int × Int × Int × Bool × Int × Int × Bool × Unit) (x3 : Int) (k : Int → Bool → Int → (Seq Z1) → Option α) : Option α :=
  (keyed_Fit x1 fun r4 =>
    (cond (!r4)
      (k 0 false 12 (⟨true, 0, (fun _ => (0, 0, 0, 0, 0, 0, ()))⟩ : Seq Z1))
      (outbox_Fit (⟨false, 1, (fun _ => x2)⟩ : Seq Z0) fun r5 =>
        (cond (!(!r5))
          (cond (!(decide (x3 < 1)))
            (cond (decide (x3 > 3))
              (k 0 false 1 (⟨true, 0, (fun _ => (0, 0, 0, 0, 0, 0, ()))⟩ : Seq Z1))
              (keyed_Find x1 x2.2.1 x2.2.2.1 fun r6 r7 =>
                (cond (!r7)
                  (cond x2.2.2.2.1
                    (keyed_come_back (x1, x2.2.1, x2.2.2.1, 0, 0, 0, x2.2.2.2.2.2.1, r7, x3, x2.2.2.2.2.2.2.1, ()) fun r8 r9 r10 =>
                      (slices_Clone_api_Key_api_Key r8 fun r11 =>
                        (k r9 r10 0 r11)))
                    (keyed_come_there (x1, x2.2.1, x2.2.2.1, 0, 0, 0, x2.2.2.2.2.2.1, r7, x3, x2.2.2.2.2.2.2.1, ()) fun r12 r13 r14 =>
                      (slices_Clone_api_Key_api_Key r12 fun r15 =>
                        (k r13 r14 0 r15))))
                  (cond x2.2.2.2.1
                    (keyed_come_back (x1, r6.1, r6.2.1, r6.2.2.1, r6.2.2.2.1, r6.2.2.2.2.1, r6.2.2.2.2.2.1, r7, x3, x2.2.2.2.2.2.2.1, ()) fun r16 r17 r18 =>
                      (slices_Clone_api_Key_api_Key r16 fun r19 =>
                        (k r17 r18 0 r19)))
                    (keyed_come_there (x1, r6.1, r6.2.1, r6.2.2.1, r6.2.2.2.1, r6.2.2.2.2.1, r6.2.2.2.2.2.1, r7, x3, x2.2.2.2.2.2.2.1, ()) fun r20 r21 r22 =>
                      (slices_Clone_api_Key_api_Key r20 fun r23 =>
                        (k r21 r22 0 r23)))))))
            (k 0 false 1 (⟨true, 0, (fun _ => (0, 0, 0, 0, 0, 0, ()))⟩ : Seq Z1)))
          (k 0 false 1 (⟨true, 0, (fun _ => (0, 0, 0, 0, 0, 0, ()))⟩ : Seq Z1))))))

noncomputable def keyed_Come {α : Type} : keyed_Come_T α := keyed_Come_g keyed_Fit outbox_Fit keyed_Find keyed_come_back slices_Clone_api_Key_api_Key keyed_come_there

noncomputable def keyed_Come_sp {α : Type} (keyed_Come : keyed_Come_T α) : FunSpec α := ⟨70, [.sl (.int .i64 (.int .i64 (.int .i64 (.int .i64 (.int .i64 (.int .i64 (.nil))))))), .agg [.int .i64, .int .i64, .int .i64, .bool, .int .i64, .int .i64, .bool], .int .i64], [], fun ds k => keyed_Come (hdQ (.int .i64 (.int .i64 (.int .i64 (.int .i64 (.int .i64 (.int .i64 (.nil))))))) ds) (hdI ds.tail, hdI ds.tail.tail, hdI ds.tail.tail.tail, hdB ds.tail.tail.tail.tail, hdI ds.tail.tail.tail.tail.tail, hdI ds.tail.tail.tail.tail.tail.tail, hdB ds.tail.tail.tail.tail.tail.tail.tail, ()) (hdI ds.tail.tail.tail.tail.tail.tail.tail.tail) (fun r1 r2 r3 q4 => k (enc dep (.tup [.own 0, .int .i64, .bool, .int .i64]) [.i r1, .b r2, .i r3]).1 (encBs [.row true (.int .i64 (.int .i64 (.int .i64 (.int .i64 (.int .i64 (.int .i64 (.nil)))))))] [.q (.int .i64 (.int .i64 (.int .i64 (.int .i64 (.int .i64 (.int .i64 (.nil))))))) q4]).1)⟩

noncomputable def keyed_Come_spec {α : Type} : FunSpec α := keyed_Come_sp keyed_Come

noncomputable def keyed_Come_C {α : Type} (keyed_Fit : keyed_Fit_T α) (outbox_Fit : outbox_Fit_T α) (keyed_Find : keyed_Find_T α) (keyed_come_back : keyed_come_back_T α) (slices_Clone_api_Key_api_Key : slices_Clone_api_Key_api_Key_T α) (keyed_come_there : keyed_come_there_T α) : List (FunSpec α) := [keyed_Fit_sp keyed_Fit, outbox_Fit_sp outbox_Fit, keyed_Find_sp keyed_Find, keyed_come_back_sp keyed_come_back, slices_Clone_api_Key_api_Key_sp slices_Clone_api_Key_api_Key, keyed_come_there_sp keyed_come_there]

noncomputable def keyed_Come_q : FuncId → Bool := fun f => Nat.beq f 73 || Nat.beq f 77 || Nat.beq f 103

noncomputable def keyed_Come_inl : FuncId → Bool := fun f => false

noncomputable def keyed_Come_ann : FuncId → AnnT := fun f p => ⟨[], [], [], [], 0, [], []⟩

noncomputable def keyed_Come_loops {α : Type} (keyed_Fit : keyed_Fit_T α) (outbox_Fit : outbox_Fit_T α) (keyed_Find : keyed_Find_T α) (keyed_come_back : keyed_come_back_T α) (slices_Clone_api_Key_api_Key : slices_Clone_api_Key_api_Key_T α) (keyed_come_there : keyed_come_there_T α) : List (LoopSpec α) := []

theorem keyed_Come_ev {α : Type} (keyed_Fit : keyed_Fit_T α) (outbox_Fit : outbox_Fit_T α) (keyed_Find : keyed_Find_T α) (keyed_come_back : keyed_come_back_T α) (slices_Clone_api_Key_api_Key : slices_Clone_api_Key_api_Key_T α) (keyed_come_there : keyed_come_there_T α) : EvOk (α := α) Go.Proofs.Try.prog (envOf (keyed_Come_C keyed_Fit outbox_Fit keyed_Find keyed_come_back slices_Clone_api_Key_api_Key keyed_come_there) keyed_Come_q keyed_Come_inl 1000 keyed_Come_ann false (keyed_Come_loops keyed_Fit outbox_Fit keyed_Find keyed_come_back slices_Clone_api_Key_api_Key keyed_come_there) (fun _ => none)) 6 (keyed_Come_sp (keyed_Come_g keyed_Fit outbox_Fit keyed_Find keyed_come_back slices_Clone_api_Key_api_Key keyed_come_there)) := by intro ds k; kernel_rfl

theorem keyed_Come_ok {α : Type} : (keyed_Come_spec : FunSpec α).ok Go.Proofs.Try.prog :=
  FunSpec.ok_of (sp := keyed_Come_spec) (C := keyed_Come_C keyed_Fit outbox_Fit keyed_Find keyed_come_back slices_Clone_api_Key_api_Key keyed_come_there) (q := keyed_Come_q) (inl := keyed_Come_inl) (N := 1000) (ann := keyed_Come_ann) (fr := false) (D := 6) (l := (keyed_Come_loops keyed_Fit outbox_Fit keyed_Find keyed_come_back slices_Clone_api_Key_api_Key keyed_come_there)) (hk := (fun _ => none)) (okCons keyed_Fit_ok (okCons outbox_Fit_ok (okCons keyed_Find_ok (okCons keyed_come_back_ok (okCons slices_Clone_api_Key_api_Key_ok (okCons keyed_come_there_ok okNil)))))) lokNil noHooks (keyed_Come_ev keyed_Fit outbox_Fit keyed_Find keyed_come_back slices_Clone_api_Key_api_Key keyed_come_there)

end
end Go.Rv.Try

set_option linter.unusedVariables false
set_option maxRecDepth 100000
set_option maxHeartbeats 4000000
namespace Go.Rv.Try
open Go Go.Rv Go.RowKit
noncomputable section

-- drayman/draymanlaw31.awake

abbrev draymanlaw31_awake_T (α : Type) : Type := (Bool → Option α) → Option α

noncomputable def draymanlaw31_awake_g {α : Type} (keyed_Come : keyed_Come_T α) (k : Bool → Option α) : Option α :=
  (keyed_Come (⟨true, 0, (fun _ => (0, 0, 0, 0, 0, 0, ()))⟩ : Seq Z1) (1, 1, 0, false, 2, 5, false, ()) 1 fun r1 r2 r3 r4 =>
    (keyed_Come r4 (1, 1, 0, false, 2, 5, false, ()) 3 fun r5 r6 r7 r8 =>
      (keyed_Come (⟨true, 0, (fun _ => (0, 0, 0, 0, 0, 0, ()))⟩ : Seq Z1) (1, 1, 0, true, 2, 5, false, ()) 1 fun r9 r10 r11 r12 =>
        (keyed_Come r12 (1, 1, 0, false, 2, 5, false, ()) 1 fun r13 r14 r15 r16 =>
          (cond (r3 == 0)
            (cond (r1 == 1)
              (cond r2
                (cond (r7 == 0)
                  (cond (r5 == 1)
                    (cond (!r6)
                      (cond (r11 == 0)
                        (cond (r9 == 1)
                          (cond (!r10)
                            (cond (r15 == 0)
                              (cond (r13 == 3)
                                (cond (!r14)
                                  (cond ((r4.n : Int) == 1)
                                    (k ((r12.n : Int) == 1))
                                    (k false))
                                  (k false))
                                (k false))
                              (k false))
                            (k false))
                          (k false))
                        (k false))
                      (k false))
                    (k false))
                  (k false))
                (k false))
              (k false))
            (k false))))))

noncomputable def draymanlaw31_awake {α : Type} : draymanlaw31_awake_T α := draymanlaw31_awake_g keyed_Come

noncomputable def draymanlaw31_awake_sp {α : Type} (draymanlaw31_awake : draymanlaw31_awake_T α) : FunSpec α := ⟨69, [], [], fun ds k => draymanlaw31_awake  (fun r1 => k (enc dep (.bool) [.b r1]).1 [])⟩

noncomputable def draymanlaw31_awake_spec {α : Type} : FunSpec α := draymanlaw31_awake_sp draymanlaw31_awake

noncomputable def draymanlaw31_awake_C {α : Type} (keyed_Come : keyed_Come_T α) : List (FunSpec α) := [keyed_Come_sp keyed_Come]

noncomputable def draymanlaw31_awake_q : FuncId → Bool := fun f => false

noncomputable def draymanlaw31_awake_inl : FuncId → Bool := fun f => false

noncomputable def draymanlaw31_awake_ann : FuncId → AnnT := fun f p => ⟨[], [], [], [], 0, [], []⟩

noncomputable def draymanlaw31_awake_loops {α : Type} (keyed_Come : keyed_Come_T α) : List (LoopSpec α) := []

theorem draymanlaw31_awake_ev {α : Type} (keyed_Come : keyed_Come_T α) : EvOk (α := α) Go.Proofs.Try.prog (envOf (draymanlaw31_awake_C keyed_Come) draymanlaw31_awake_q draymanlaw31_awake_inl 1000 draymanlaw31_awake_ann false (draymanlaw31_awake_loops keyed_Come) (fun _ => none)) 6 (draymanlaw31_awake_sp (draymanlaw31_awake_g keyed_Come)) := by intro ds k; kernel_rfl

theorem draymanlaw31_awake_ok {α : Type} : (draymanlaw31_awake_spec : FunSpec α).ok Go.Proofs.Try.prog :=
  FunSpec.ok_of (sp := draymanlaw31_awake_spec) (C := draymanlaw31_awake_C keyed_Come) (q := draymanlaw31_awake_q) (inl := draymanlaw31_awake_inl) (N := 1000) (ann := draymanlaw31_awake_ann) (fr := false) (D := 6) (l := (draymanlaw31_awake_loops keyed_Come)) (hk := (fun _ => none)) (okCons keyed_Come_ok okNil) lokNil noHooks (draymanlaw31_awake_ev keyed_Come)

end
end Go.Rv.Try

set_option linter.unusedVariables false
set_option maxRecDepth 100000
set_option maxHeartbeats 4000000
namespace Go.Rv.Try
open Go Go.Rv Go.RowKit
noncomputable section

-- drayman/draymanref31.Same

abbrev draymanref31_Same_T (α : Type) : Type := (Seq Z1) → (Seq Z1) → (Bool → Option α) → Option α

noncomputable def draymanref31_Same_l0_step {α : Type} (kr : (Bool) → Option α) (k0 : Option α) (rec : (Seq Z1) → (Seq Z1) → (Int) → Option α) (a3 : Seq Z1) (b4 : Seq Z1) (i5 : Int) : Option α :=
  (cond (decide (i5 < (a3.n : Int)))
    (cond (((decide ((0 : Int) ≤ i5)) && (decide (i5 < (a3.n : Int)))) && ((decide ((0 : Int) ≤ i5)) && (decide (i5 < (a3.n : Int)))))
      (cond (((decide ((0 : Int) ≤ i5)) && (decide (i5 < (b4.n : Int)))) && ((decide ((0 : Int) ≤ i5)) && (decide (i5 < (b4.n : Int)))))
        (cond (!(((a3.g i5.toNat).1 == (b4.g i5.toNat).1) && (((a3.g i5.toNat).2.1 == (b4.g i5.toNat).2.1) && (((a3.g i5.toNat).2.2.1 == (b4.g i5.toNat).2.2.1) && (((a3.g i5.toNat).2.2.2.1 == (b4.g i5.toNat).2.2.2.1) && (((a3.g i5.toNat).2.2.2.2.1 == (b4.g i5.toNat).2.2.2.2.1) && (((a3.g i5.toNat).2.2.2.2.2.1 == (b4.g i5.toNat).2.2.2.2.2.1) && true)))))))
          (kr false)
          (rec a3 b4 (IntKind.i64.wrap (i5 + 1))))
        none)
      none)
    (k0))

noncomputable def draymanref31_Same_l0_run {α : Type} (kr : (Bool) → Option α) (k0 : Option α) : Nat → (Seq Z1) → (Seq Z1) → (Int) → Option α
  | 0, _, _, _ => none
  | n + 1, a3, b4, i5 => draymanref31_Same_l0_step kr k0 (fun a3 b4 i5 => draymanref31_Same_l0_run kr k0 n a3 b4 i5) a3 b4 i5

noncomputable def draymanref31_Same {α : Type} (a1 : Seq Z1) (b2 : Seq Z1) (k : Bool → Option α) : Option α :=
  (cond ((a1.n : Int) != (b2.n : Int))
    (k false)
    (draymanref31_Same_l0_run
      (fun x6 =>
        (k x6))
      ((k true))
      1000 a1 b2 0))

noncomputable def draymanref31_Same_sp {α : Type} (draymanref31_Same : draymanref31_Same_T α) : FunSpec α := ⟨71, [.sl (.int .i64 (.int .i64 (.int .i64 (.int .i64 (.int .i64 (.int .i64 (.nil))))))), .sl (.int .i64 (.int .i64 (.int .i64 (.int .i64 (.int .i64 (.int .i64 (.nil)))))))], [], fun ds k => draymanref31_Same (hdQ (.int .i64 (.int .i64 (.int .i64 (.int .i64 (.int .i64 (.int .i64 (.nil))))))) ds) (hdQ (.int .i64 (.int .i64 (.int .i64 (.int .i64 (.int .i64 (.int .i64 (.nil))))))) ds.tail) (fun r1 => k (enc dep (.bool) [.b r1]).1 [])⟩

noncomputable def draymanref31_Same_spec {α : Type} : FunSpec α := draymanref31_Same_sp draymanref31_Same

noncomputable def draymanref31_Same_C {α : Type} : List (FunSpec α) := []

noncomputable def draymanref31_Same_q : FuncId → Bool := fun f => false

noncomputable def draymanref31_Same_inl : FuncId → Bool := fun f => false

noncomputable def draymanref31_Same_ann : FuncId → AnnT := fun f p => if f = 71 then (if p = [true, false, true, true] then ⟨[0, 1, 5], [], [], [4], 0, [], []⟩ else ⟨[], [], [], [], 0, [], []⟩) else ⟨[], [], [], [], 0, [], []⟩

noncomputable def draymanref31_Same_l0_t : List Sh := [.sl (.int .i64 (.int .i64 (.int .i64 (.int .i64 (.int .i64 (.int .i64 (.nil))))))), .sl (.int .i64 (.int .i64 (.int .i64 (.int .i64 (.int .i64 (.int .i64 (.nil))))))), .dead, .dead, .dead, .int .i64, .dead, .dead, .dead, .dead, .dead, .dead, .dead, .dead, .dead, .dead, .dead, .dead, .dead, .dead, .dead, .dead, .dead, .dead, .dead, .dead]
noncomputable def draymanref31_Same_l0_s : List (List Sh) := []
noncomputable def draymanref31_Same_l0_h : List BSh := []

noncomputable def draymanref31_Same_l0_spec {α : Type} : LoopSpec α := ⟨6, 71, [true, false, true, true], draymanref31_Same_l0_t, draymanref31_Same_l0_s, draymanref31_Same_l0_h, fun ds k => draymanref31_Same_l0_run (fun y1 => k .ret (encSt [.dead, .dead, .dead, .dead, .bool, .dead, .dead, .dead, .dead, .dead, .dead, .dead, .dead, .dead, .dead, .dead, .dead, .dead, .dead, .dead, .dead, .dead, .dead, .dead, .dead, .dead] [] [] [.b y1])) (k (.exit 0) (encSt [.dead, .dead, .dead, .dead, .dead, .dead, .dead, .dead, .dead, .dead, .dead, .dead, .dead, .dead, .dead, .dead, .dead, .dead, .dead, .dead, .dead, .dead, .dead, .dead, .dead, .dead] [] [] [])) 1000 (hdQ (.int .i64 (.int .i64 (.int .i64 (.int .i64 (.int .i64 (.int .i64 (.nil))))))) ds) (hdQ (.int .i64 (.int .i64 (.int .i64 (.int .i64 (.int .i64 (.int .i64 (.nil))))))) ds.tail) (hdI ds.tail.tail)⟩

noncomputable def draymanref31_Same_loops {α : Type} : List (LoopSpec α) := [draymanref31_Same_l0_spec]

noncomputable def draymanref31_Same_l0_ev {α : Type} (n : Nat) (st : St) (k : X → St → Option α) : Option α := loopN (evCode Go.Proofs.Try.prog (callD Go.Proofs.Try.prog (envOf (draymanref31_Same_C) draymanref31_Same_q draymanref31_Same_inl 1000 draymanref31_Same_ann false (draymanref31_Same_loops) (fun _ => none)) 6) (((envOf (draymanref31_Same_C) draymanref31_Same_q draymanref31_Same_inl 1000 draymanref31_Same_ann false (draymanref31_Same_loops) (fun _ => none)) : Env α).L 6 71) 1000 (draymanref31_Same_ann 71) (false :: [true, false, true, true]) (loopC Go.Proofs.Try.prog 71 [true, false, true, true])) ((draymanref31_Same_ann 71 [true, false, true, true]).head 0) ((draymanref31_Same_ann 71 [true, false, true, true]).leave 0) n st k

theorem draymanref31_Same_l0_eq {α : Type} : ∀ (n : Nat) (a3 : Seq Z1) (b4 : Seq Z1) (i5 : Int) (k : X → St → Option α), draymanref31_Same_l0_ev n (encSt draymanref31_Same_l0_t draymanref31_Same_l0_s draymanref31_Same_l0_h [.q (.int .i64 (.int .i64 (.int .i64 (.int .i64 (.int .i64 (.int .i64 (.nil))))))) a3, .q (.int .i64 (.int .i64 (.int .i64 (.int .i64 (.int .i64 (.int .i64 (.nil))))))) b4, .i i5]) k = draymanref31_Same_l0_run (fun y1 => k .ret (encSt [.dead, .dead, .dead, .dead, .bool, .dead, .dead, .dead, .dead, .dead, .dead, .dead, .dead, .dead, .dead, .dead, .dead, .dead, .dead, .dead, .dead, .dead, .dead, .dead, .dead, .dead] [] [] [.b y1])) (k (.exit 0) (encSt [.dead, .dead, .dead, .dead, .dead, .dead, .dead, .dead, .dead, .dead, .dead, .dead, .dead, .dead, .dead, .dead, .dead, .dead, .dead, .dead, .dead, .dead, .dead, .dead, .dead, .dead] [] [] [])) n a3 b4 i5 := by
  intro n
  induction n with
  | zero => intros; kernel_rfl
  | succ n ih =>
    intro a3 b4 i5 k
    have e : (fun (a3 : Seq Z1) (b4 : Seq Z1) (i5 : Int) => draymanref31_Same_l0_ev n (encSt draymanref31_Same_l0_t draymanref31_Same_l0_s draymanref31_Same_l0_h [.q (.int .i64 (.int .i64 (.int .i64 (.int .i64 (.int .i64 (.int .i64 (.nil))))))) a3, .q (.int .i64 (.int .i64 (.int .i64 (.int .i64 (.int .i64 (.int .i64 (.nil))))))) b4, .i i5]) k) = (fun (a3 : Seq Z1) (b4 : Seq Z1) (i5 : Int) => draymanref31_Same_l0_run (fun y1 => k .ret (encSt [.dead, .dead, .dead, .dead, .bool, .dead, .dead, .dead, .dead, .dead, .dead, .dead, .dead, .dead, .dead, .dead, .dead, .dead, .dead, .dead, .dead, .dead, .dead, .dead, .dead, .dead] [] [] [.b y1])) (k (.exit 0) (encSt [.dead, .dead, .dead, .dead, .dead, .dead, .dead, .dead, .dead, .dead, .dead, .dead, .dead, .dead, .dead, .dead, .dead, .dead, .dead, .dead, .dead, .dead, .dead, .dead, .dead, .dead] [] [] [])) n a3 b4 i5) := by
      funext a3 b4 i5
      exact ih a3 b4 i5 k
    have h1 : draymanref31_Same_l0_ev (n + 1) (encSt draymanref31_Same_l0_t draymanref31_Same_l0_s draymanref31_Same_l0_h [.q (.int .i64 (.int .i64 (.int .i64 (.int .i64 (.int .i64 (.int .i64 (.nil))))))) a3, .q (.int .i64 (.int .i64 (.int .i64 (.int .i64 (.int .i64 (.int .i64 (.nil))))))) b4, .i i5]) k = draymanref31_Same_l0_step (fun y1 => k .ret (encSt [.dead, .dead, .dead, .dead, .bool, .dead, .dead, .dead, .dead, .dead, .dead, .dead, .dead, .dead, .dead, .dead, .dead, .dead, .dead, .dead, .dead, .dead, .dead, .dead, .dead, .dead] [] [] [.b y1])) (k (.exit 0) (encSt [.dead, .dead, .dead, .dead, .dead, .dead, .dead, .dead, .dead, .dead, .dead, .dead, .dead, .dead, .dead, .dead, .dead, .dead, .dead, .dead, .dead, .dead, .dead, .dead, .dead, .dead] [] [] [])) (fun (a3 : Seq Z1) (b4 : Seq Z1) (i5 : Int) => draymanref31_Same_l0_ev n (encSt draymanref31_Same_l0_t draymanref31_Same_l0_s draymanref31_Same_l0_h [.q (.int .i64 (.int .i64 (.int .i64 (.int .i64 (.int .i64 (.int .i64 (.nil))))))) a3, .q (.int .i64 (.int .i64 (.int .i64 (.int .i64 (.int .i64 (.int .i64 (.nil))))))) b4, .i i5]) k) a3 b4 i5 := by kernel_rfl
    have h2 := congrArg (fun r => draymanref31_Same_l0_step (fun y1 => k .ret (encSt [.dead, .dead, .dead, .dead, .bool, .dead, .dead, .dead, .dead, .dead, .dead, .dead, .dead, .dead, .dead, .dead, .dead, .dead, .dead, .dead, .dead, .dead, .dead, .dead, .dead, .dead] [] [] [.b y1])) (k (.exit 0) (encSt [.dead, .dead, .dead, .dead, .dead, .dead, .dead, .dead, .dead, .dead, .dead, .dead, .dead, .dead, .dead, .dead, .dead, .dead, .dead, .dead, .dead, .dead, .dead, .dead, .dead, .dead] [] [] [])) r a3 b4 i5) e
    have h3 : draymanref31_Same_l0_step (fun y1 => k .ret (encSt [.dead, .dead, .dead, .dead, .bool, .dead, .dead, .dead, .dead, .dead, .dead, .dead, .dead, .dead, .dead, .dead, .dead, .dead, .dead, .dead, .dead, .dead, .dead, .dead, .dead, .dead] [] [] [.b y1])) (k (.exit 0) (encSt [.dead, .dead, .dead, .dead, .dead, .dead, .dead, .dead, .dead, .dead, .dead, .dead, .dead, .dead, .dead, .dead, .dead, .dead, .dead, .dead, .dead, .dead, .dead, .dead, .dead, .dead] [] [] [])) (fun (a3 : Seq Z1) (b4 : Seq Z1) (i5 : Int) => draymanref31_Same_l0_run (fun y1 => k .ret (encSt [.dead, .dead, .dead, .dead, .bool, .dead, .dead, .dead, .dead, .dead, .dead, .dead, .dead, .dead, .dead, .dead, .dead, .dead, .dead, .dead, .dead, .dead, .dead, .dead, .dead, .dead] [] [] [.b y1])) (k (.exit 0) (encSt [.dead, .dead, .dead, .dead, .dead, .dead, .dead, .dead, .dead, .dead, .dead, .dead, .dead, .dead, .dead, .dead, .dead, .dead, .dead, .dead, .dead, .dead, .dead, .dead, .dead, .dead] [] [] [])) n a3 b4 i5) a3 b4 i5 = draymanref31_Same_l0_run (fun y1 => k .ret (encSt [.dead, .dead, .dead, .dead, .bool, .dead, .dead, .dead, .dead, .dead, .dead, .dead, .dead, .dead, .dead, .dead, .dead, .dead, .dead, .dead, .dead, .dead, .dead, .dead, .dead, .dead] [] [] [.b y1])) (k (.exit 0) (encSt [.dead, .dead, .dead, .dead, .dead, .dead, .dead, .dead, .dead, .dead, .dead, .dead, .dead, .dead, .dead, .dead, .dead, .dead, .dead, .dead, .dead, .dead, .dead, .dead, .dead, .dead] [] [] [])) (n + 1) a3 b4 i5 := by kernel_rfl
    exact h1.trans (h2.trans h3)

theorem draymanref31_Same_l0_ok {α : Type} : (draymanref31_Same_l0_spec : LoopSpec α).ok Go.Proofs.Try.prog (envOf (draymanref31_Same_C) draymanref31_Same_q draymanref31_Same_inl 1000 draymanref31_Same_ann false (draymanref31_Same_loops) (fun _ => none)) := by
  intro ds k
  have h1 : draymanref31_Same_l0_ev 1000 (encSt draymanref31_Same_l0_t draymanref31_Same_l0_s draymanref31_Same_l0_h ds) k = draymanref31_Same_l0_ev 1000 (encSt draymanref31_Same_l0_t draymanref31_Same_l0_s draymanref31_Same_l0_h [.q (.int .i64 (.int .i64 (.int .i64 (.int .i64 (.int .i64 (.int .i64 (.nil))))))) (hdQ (.int .i64 (.int .i64 (.int .i64 (.int .i64 (.int .i64 (.int .i64 (.nil))))))) ds), .q (.int .i64 (.int .i64 (.int .i64 (.int .i64 (.int .i64 (.int .i64 (.nil))))))) (hdQ (.int .i64 (.int .i64 (.int .i64 (.int .i64 (.int .i64 (.int .i64 (.nil))))))) ds.tail), .i (hdI ds.tail.tail)]) k := by kernel_rfl
  have h2 := draymanref31_Same_l0_eq 1000 (hdQ (.int .i64 (.int .i64 (.int .i64 (.int .i64 (.int .i64 (.int .i64 (.nil))))))) ds) (hdQ (.int .i64 (.int .i64 (.int .i64 (.int .i64 (.int .i64 (.int .i64 (.nil))))))) ds.tail) (hdI ds.tail.tail) k
  exact h1.trans h2

theorem draymanref31_Same_ev {α : Type} : EvOk (α := α) Go.Proofs.Try.prog (envOf (draymanref31_Same_C) draymanref31_Same_q draymanref31_Same_inl 1000 draymanref31_Same_ann false (draymanref31_Same_loops) (fun _ => none)) 6 (draymanref31_Same_sp (draymanref31_Same)) := by intro ds k; kernel_rfl

theorem draymanref31_Same_ok {α : Type} : (draymanref31_Same_spec : FunSpec α).ok Go.Proofs.Try.prog :=
  FunSpec.ok_of (sp := draymanref31_Same_spec) (C := draymanref31_Same_C) (q := draymanref31_Same_q) (inl := draymanref31_Same_inl) (N := 1000) (ann := draymanref31_Same_ann) (fr := false) (D := 6) (l := (draymanref31_Same_loops)) (hk := (fun _ => none)) okNil (lokCons (draymanref31_Same_l0_ok) lokNil) noHooks (draymanref31_Same_ev)

end
end Go.Rv.Try

set_option linter.unusedVariables false
set_option maxRecDepth 100000
set_option maxHeartbeats 4000000
namespace Go.Rv.Try
open Go Go.Rv Go.RowKit
noncomputable section

-- drayman/draymanlaw31.KeyedAgain

abbrev draymanlaw31_KeyedAgain_T (α : Type) : Type := (Seq Z1) → Z0 → Int → Int → (Bool → Option α) → Option α

noncomputable def draymanlaw31_KeyedAgain_g {α : Type} (draymanlaw31_awake : draymanlaw31_awake_T α) (keyed_Come : keyed_Come_T α) (draymanref31_Same : draymanref31_Same_T α) (x1 : Seq Z1) (x2 : Int × Int × Int × Bool × Int × Int × Bool × Unit) (x3 : Int) (x4 : Int) (k : Bool → Option α) : Option α :=
  (cond (decide ((x1.n : Int) > 30))
    (draymanlaw31_awake fun r5 =>
      (k r5))
    (keyed_Come x1 x2 x3 fun r6 r7 r8 r9 =>
      (cond (!(r8 != 0))
        (cond (!(decide (x4 < 1)))
          (cond (decide (x4 > 3))
            (draymanlaw31_awake fun r10 =>
              (k r10))
            (keyed_Come r9 x2 x4 fun r11 r12 r13 r14 =>
              (cond (r13 != 0)
                (k false)
                (cond (r6 == 2)
                  (draymanref31_Same r9 x1 fun r15 =>
                    (cond r15
                      (draymanlaw31_awake fun r16 =>
                        (k r16))
                      (k false)))
                  (cond (r11 == r6)
                    (cond (!r12)
                      (draymanref31_Same r9 r14 fun r17 =>
                        (cond r17
                          (draymanlaw31_awake fun r18 =>
                            (k r18))
                          (k false)))
                      (k false))
                    (k false))))))
          (draymanlaw31_awake fun r19 =>
            (k r19)))
        (draymanlaw31_awake fun r20 =>
          (k r20)))))

noncomputable def draymanlaw31_KeyedAgain {α : Type} : draymanlaw31_KeyedAgain_T α := draymanlaw31_KeyedAgain_g draymanlaw31_awake keyed_Come draymanref31_Same

noncomputable def draymanlaw31_KeyedAgain_sp {α : Type} (draymanlaw31_KeyedAgain : draymanlaw31_KeyedAgain_T α) : FunSpec α := ⟨11, [.sl (.int .i64 (.int .i64 (.int .i64 (.int .i64 (.int .i64 (.int .i64 (.nil))))))), .agg [.int .i64, .int .i64, .int .i64, .bool, .int .i64, .int .i64, .bool], .int .i64, .int .i64], [], fun ds k => draymanlaw31_KeyedAgain (hdQ (.int .i64 (.int .i64 (.int .i64 (.int .i64 (.int .i64 (.int .i64 (.nil))))))) ds) (hdI ds.tail, hdI ds.tail.tail, hdI ds.tail.tail.tail, hdB ds.tail.tail.tail.tail, hdI ds.tail.tail.tail.tail.tail, hdI ds.tail.tail.tail.tail.tail.tail, hdB ds.tail.tail.tail.tail.tail.tail.tail, ()) (hdI ds.tail.tail.tail.tail.tail.tail.tail.tail) (hdI ds.tail.tail.tail.tail.tail.tail.tail.tail.tail) (fun r1 => k (enc dep (.bool) [.b r1]).1 [])⟩

noncomputable def draymanlaw31_KeyedAgain_spec {α : Type} : FunSpec α := draymanlaw31_KeyedAgain_sp draymanlaw31_KeyedAgain

noncomputable def draymanlaw31_KeyedAgain_C {α : Type} (draymanlaw31_awake : draymanlaw31_awake_T α) (keyed_Come : keyed_Come_T α) (draymanref31_Same : draymanref31_Same_T α) : List (FunSpec α) := [draymanlaw31_awake_sp draymanlaw31_awake, keyed_Come_sp keyed_Come, draymanref31_Same_sp draymanref31_Same]

noncomputable def draymanlaw31_KeyedAgain_q : FuncId → Bool := fun f => Nat.beq f 69 || Nat.beq f 71

noncomputable def draymanlaw31_KeyedAgain_inl : FuncId → Bool := fun f => false

noncomputable def draymanlaw31_KeyedAgain_ann : FuncId → AnnT := fun f p => ⟨[], [], [], [], 0, [], []⟩

noncomputable def draymanlaw31_KeyedAgain_loops {α : Type} (draymanlaw31_awake : draymanlaw31_awake_T α) (keyed_Come : keyed_Come_T α) (draymanref31_Same : draymanref31_Same_T α) : List (LoopSpec α) := []

theorem draymanlaw31_KeyedAgain_ev {α : Type} (draymanlaw31_awake : draymanlaw31_awake_T α) (keyed_Come : keyed_Come_T α) (draymanref31_Same : draymanref31_Same_T α) : EvOk (α := α) Go.Proofs.Try.prog (envOf (draymanlaw31_KeyedAgain_C draymanlaw31_awake keyed_Come draymanref31_Same) draymanlaw31_KeyedAgain_q draymanlaw31_KeyedAgain_inl 1000 draymanlaw31_KeyedAgain_ann false (draymanlaw31_KeyedAgain_loops draymanlaw31_awake keyed_Come draymanref31_Same) (fun _ => none)) 6 (draymanlaw31_KeyedAgain_sp (draymanlaw31_KeyedAgain_g draymanlaw31_awake keyed_Come draymanref31_Same)) := by intro ds k; kernel_rfl

theorem draymanlaw31_KeyedAgain_ok {α : Type} : (draymanlaw31_KeyedAgain_spec : FunSpec α).ok Go.Proofs.Try.prog :=
  FunSpec.ok_of (sp := draymanlaw31_KeyedAgain_spec) (C := draymanlaw31_KeyedAgain_C draymanlaw31_awake keyed_Come draymanref31_Same) (q := draymanlaw31_KeyedAgain_q) (inl := draymanlaw31_KeyedAgain_inl) (N := 1000) (ann := draymanlaw31_KeyedAgain_ann) (fr := false) (D := 6) (l := (draymanlaw31_KeyedAgain_loops draymanlaw31_awake keyed_Come draymanref31_Same)) (hk := (fun _ => none)) (okCons draymanlaw31_awake_ok (okCons keyed_Come_ok (okCons draymanref31_Same_ok okNil))) lokNil noHooks (draymanlaw31_KeyedAgain_ev draymanlaw31_awake keyed_Come draymanref31_Same)

end
end Go.Rv.Try

set_option linter.unusedVariables false
set_option maxRecDepth 100000
set_option maxHeartbeats 4000000
namespace Go.Rv.Try
open Go Go.Rv Go.RowKit
noncomputable section

-- drayman/draymanref01.Fit

abbrev draymanref01_Fit_T (α : Type) : Type := Int → (Bool → Option α) → Option α

noncomputable def draymanref01_Fit {α : Type} (n1 : Int) (k : Bool → Option α) : Option α :=
  (cond (decide (n1 ≥ 0))
    (k (decide (n1 ≤ 1099511627776)))
    (k false))

noncomputable def draymanref01_Fit_sp {α : Type} (draymanref01_Fit : draymanref01_Fit_T α) : FunSpec α := ⟨97, [.int .i64], [], fun ds k => draymanref01_Fit (hdI ds) (fun r1 => k (enc dep (.bool) [.b r1]).1 [])⟩

noncomputable def draymanref01_Fit_spec {α : Type} : FunSpec α := draymanref01_Fit_sp draymanref01_Fit

noncomputable def draymanref01_Fit_C {α : Type} : List (FunSpec α) := []

noncomputable def draymanref01_Fit_q : FuncId → Bool := fun f => false

noncomputable def draymanref01_Fit_inl : FuncId → Bool := fun f => false

noncomputable def draymanref01_Fit_ann : FuncId → AnnT := fun f p => ⟨[], [], [], [], 0, [], []⟩

noncomputable def draymanref01_Fit_loops {α : Type} : List (LoopSpec α) := []

theorem draymanref01_Fit_ev {α : Type} : EvOk (α := α) Go.Proofs.Try.prog (envOf (draymanref01_Fit_C) draymanref01_Fit_q draymanref01_Fit_inl 1000 draymanref01_Fit_ann false (draymanref01_Fit_loops) (fun _ => none)) 6 (draymanref01_Fit_sp (draymanref01_Fit)) := by intro ds k; kernel_rfl

theorem draymanref01_Fit_ok {α : Type} : (draymanref01_Fit_spec : FunSpec α).ok Go.Proofs.Try.prog :=
  FunSpec.ok_of (sp := draymanref01_Fit_spec) (C := draymanref01_Fit_C) (q := draymanref01_Fit_q) (inl := draymanref01_Fit_inl) (N := 1000) (ann := draymanref01_Fit_ann) (fr := false) (D := 6) (l := (draymanref01_Fit_loops)) (hk := (fun _ => none)) okNil lokNil noHooks (draymanref01_Fit_ev)

end
end Go.Rv.Try

set_option linter.unusedVariables false
set_option maxRecDepth 100000
set_option maxHeartbeats 4000000
namespace Go.Rv.Try
open Go Go.Rv Go.RowKit
noncomputable section

-- drayman/draymanref31.One

abbrev draymanref31_One_T (α : Type) : Type := Z1 → (Bool → Option α) → Option α

noncomputable def draymanref31_One_g {α : Type} (draymanref01_Fit : draymanref01_Fit_T α) (x1 : Int × Int × Int × Int × Int × Int × Unit) (k : Bool → Option α) : Option α :=
  (cond (!(decide (x1.1 < 1)))
    (cond (!(decide (x1.1 > 1099511627776)))
      (cond (!(decide (x1.2.1 < 0)))
        (cond (!(decide (x1.2.1 ≥ 6)))
          (draymanref01_Fit x1.2.2.2.2.2.1 fun r2 =>
            (cond (!r2)
              (k false)
              (cond (x1.2.2.1 == 2)
                (cond (x1.2.2.2.1 == 1)
                  (k (x1.2.2.2.2.1 == 0))
                  (k false))
                (cond (x1.2.2.1 == 4)
                  (cond (x1.2.2.2.1 == 1)
                    (k (x1.2.2.2.2.1 == 1))
                    (k false))
                  (cond (x1.2.2.1 == 5)
                    (cond (x1.2.2.1 == 5)
                      (cond (x1.2.2.2.1 == 0)
                        (k (x1.2.2.2.2.1 == 0))
                        (k false))
                      (k false))
                    (cond (x1.2.2.1 == 3)
                      (cond (x1.2.2.2.1 == 0)
                        (k (x1.2.2.2.2.1 == 0))
                        (k false))
                      (k false)))))))
          (k false))
        (k false))
      (k false))
    (k false))

noncomputable def draymanref31_One {α : Type} : draymanref31_One_T α := draymanref31_One_g draymanref01_Fit

noncomputable def draymanref31_One_sp {α : Type} (draymanref31_One : draymanref31_One_T α) : FunSpec α := ⟨121, [.agg [.int .i64, .int .i64, .int .i64, .int .i64, .int .i64, .int .i64]], [], fun ds k => draymanref31_One (hdI ds, hdI ds.tail, hdI ds.tail.tail, hdI ds.tail.tail.tail, hdI ds.tail.tail.tail.tail, hdI ds.tail.tail.tail.tail.tail, ()) (fun r1 => k (enc dep (.bool) [.b r1]).1 [])⟩

noncomputable def draymanref31_One_spec {α : Type} : FunSpec α := draymanref31_One_sp draymanref31_One

noncomputable def draymanref31_One_C {α : Type} (draymanref01_Fit : draymanref01_Fit_T α) : List (FunSpec α) := [draymanref01_Fit_sp draymanref01_Fit]

noncomputable def draymanref31_One_q : FuncId → Bool := fun f => Nat.beq f 97

noncomputable def draymanref31_One_inl : FuncId → Bool := fun f => false

noncomputable def draymanref31_One_ann : FuncId → AnnT := fun f p => ⟨[], [], [], [], 0, [], []⟩

noncomputable def draymanref31_One_loops {α : Type} (draymanref01_Fit : draymanref01_Fit_T α) : List (LoopSpec α) := []

theorem draymanref31_One_ev {α : Type} (draymanref01_Fit : draymanref01_Fit_T α) : EvOk (α := α) Go.Proofs.Try.prog (envOf (draymanref31_One_C draymanref01_Fit) draymanref31_One_q draymanref31_One_inl 1000 draymanref31_One_ann false (draymanref31_One_loops draymanref01_Fit) (fun _ => none)) 6 (draymanref31_One_sp (draymanref31_One_g draymanref01_Fit)) := by intro ds k; kernel_rfl

theorem draymanref31_One_ok {α : Type} : (draymanref31_One_spec : FunSpec α).ok Go.Proofs.Try.prog :=
  FunSpec.ok_of (sp := draymanref31_One_spec) (C := draymanref31_One_C draymanref01_Fit) (q := draymanref31_One_q) (inl := draymanref31_One_inl) (N := 1000) (ann := draymanref31_One_ann) (fr := false) (D := 6) (l := (draymanref31_One_loops draymanref01_Fit)) (hk := (fun _ => none)) (okCons draymanref01_Fit_ok okNil) lokNil noHooks (draymanref31_One_ev draymanref01_Fit)

end
end Go.Rv.Try

set_option linter.unusedVariables false
set_option maxRecDepth 100000
set_option maxHeartbeats 4000000
namespace Go.Rv.Try
open Go Go.Rv Go.RowKit
noncomputable section

-- drayman/draymanref31.ahead

abbrev draymanref31_ahead_T (α : Type) : Type := Z1 → Z1 → (Bool → Option α) → Option α

noncomputable def draymanref31_ahead {α : Type} (a1 : Int × Int × Int × Int × Int × Int × Unit) (b2 : Int × Int × Int × Int × Int × Int × Unit) (k : Bool → Option α) : Option α :=
  (cond (!(decide (a1.1 < b2.1)))
    (cond (a1.1 == b2.1)
      (k (decide (a1.2.1 < b2.2.1)))
      (k false))
    (k true))

noncomputable def draymanref31_ahead_sp {α : Type} (draymanref31_ahead : draymanref31_ahead_T α) : FunSpec α := ⟨122, [.agg [.int .i64, .int .i64, .int .i64, .int .i64, .int .i64, .int .i64], .agg [.int .i64, .int .i64, .int .i64, .int .i64, .int .i64, .int .i64]], [], fun ds k => draymanref31_ahead (hdI ds, hdI ds.tail, hdI ds.tail.tail, hdI ds.tail.tail.tail, hdI ds.tail.tail.tail.tail, hdI ds.tail.tail.tail.tail.tail, ()) (hdI ds.tail.tail.tail.tail.tail.tail, hdI ds.tail.tail.tail.tail.tail.tail.tail, hdI ds.tail.tail.tail.tail.tail.tail.tail.tail, hdI ds.tail.tail.tail.tail.tail.tail.tail.tail.tail, hdI ds.tail.tail.tail.tail.tail.tail.tail.tail.tail.tail, hdI ds.tail.tail.tail.tail.tail.tail.tail.tail.tail.tail.tail, ()) (fun r1 => k (enc dep (.bool) [.b r1]).1 [])⟩

noncomputable def draymanref31_ahead_spec {α : Type} : FunSpec α := draymanref31_ahead_sp draymanref31_ahead

noncomputable def draymanref31_ahead_C {α : Type} : List (FunSpec α) := []

noncomputable def draymanref31_ahead_q : FuncId → Bool := fun f => false

noncomputable def draymanref31_ahead_inl : FuncId → Bool := fun f => false

noncomputable def draymanref31_ahead_ann : FuncId → AnnT := fun f p => ⟨[], [], [], [], 0, [], []⟩

noncomputable def draymanref31_ahead_loops {α : Type} : List (LoopSpec α) := []

theorem draymanref31_ahead_ev {α : Type} : EvOk (α := α) Go.Proofs.Try.prog (envOf (draymanref31_ahead_C) draymanref31_ahead_q draymanref31_ahead_inl 1000 draymanref31_ahead_ann false (draymanref31_ahead_loops) (fun _ => none)) 6 (draymanref31_ahead_sp (draymanref31_ahead)) := by intro ds k; kernel_rfl

theorem draymanref31_ahead_ok {α : Type} : (draymanref31_ahead_spec : FunSpec α).ok Go.Proofs.Try.prog :=
  FunSpec.ok_of (sp := draymanref31_ahead_spec) (C := draymanref31_ahead_C) (q := draymanref31_ahead_q) (inl := draymanref31_ahead_inl) (N := 1000) (ann := draymanref31_ahead_ann) (fr := false) (D := 6) (l := (draymanref31_ahead_loops)) (hk := (fun _ => none)) okNil lokNil noHooks (draymanref31_ahead_ev)

end
end Go.Rv.Try

set_option linter.unusedVariables false
set_option maxRecDepth 100000
set_option maxHeartbeats 4000000
namespace Go.Rv.Try
open Go Go.Rv Go.RowKit
noncomputable section

-- drayman/draymanref31.Fit

abbrev draymanref31_Fit_T (α : Type) : Type := (Seq Z1) → (Bool → Option α) → Option α

noncomputable def draymanref31_Fit_l0_step {α : Type} (draymanref31_One : draymanref31_One_T α) (draymanref31_ahead : draymanref31_ahead_T α) (kr : (Bool) → Option α) (k0 : Option α) (rec : (Seq Z1) → (Int) → Option α) (l2 : Seq Z1) (i3 : Int) : Option α :=
  (cond (decide (i3 < (l2.n : Int)))
    (cond (((decide ((0 : Int) ≤ i3)) && (decide (i3 < (l2.n : Int)))) && ((decide ((0 : Int) ≤ i3)) && (decide (i3 < (l2.n : Int)))))
      (draymanref31_One (l2.g i3.toNat) fun r4 =>
        (cond (!(!r4))
          (cond (decide (i3 > 0))
            (cond (((decide ((0 : Int) ≤ (IntKind.i64.wrap (i3 - 1)))) && (decide ((IntKind.i64.wrap (i3 - 1)) < (l2.n : Int)))) && ((decide ((0 : Int) ≤ (IntKind.i64.wrap (i3 - 1)))) && (decide ((IntKind.i64.wrap (i3 - 1)) < (l2.n : Int)))))
              (cond (((decide ((0 : Int) ≤ i3)) && (decide (i3 < (l2.n : Int)))) && ((decide ((0 : Int) ≤ i3)) && (decide (i3 < (l2.n : Int)))))
                (draymanref31_ahead (l2.g (IntKind.i64.wrap (i3 - 1)).toNat) (l2.g i3.toNat) fun r5 =>
                  (cond (!r5)
                    (kr false)
                    (rec l2 (IntKind.i64.wrap (i3 + 1)))))
                none)
              none)
            (rec l2 (IntKind.i64.wrap (i3 + 1))))
          (kr false)))
      none)
    (k0))

noncomputable def draymanref31_Fit_l0_run {α : Type} (draymanref31_One : draymanref31_One_T α) (draymanref31_ahead : draymanref31_ahead_T α) (kr : (Bool) → Option α) (k0 : Option α) : Nat → (Seq Z1) → (Int) → Option α
  | 0, _, _ => none
  | n + 1, l2, i3 => draymanref31_Fit_l0_step draymanref31_One draymanref31_ahead kr k0 (fun l2 i3 => draymanref31_Fit_l0_run draymanref31_One draymanref31_ahead kr k0 n l2 i3) l2 i3

noncomputable def draymanref31_Fit_g {α : Type} (draymanref31_One : draymanref31_One_T α) (draymanref31_ahead : draymanref31_ahead_T α) (l1 : Seq Z1) (k : Bool → Option α) : Option α :=
  (draymanref31_Fit_l0_run draymanref31_One draymanref31_ahead
    (fun x6 =>
      (k x6))
    ((k true))
    1000 l1 0)

noncomputable def draymanref31_Fit {α : Type} : draymanref31_Fit_T α := draymanref31_Fit_g draymanref31_One draymanref31_ahead

noncomputable def draymanref31_Fit_sp {α : Type} (draymanref31_Fit : draymanref31_Fit_T α) : FunSpec α := ⟨78, [.sl (.int .i64 (.int .i64 (.int .i64 (.int .i64 (.int .i64 (.int .i64 (.nil)))))))], [], fun ds k => draymanref31_Fit (hdQ (.int .i64 (.int .i64 (.int .i64 (.int .i64 (.int .i64 (.int .i64 (.nil))))))) ds) (fun r1 => k (enc dep (.bool) [.b r1]).1 [])⟩

noncomputable def draymanref31_Fit_spec {α : Type} : FunSpec α := draymanref31_Fit_sp draymanref31_Fit

noncomputable def draymanref31_Fit_C {α : Type} (draymanref31_One : draymanref31_One_T α) (draymanref31_ahead : draymanref31_ahead_T α) : List (FunSpec α) := [draymanref31_One_sp draymanref31_One, draymanref31_ahead_sp draymanref31_ahead]

noncomputable def draymanref31_Fit_q : FuncId → Bool := fun f => Nat.beq f 121 || Nat.beq f 122

noncomputable def draymanref31_Fit_inl : FuncId → Bool := fun f => false

noncomputable def draymanref31_Fit_ann : FuncId → AnnT := fun f p => if f = 78 then (if p = [true, false, true] then ⟨[0, 3], [], [], [2], 0, [], []⟩ else ⟨[], [], [], [], 0, [], []⟩) else ⟨[], [], [], [], 0, [], []⟩

noncomputable def draymanref31_Fit_l0_t : List Sh := [.sl (.int .i64 (.int .i64 (.int .i64 (.int .i64 (.int .i64 (.int .i64 (.nil))))))), .dead, .dead, .int .i64, .dead, .dead, .dead, .dead, .dead, .dead, .dead, .dead, .dead, .dead, .dead, .dead, .dead, .dead, .dead, .dead, .dead, .dead, .dead, .dead, .dead, .dead, .dead, .dead, .dead, .dead, .dead, .dead, .dead]
noncomputable def draymanref31_Fit_l0_s : List (List Sh) := []
noncomputable def draymanref31_Fit_l0_h : List BSh := []

noncomputable def draymanref31_Fit_l0_spec {α : Type} (draymanref31_One : draymanref31_One_T α) (draymanref31_ahead : draymanref31_ahead_T α) : LoopSpec α := ⟨6, 78, [true, false, true], draymanref31_Fit_l0_t, draymanref31_Fit_l0_s, draymanref31_Fit_l0_h, fun ds k => draymanref31_Fit_l0_run draymanref31_One draymanref31_ahead (fun y1 => k .ret (encSt [.dead, .dead, .bool, .dead, .dead, .dead, .dead, .dead, .dead, .dead, .dead, .dead, .dead, .dead, .dead, .dead, .dead, .dead, .dead, .dead, .dead, .dead, .dead, .dead, .dead, .dead, .dead, .dead, .dead, .dead, .dead, .dead, .dead] [] [] [.b y1])) (k (.exit 0) (encSt [.dead, .dead, .dead, .dead, .dead, .dead, .dead, .dead, .dead, .dead, .dead, .dead, .dead, .dead, .dead, .dead, .dead, .dead, .dead, .dead, .dead, .dead, .dead, .dead, .dead, .dead, .dead, .dead, .dead, .dead, .dead, .dead, .dead] [] [] [])) 1000 (hdQ (.int .i64 (.int .i64 (.int .i64 (.int .i64 (.int .i64 (.int .i64 (.nil))))))) ds) (hdI ds.tail)⟩

noncomputable def draymanref31_Fit_loops {α : Type} (draymanref31_One : draymanref31_One_T α) (draymanref31_ahead : draymanref31_ahead_T α) : List (LoopSpec α) := [draymanref31_Fit_l0_spec draymanref31_One draymanref31_ahead]

noncomputable def draymanref31_Fit_l0_ev {α : Type} (draymanref31_One : draymanref31_One_T α) (draymanref31_ahead : draymanref31_ahead_T α) (n : Nat) (st : St) (k : X → St → Option α) : Option α := loopN (evCode Go.Proofs.Try.prog (callD Go.Proofs.Try.prog (envOf (draymanref31_Fit_C draymanref31_One draymanref31_ahead) draymanref31_Fit_q draymanref31_Fit_inl 1000 draymanref31_Fit_ann false (draymanref31_Fit_loops draymanref31_One draymanref31_ahead) (fun _ => none)) 6) (((envOf (draymanref31_Fit_C draymanref31_One draymanref31_ahead) draymanref31_Fit_q draymanref31_Fit_inl 1000 draymanref31_Fit_ann false (draymanref31_Fit_loops draymanref31_One draymanref31_ahead) (fun _ => none)) : Env α).L 6 78) 1000 (draymanref31_Fit_ann 78) (false :: [true, false, true]) (loopC Go.Proofs.Try.prog 78 [true, false, true])) ((draymanref31_Fit_ann 78 [true, false, true]).head 0) ((draymanref31_Fit_ann 78 [true, false, true]).leave 0) n st k

theorem draymanref31_Fit_l0_eq {α : Type} (draymanref31_One : draymanref31_One_T α) (draymanref31_ahead : draymanref31_ahead_T α) : ∀ (n : Nat) (l2 : Seq Z1) (i3 : Int) (k : X → St → Option α), draymanref31_Fit_l0_ev draymanref31_One draymanref31_ahead n (encSt draymanref31_Fit_l0_t draymanref31_Fit_l0_s draymanref31_Fit_l0_h [.q (.int .i64 (.int .i64 (.int .i64 (.int .i64 (.int .i64 (.int .i64 (.nil))))))) l2, .i i3]) k = draymanref31_Fit_l0_run draymanref31_One draymanref31_ahead (fun y1 => k .ret (encSt [.dead, .dead, .bool, .dead, .dead, .dead, .dead, .dead, .dead, .dead, .dead, .dead, .dead, .dead, .dead, .dead, .dead, .dead, .dead, .dead, .dead, .dead, .dead, .dead, .dead, .dead, .dead, .dead, .dead, .dead, .dead, .dead, .dead] [] [] [.b y1])) (k (.exit 0) (encSt [.dead, .dead, .dead, .dead, .dead, .dead, .dead, .dead, .dead, .dead, .dead, .dead, .dead, .dead, .dead, .dead, .dead, .dead, .dead, .dead, .dead, .dead, .dead, .dead, .dead, .dead, .dead, .dead, .dead, .dead, .dead, .dead, .dead] [] [] [])) n l2 i3 := by
  intro n
  induction n with
  | zero => intros; kernel_rfl
  | succ n ih =>
    intro l2 i3 k
    have e : (fun (l2 : Seq Z1) (i3 : Int) => draymanref31_Fit_l0_ev draymanref31_One draymanref31_ahead n (encSt draymanref31_Fit_l0_t draymanref31_Fit_l0_s draymanref31_Fit_l0_h [.q (.int .i64 (.int .i64 (.int .i64 (.int .i64 (.int .i64 (.int .i64 (.nil))))))) l2, .i i3]) k) = (fun (l2 : Seq Z1) (i3 : Int) => draymanref31_Fit_l0_run draymanref31_One draymanref31_ahead (fun y1 => k .ret (encSt [.dead, .dead, .bool, .dead, .dead, .dead, .dead, .dead, .dead, .dead, .dead, .dead, .dead, .dead, .dead, .dead, .dead, .dead, .dead, .dead, .dead, .dead, .dead, .dead, .dead, .dead, .dead, .dead, .dead, .dead, .dead, .dead, .dead] [] [] [.b y1])) (k (.exit 0) (encSt [.dead, .dead, .dead, .dead, .dead, .dead, .dead, .dead, .dead, .dead, .dead, .dead, .dead, .dead, .dead, .dead, .dead, .dead, .dead, .dead, .dead, .dead, .dead, .dead, .dead, .dead, .dead, .dead, .dead, .dead, .dead, .dead, .dead] [] [] [])) n l2 i3) := by
      funext l2 i3
      exact ih l2 i3 k
    have h1 : draymanref31_Fit_l0_ev draymanref31_One draymanref31_ahead (n + 1) (encSt draymanref31_Fit_l0_t draymanref31_Fit_l0_s draymanref31_Fit_l0_h [.q (.int .i64 (.int .i64 (.int .i64 (.int .i64 (.int .i64 (.int .i64 (.nil))))))) l2, .i i3]) k = draymanref31_Fit_l0_step draymanref31_One draymanref31_ahead (fun y1 => k .ret (encSt [.dead, .dead, .bool, .dead, .dead, .dead, .dead, .dead, .dead, .dead, .dead, .dead, .dead, .dead, .dead, .dead, .dead, .dead, .dead, .dead, .dead, .dead, .dead, .dead, .dead, .dead, .dead, .dead, .dead, .dead, .dead, .dead, .dead] [] [] [.b y1])) (k (.exit 0) (encSt [.dead, .dead, .dead, .dead, .dead, .dead, .dead, .dead, .dead, .dead, .dead, .dead, .dead, .dead, .dead, .dead, .dead, .dead, .dead, .dead, .dead, .dead, .dead, .dead, .dead, .dead, .dead, .dead, .dead, .dead, .dead, .dead, .dead] [] [] [])) (fun (l2 : Seq Z1) (i3 : Int) => draymanref31_Fit_l0_ev draymanref31_One draymanref31_ahead n (encSt draymanref31_Fit_l0_t draymanref31_Fit_l0_s draymanref31_Fit_l0_h [.q (.int .i64 (.int .i64 (.int .i64 (.int .i64 (.int .i64 (.int .i64 (.nil))))))) l2, .i i3]) k) l2 i3 := by kernel_rfl
    have h2 := congrArg (fun r => draymanref31_Fit_l0_step draymanref31_One draymanref31_ahead (fun y1 => k .ret (encSt [.dead, .dead, .bool, .dead, .dead, .dead, .dead, .dead, .dead, .dead, .dead, .dead, .dead, .dead, .dead, .dead, .dead, .dead, .dead, .dead, .dead, .dead, .dead, .dead, .dead, .dead, .dead, .dead, .dead, .dead, .dead, .dead, .dead] [] [] [.b y1])) (k (.exit 0) (encSt [.dead, .dead, .dead, .dead, .dead, .dead, .dead, .dead, .dead, .dead, .dead, .dead, .dead, .dead, .dead, .dead, .dead, .dead, .dead, .dead, .dead, .dead, .dead, .dead, .dead, .dead, .dead, .dead, .dead, .dead, .dead, .dead, .dead] [] [] [])) r l2 i3) e
    have h3 : draymanref31_Fit_l0_step draymanref31_One draymanref31_ahead (fun y1 => k .ret (encSt [.dead, .dead, .bool, .dead, .dead, .dead, .dead, .dead, .dead, .dead, .dead, .dead, .dead, .dead, .dead, .dead, .dead, .dead, .dead, .dead, .dead, .dead, .dead, .dead, .dead, .dead, .dead, .dead, .dead, .dead, .dead, .dead, .dead] [] [] [.b y1])) (k (.exit 0) (encSt [.dead, .dead, .dead, .dead, .dead, .dead, .dead, .dead, .dead, .dead, .dead, .dead, .dead, .dead, .dead, .dead, .dead, .dead, .dead, .dead, .dead, .dead, .dead, .dead, .dead, .dead, .dead, .dead, .dead, .dead, .dead, .dead, .dead] [] [] [])) (fun (l2 : Seq Z1) (i3 : Int) => draymanref31_Fit_l0_run draymanref31_One draymanref31_ahead (fun y1 => k .ret (encSt [.dead, .dead, .bool, .dead, .dead, .dead, .dead, .dead, .dead, .dead, .dead, .dead, .dead, .dead, .dead, .dead, .dead, .dead, .dead, .dead, .dead, .dead, .dead, .dead, .dead, .dead, .dead, .dead, .dead, .dead, .dead, .dead, .dead] [] [] [.b y1])) (k (.exit 0) (encSt [.dead, .dead, .dead, .dead, .dead, .dead, .dead, .dead, .dead, .dead, .dead, .dead, .dead, .dead, .dead, .dead, .dead, .dead, .dead, .dead, .dead, .dead, .dead, .dead, .dead, .dead, .dead, .dead, .dead, .dead, .dead, .dead, .dead] [] [] [])) n l2 i3) l2 i3 = draymanref31_Fit_l0_run draymanref31_One draymanref31_ahead (fun y1 => k .ret (encSt [.dead, .dead, .bool, .dead, .dead, .dead, .dead, .dead, .dead, .dead, .dead, .dead, .dead, .dead, .dead, .dead, .dead, .dead, .dead, .dead, .dead, .dead, .dead, .dead, .dead, .dead, .dead, .dead, .dead, .dead, .dead, .dead, .dead] [] [] [.b y1])) (k (.exit 0) (encSt [.dead, .dead, .dead, .dead, .dead, .dead, .dead, .dead, .dead, .dead, .dead, .dead, .dead, .dead, .dead, .dead, .dead, .dead, .dead, .dead, .dead, .dead, .dead, .dead, .dead, .dead, .dead, .dead, .dead, .dead, .dead, .dead, .dead] [] [] [])) (n + 1) l2 i3 := by kernel_rfl
    exact h1.trans (h2.trans h3)

theorem draymanref31_Fit_l0_ok {α : Type} (draymanref31_One : draymanref31_One_T α) (draymanref31_ahead : draymanref31_ahead_T α) : (draymanref31_Fit_l0_spec draymanref31_One draymanref31_ahead : LoopSpec α).ok Go.Proofs.Try.prog (envOf (draymanref31_Fit_C draymanref31_One draymanref31_ahead) draymanref31_Fit_q draymanref31_Fit_inl 1000 draymanref31_Fit_ann false (draymanref31_Fit_loops draymanref31_One draymanref31_ahead) (fun _ => none)) := by
  intro ds k
  have h1 : draymanref31_Fit_l0_ev draymanref31_One draymanref31_ahead 1000 (encSt draymanref31_Fit_l0_t draymanref31_Fit_l0_s draymanref31_Fit_l0_h ds) k = draymanref31_Fit_l0_ev draymanref31_One draymanref31_ahead 1000 (encSt draymanref31_Fit_l0_t draymanref31_Fit_l0_s draymanref31_Fit_l0_h [.q (.int .i64 (.int .i64 (.int .i64 (.int .i64 (.int .i64 (.int .i64 (.nil))))))) (hdQ (.int .i64 (.int .i64 (.int .i64 (.int .i64 (.int .i64 (.int .i64 (.nil))))))) ds), .i (hdI ds.tail)]) k := by kernel_rfl
  have h2 := draymanref31_Fit_l0_eq draymanref31_One draymanref31_ahead 1000 (hdQ (.int .i64 (.int .i64 (.int .i64 (.int .i64 (.int .i64 (.int .i64 (.nil))))))) ds) (hdI ds.tail) k
  exact h1.trans h2

theorem draymanref31_Fit_ev {α : Type} (draymanref31_One : draymanref31_One_T α) (draymanref31_ahead : draymanref31_ahead_T α) : EvOk (α := α) Go.Proofs.Try.prog (envOf (draymanref31_Fit_C draymanref31_One draymanref31_ahead) draymanref31_Fit_q draymanref31_Fit_inl 1000 draymanref31_Fit_ann false (draymanref31_Fit_loops draymanref31_One draymanref31_ahead) (fun _ => none)) 6 (draymanref31_Fit_sp (draymanref31_Fit_g draymanref31_One draymanref31_ahead)) := by intro ds k; kernel_rfl

theorem draymanref31_Fit_ok {α : Type} : (draymanref31_Fit_spec : FunSpec α).ok Go.Proofs.Try.prog :=
  FunSpec.ok_of (sp := draymanref31_Fit_spec) (C := draymanref31_Fit_C draymanref31_One draymanref31_ahead) (q := draymanref31_Fit_q) (inl := draymanref31_Fit_inl) (N := 1000) (ann := draymanref31_Fit_ann) (fr := false) (D := 6) (l := (draymanref31_Fit_loops draymanref31_One draymanref31_ahead)) (hk := (fun _ => none)) (okCons draymanref31_One_ok (okCons draymanref31_ahead_ok okNil)) (lokCons (draymanref31_Fit_l0_ok draymanref31_One draymanref31_ahead) lokNil) noHooks (draymanref31_Fit_ev draymanref31_One draymanref31_ahead)

end
end Go.Rv.Try

set_option linter.unusedVariables false
set_option maxRecDepth 100000
set_option maxHeartbeats 4000000
namespace Go.Rv.Try
open Go Go.Rv Go.RowKit
noncomputable section

-- drayman/draymanref17.Service

abbrev draymanref17_Service_T (α : Type) : Type := Int → (Int → Option α) → Option α

noncomputable def draymanref17_Service {α : Type} (op1 : Int) (k : Int → Option α) : Option α :=
  (cond (op1 == 2)
    (cond (op1 == 2)
      (k 1)
      (cond (op1 == 4)
        (k 2)
        (k 0)))
    (cond (op1 == 6)
      (k 1)
      (cond (op1 == 4)
        (k 2)
        (k 0))))

noncomputable def draymanref17_Service_sp {α : Type} (draymanref17_Service : draymanref17_Service_T α) : FunSpec α := ⟨87, [.int .i64], [], fun ds k => draymanref17_Service (hdI ds) (fun r1 => k (enc dep (.int .i64) [.i r1]).1 [])⟩

noncomputable def draymanref17_Service_spec {α : Type} : FunSpec α := draymanref17_Service_sp draymanref17_Service

noncomputable def draymanref17_Service_C {α : Type} : List (FunSpec α) := []

noncomputable def draymanref17_Service_q : FuncId → Bool := fun f => false

noncomputable def draymanref17_Service_inl : FuncId → Bool := fun f => false

noncomputable def draymanref17_Service_ann : FuncId → AnnT := fun f p => ⟨[], [], [], [], 0, [], []⟩

noncomputable def draymanref17_Service_loops {α : Type} : List (LoopSpec α) := []

theorem draymanref17_Service_ev {α : Type} : EvOk (α := α) Go.Proofs.Try.prog (envOf (draymanref17_Service_C) draymanref17_Service_q draymanref17_Service_inl 1000 draymanref17_Service_ann false (draymanref17_Service_loops) (fun _ => none)) 6 (draymanref17_Service_sp (draymanref17_Service)) := by intro ds k; kernel_rfl

theorem draymanref17_Service_ok {α : Type} : (draymanref17_Service_spec : FunSpec α).ok Go.Proofs.Try.prog :=
  FunSpec.ok_of (sp := draymanref17_Service_spec) (C := draymanref17_Service_C) (q := draymanref17_Service_q) (inl := draymanref17_Service_inl) (N := 1000) (ann := draymanref17_Service_ann) (fr := false) (D := 6) (l := (draymanref17_Service_loops)) (hk := (fun _ => none)) okNil lokNil noHooks (draymanref17_Service_ev)

end
end Go.Rv.Try

set_option linter.unusedVariables false
set_option maxRecDepth 100000
set_option maxHeartbeats 4000000
namespace Go.Rv.Try
open Go Go.Rv Go.RowKit
noncomputable section

-- drayman/draymanref17.One

abbrev draymanref17_One_T (α : Type) : Type := Z0 → (Bool → Option α) → Option α

noncomputable def draymanref17_One_g {α : Type} (draymanref17_Service : draymanref17_Service_T α) (draymanref01_Fit : draymanref01_Fit_T α) (x1 : Int × Int × Int × Bool × Int × Int × Bool × Unit) (k : Bool → Option α) : Option α :=
  (cond (decide (x1.1 ≥ 1))
    (cond (decide (x1.1 ≤ 1099511627776))
      (cond (decide (x1.2.1 ≥ 1))
        (cond (decide (x1.2.1 ≤ 1099511627776))
          (cond (decide (x1.2.2.1 ≥ 0))
            (cond (decide (x1.2.2.1 < 6))
              (draymanref17_Service x1.2.2.2.2.1 fun r2 =>
                (cond (r2 != 0)
                  (draymanref01_Fit x1.2.2.2.2.2.1 fun r3 =>
                    (k r3))
                  (k false)))
              (k false))
            (k false))
          (k false))
        (k false))
      (k false))
    (k false))

noncomputable def draymanref17_One {α : Type} : draymanref17_One_T α := draymanref17_One_g draymanref17_Service draymanref01_Fit

noncomputable def draymanref17_One_sp {α : Type} (draymanref17_One : draymanref17_One_T α) : FunSpec α := ⟨104, [.agg [.int .i64, .int .i64, .int .i64, .bool, .int .i64, .int .i64, .bool]], [], fun ds k => draymanref17_One (hdI ds, hdI ds.tail, hdI ds.tail.tail, hdB ds.tail.tail.tail, hdI ds.tail.tail.tail.tail, hdI ds.tail.tail.tail.tail.tail, hdB ds.tail.tail.tail.tail.tail.tail, ()) (fun r1 => k (enc dep (.bool) [.b r1]).1 [])⟩

noncomputable def draymanref17_One_spec {α : Type} : FunSpec α := draymanref17_One_sp draymanref17_One

noncomputable def draymanref17_One_C {α : Type} (draymanref17_Service : draymanref17_Service_T α) (draymanref01_Fit : draymanref01_Fit_T α) : List (FunSpec α) := [draymanref17_Service_sp draymanref17_Service, draymanref01_Fit_sp draymanref01_Fit]

noncomputable def draymanref17_One_q : FuncId → Bool := fun f => Nat.beq f 87 || Nat.beq f 97

noncomputable def draymanref17_One_inl : FuncId → Bool := fun f => false

noncomputable def draymanref17_One_ann : FuncId → AnnT := fun f p => ⟨[], [], [], [], 0, [], []⟩

noncomputable def draymanref17_One_loops {α : Type} (draymanref17_Service : draymanref17_Service_T α) (draymanref01_Fit : draymanref01_Fit_T α) : List (LoopSpec α) := []

theorem draymanref17_One_ev {α : Type} (draymanref17_Service : draymanref17_Service_T α) (draymanref01_Fit : draymanref01_Fit_T α) : EvOk (α := α) Go.Proofs.Try.prog (envOf (draymanref17_One_C draymanref17_Service draymanref01_Fit) draymanref17_One_q draymanref17_One_inl 1000 draymanref17_One_ann false (draymanref17_One_loops draymanref17_Service draymanref01_Fit) (fun _ => none)) 6 (draymanref17_One_sp (draymanref17_One_g draymanref17_Service draymanref01_Fit)) := by intro ds k; kernel_rfl

theorem draymanref17_One_ok {α : Type} : (draymanref17_One_spec : FunSpec α).ok Go.Proofs.Try.prog :=
  FunSpec.ok_of (sp := draymanref17_One_spec) (C := draymanref17_One_C draymanref17_Service draymanref01_Fit) (q := draymanref17_One_q) (inl := draymanref17_One_inl) (N := 1000) (ann := draymanref17_One_ann) (fr := false) (D := 6) (l := (draymanref17_One_loops draymanref17_Service draymanref01_Fit)) (hk := (fun _ => none)) (okCons draymanref17_Service_ok (okCons draymanref01_Fit_ok okNil)) lokNil noHooks (draymanref17_One_ev draymanref17_Service draymanref01_Fit)

end
end Go.Rv.Try

set_option linter.unusedVariables false
set_option maxRecDepth 100000
set_option maxHeartbeats 4000000
namespace Go.Rv.Try
open Go Go.Rv Go.RowKit
noncomputable section

-- drayman/draymanref31.Find

abbrev draymanref31_Find_T (α : Type) : Type := (Seq Z1) → Int → Int → (Z1 → Bool → Option α) → Option α

noncomputable def draymanref31_Find_l0_step {α : Type} (kr : (Bool) → Z1 → Option α) (k0 : Z1 → Option α) (rec : (Seq Z1) → (Int) → (Int) → (Int) → Z1 → Option α) (l4 : Seq Z1) (saga5 : Int) (step6 : Int) (i7 : Int) (x8 : Int × Int × Int × Int × Int × Int × Unit) : Option α :=
  (cond (decide (i7 < (l4.n : Int)))
    (cond ((decide ((0 : Int) ≤ i7)) && (decide (i7 < (l4.n : Int))))
      (cond ((l4.g i7.toNat).1 == saga5)
        (cond ((decide ((0 : Int) ≤ i7)) && (decide (i7 < (l4.n : Int))))
          (cond ((l4.g i7.toNat).2.1 == step6)
            (cond ((decide ((0 : Int) ≤ i7)) && (decide (i7 < (l4.n : Int))))
              (kr true (l4.g i7.toNat))
              none)
            (rec l4 saga5 step6 (IntKind.i64.wrap (i7 + 1)) x8))
          none)
        (rec l4 saga5 step6 (IntKind.i64.wrap (i7 + 1)) x8))
      none)
    (k0 x8))

noncomputable def draymanref31_Find_l0_run {α : Type} (kr : (Bool) → Z1 → Option α) (k0 : Z1 → Option α) : Nat → (Seq Z1) → (Int) → (Int) → (Int) → Z1 → Option α
  | 0, _, _, _, _, _ => none
  | n + 1, l4, saga5, step6, i7, x8 => draymanref31_Find_l0_step kr k0 (fun l4 saga5 step6 i7 x8 => draymanref31_Find_l0_run kr k0 n l4 saga5 step6 i7 x8) l4 saga5 step6 i7 x8

noncomputable def draymanref31_Find {α : Type} (l1 : Seq Z1) (saga2 : Int) (step3 : Int) (k : Z1 → Bool → Option α) : Option α :=
  (draymanref31_Find_l0_run
    (fun x9 x10 =>
      (k x10 x9))
    (fun x11 =>
      (k (0, 0, 0, 0, 0, 0, ()) false))
    1000 l1 saga2 step3 0 (0, 0, 0, 0, 0, 0, ()))

noncomputable def draymanref31_Find_sp {α : Type} (draymanref31_Find : draymanref31_Find_T α) : FunSpec α := ⟨74, [.sl (.int .i64 (.int .i64 (.int .i64 (.int .i64 (.int .i64 (.int .i64 (.nil))))))), .int .i64, .int .i64], [], fun ds k => draymanref31_Find (hdQ (.int .i64 (.int .i64 (.int .i64 (.int .i64 (.int .i64 (.int .i64 (.nil))))))) ds) (hdI ds.tail) (hdI ds.tail.tail) (fun r1 r2 => k (enc dep (.tup [.agg [.int .i64, .int .i64, .int .i64, .int .i64, .int .i64, .int .i64], .bool]) [.i r1.1, .i r1.2.1, .i r1.2.2.1, .i r1.2.2.2.1, .i r1.2.2.2.2.1, .i r1.2.2.2.2.2.1, .b r2]).1 [])⟩

noncomputable def draymanref31_Find_spec {α : Type} : FunSpec α := draymanref31_Find_sp draymanref31_Find

noncomputable def draymanref31_Find_C {α : Type} : List (FunSpec α) := []

noncomputable def draymanref31_Find_q : FuncId → Bool := fun f => false

noncomputable def draymanref31_Find_inl : FuncId → Bool := fun f => false

noncomputable def draymanref31_Find_ann : FuncId → AnnT := fun f p => if f = 74 then (if p = [true, false, true] then ⟨[0, 1, 2, 6, 8], [], [6], [6, 7], 0, [], []⟩ else ⟨[], [], [], [], 0, [], []⟩) else ⟨[], [], [], [], 0, [], []⟩

noncomputable def draymanref31_Find_l0_t : List Sh := [.sl (.int .i64 (.int .i64 (.int .i64 (.int .i64 (.int .i64 (.int .i64 (.nil))))))), .int .i64, .int .i64, .dead, .dead, .dead, .ref 0 0, .dead, .int .i64, .dead, .dead, .dead, .dead, .dead, .dead, .dead, .dead, .dead, .dead, .dead, .dead, .dead, .dead, .dead, .dead, .dead, .dead, .dead, .dead, .dead, .dead, .dead, .dead, .dead, .dead, .dead]
noncomputable def draymanref31_Find_l0_s : List (List Sh) := []
noncomputable def draymanref31_Find_l0_h : List BSh := [.box [.int .i64, .int .i64, .int .i64, .int .i64, .int .i64, .int .i64]]

noncomputable def draymanref31_Find_l0_spec {α : Type} : LoopSpec α := ⟨6, 74, [true, false, true], draymanref31_Find_l0_t, draymanref31_Find_l0_s, draymanref31_Find_l0_h, fun ds k => draymanref31_Find_l0_run (fun y1 y2 => k .ret (encSt [.dead, .dead, .dead, .dead, .dead, .dead, .ref 0 0, .bool, .dead, .dead, .dead, .dead, .dead, .dead, .dead, .dead, .dead, .dead, .dead, .dead, .dead, .dead, .dead, .dead, .dead, .dead, .dead, .dead, .dead, .dead, .dead, .dead, .dead, .dead, .dead, .dead] [] [.box [.int .i64, .int .i64, .int .i64, .int .i64, .int .i64, .int .i64]] [.b y1, .i y2.1, .i y2.2.1, .i y2.2.2.1, .i y2.2.2.2.1, .i y2.2.2.2.2.1, .i y2.2.2.2.2.2.1])) (fun y1 => k (.exit 0) (encSt [.dead, .dead, .dead, .dead, .dead, .dead, .ref 0 0, .dead, .dead, .dead, .dead, .dead, .dead, .dead, .dead, .dead, .dead, .dead, .dead, .dead, .dead, .dead, .dead, .dead, .dead, .dead, .dead, .dead, .dead, .dead, .dead, .dead, .dead, .dead, .dead, .dead] [] [.box [.int .i64, .int .i64, .int .i64, .int .i64, .int .i64, .int .i64]] [.i y1.1, .i y1.2.1, .i y1.2.2.1, .i y1.2.2.2.1, .i y1.2.2.2.2.1, .i y1.2.2.2.2.2.1])) 1000 (hdQ (.int .i64 (.int .i64 (.int .i64 (.int .i64 (.int .i64 (.int .i64 (.nil))))))) ds) (hdI ds.tail) (hdI ds.tail.tail) (hdI ds.tail.tail.tail) (hdI ds.tail.tail.tail.tail, hdI ds.tail.tail.tail.tail.tail, hdI ds.tail.tail.tail.tail.tail.tail, hdI ds.tail.tail.tail.tail.tail.tail.tail, hdI ds.tail.tail.tail.tail.tail.tail.tail.tail, hdI ds.tail.tail.tail.tail.tail.tail.tail.tail.tail, ())⟩

noncomputable def draymanref31_Find_loops {α : Type} : List (LoopSpec α) := [draymanref31_Find_l0_spec]

noncomputable def draymanref31_Find_l0_ev {α : Type} (n : Nat) (st : St) (k : X → St → Option α) : Option α := loopN (evCode Go.Proofs.Try.prog (callD Go.Proofs.Try.prog (envOf (draymanref31_Find_C) draymanref31_Find_q draymanref31_Find_inl 1000 draymanref31_Find_ann false (draymanref31_Find_loops) (fun _ => none)) 6) (((envOf (draymanref31_Find_C) draymanref31_Find_q draymanref31_Find_inl 1000 draymanref31_Find_ann false (draymanref31_Find_loops) (fun _ => none)) : Env α).L 6 74) 1000 (draymanref31_Find_ann 74) (false :: [true, false, true]) (loopC Go.Proofs.Try.prog 74 [true, false, true])) ((draymanref31_Find_ann 74 [true, false, true]).head 1) ((draymanref31_Find_ann 74 [true, false, true]).leave 1) n st k

theorem draymanref31_Find_l0_eq {α : Type} : ∀ (n : Nat) (l4 : Seq Z1) (saga5 : Int) (step6 : Int) (i7 : Int) (x8 : Int × Int × Int × Int × Int × Int × Unit) (k : X → St → Option α), draymanref31_Find_l0_ev n (encSt draymanref31_Find_l0_t draymanref31_Find_l0_s draymanref31_Find_l0_h [.q (.int .i64 (.int .i64 (.int .i64 (.int .i64 (.int .i64 (.int .i64 (.nil))))))) l4, .i saga5, .i step6, .i i7, .i x8.1, .i x8.2.1, .i x8.2.2.1, .i x8.2.2.2.1, .i x8.2.2.2.2.1, .i x8.2.2.2.2.2.1]) k = draymanref31_Find_l0_run (fun y1 y2 => k .ret (encSt [.dead, .dead, .dead, .dead, .dead, .dead, .ref 0 0, .bool, .dead, .dead, .dead, .dead, .dead, .dead, .dead, .dead, .dead, .dead, .dead, .dead, .dead, .dead, .dead, .dead, .dead, .dead, .dead, .dead, .dead, .dead, .dead, .dead, .dead, .dead, .dead, .dead] [] [.box [.int .i64, .int .i64, .int .i64, .int .i64, .int .i64, .int .i64]] [.b y1, .i y2.1, .i y2.2.1, .i y2.2.2.1, .i y2.2.2.2.1, .i y2.2.2.2.2.1, .i y2.2.2.2.2.2.1])) (fun y1 => k (.exit 0) (encSt [.dead, .dead, .dead, .dead, .dead, .dead, .ref 0 0, .dead, .dead, .dead, .dead, .dead, .dead, .dead, .dead, .dead, .dead, .dead, .dead, .dead, .dead, .dead, .dead, .dead, .dead, .dead, .dead, .dead, .dead, .dead, .dead, .dead, .dead, .dead, .dead, .dead] [] [.box [.int .i64, .int .i64, .int .i64, .int .i64, .int .i64, .int .i64]] [.i y1.1, .i y1.2.1, .i y1.2.2.1, .i y1.2.2.2.1, .i y1.2.2.2.2.1, .i y1.2.2.2.2.2.1])) n l4 saga5 step6 i7 x8 := by
  intro n
  induction n with
  | zero => intros; kernel_rfl
  | succ n ih =>
    intro l4 saga5 step6 i7 x8 k
    have e : (fun (l4 : Seq Z1) (saga5 : Int) (step6 : Int) (i7 : Int) (x8 : Int × Int × Int × Int × Int × Int × Unit) => draymanref31_Find_l0_ev n (encSt draymanref31_Find_l0_t draymanref31_Find_l0_s draymanref31_Find_l0_h [.q (.int .i64 (.int .i64 (.int .i64 (.int .i64 (.int .i64 (.int .i64 (.nil))))))) l4, .i saga5, .i step6, .i i7, .i x8.1, .i x8.2.1, .i x8.2.2.1, .i x8.2.2.2.1, .i x8.2.2.2.2.1, .i x8.2.2.2.2.2.1]) k) = (fun (l4 : Seq Z1) (saga5 : Int) (step6 : Int) (i7 : Int) (x8 : Int × Int × Int × Int × Int × Int × Unit) => draymanref31_Find_l0_run (fun y1 y2 => k .ret (encSt [.dead, .dead, .dead, .dead, .dead, .dead, .ref 0 0, .bool, .dead, .dead, .dead, .dead, .dead, .dead, .dead, .dead, .dead, .dead, .dead, .dead, .dead, .dead, .dead, .dead, .dead, .dead, .dead, .dead, .dead, .dead, .dead, .dead, .dead, .dead, .dead, .dead] [] [.box [.int .i64, .int .i64, .int .i64, .int .i64, .int .i64, .int .i64]] [.b y1, .i y2.1, .i y2.2.1, .i y2.2.2.1, .i y2.2.2.2.1, .i y2.2.2.2.2.1, .i y2.2.2.2.2.2.1])) (fun y1 => k (.exit 0) (encSt [.dead, .dead, .dead, .dead, .dead, .dead, .ref 0 0, .dead, .dead, .dead, .dead, .dead, .dead, .dead, .dead, .dead, .dead, .dead, .dead, .dead, .dead, .dead, .dead, .dead, .dead, .dead, .dead, .dead, .dead, .dead, .dead, .dead, .dead, .dead, .dead, .dead] [] [.box [.int .i64, .int .i64, .int .i64, .int .i64, .int .i64, .int .i64]] [.i y1.1, .i y1.2.1, .i y1.2.2.1, .i y1.2.2.2.1, .i y1.2.2.2.2.1, .i y1.2.2.2.2.2.1])) n l4 saga5 step6 i7 x8) := by
      funext l4 saga5 step6 i7 x8
      exact ih l4 saga5 step6 i7 x8 k
    have h1 : draymanref31_Find_l0_ev (n + 1) (encSt draymanref31_Find_l0_t draymanref31_Find_l0_s draymanref31_Find_l0_h [.q (.int .i64 (.int .i64 (.int .i64 (.int .i64 (.int .i64 (.int .i64 (.nil))))))) l4, .i saga5, .i step6, .i i7, .i x8.1, .i x8.2.1, .i x8.2.2.1, .i x8.2.2.2.1, .i x8.2.2.2.2.1, .i x8.2.2.2.2.2.1]) k = draymanref31_Find_l0_step (fun y1 y2 => k .ret (encSt [.dead, .dead, .dead, .dead, .dead, .dead, .ref 0 0, .bool, .dead, .dead, .dead, .dead, .dead, .dead, .dead, .dead, .dead, .dead, .dead, .dead, .dead, .dead, .dead, .dead, .dead, .dead, .dead, .dead, .dead, .dead, .dead, .dead, .dead, .dead, .dead, .dead] [] [.box [.int .i64, .int .i64, .int .i64, .int .i64, .int .i64, .int .i64]] [.b y1, .i y2.1, .i y2.2.1, .i y2.2.2.1, .i y2.2.2.2.1, .i y2.2.2.2.2.1, .i y2.2.2.2.2.2.1])) (fun y1 => k (.exit 0) (encSt [.dead, .dead, .dead, .dead, .dead, .dead, .ref 0 0, .dead, .dead, .dead, .dead, .dead, .dead, .dead, .dead, .dead, .dead, .dead, .dead, .dead, .dead, .dead, .dead, .dead, .dead, .dead, .dead, .dead, .dead, .dead, .dead, .dead, .dead, .dead, .dead, .dead] [] [.box [.int .i64, .int .i64, .int .i64, .int .i64, .int .i64, .int .i64]] [.i y1.1, .i y1.2.1, .i y1.2.2.1, .i y1.2.2.2.1, .i y1.2.2.2.2.1, .i y1.2.2.2.2.2.1])) (fun (l4 : Seq Z1) (saga5 : Int) (step6 : Int) (i7 : Int) (x8 : Int × Int × Int × Int × Int × Int × Unit) => draymanref31_Find_l0_ev n (encSt draymanref31_Find_l0_t draymanref31_Find_l0_s draymanref31_Find_l0_h [.q (.int .i64 (.int .i64 (.int .i64 (.int .i64 (.int .i64 (.int .i64 (.nil))))))) l4, .i saga5, .i step6, .i i7, .i x8.1, .i x8.2.1, .i x8.2.2.1, .i x8.2.2.2.1, .i x8.2.2.2.2.1, .i x8.2.2.2.2.2.1]) k) l4 saga5 step6 i7 x8 := by kernel_rfl
    have h2 := congrArg (fun r => draymanref31_Find_l0_step (fun y1 y2 => k .ret (encSt [.dead, .dead, .dead, .dead, .dead, .dead, .ref 0 0, .bool, .dead, .dead, .dead, .dead, .dead, .dead, .dead, .dead, .dead, .dead, .dead, .dead, .dead, .dead, .dead, .dead, .dead, .dead, .dead, .dead, .dead, .dead, .dead, .dead, .dead, .dead, .dead, .dead] [] [.box [.int .i64, .int .i64, .int .i64, .int .i64, .int .i64, .int .i64]] [.b y1, .i y2.1, .i y2.2.1, .i y2.2.2.1, .i y2.2.2.2.1, .i y2.2.2.2.2.1, .i y2.2.2.2.2.2.1])) (fun y1 => k (.exit 0) (encSt [.dead, .dead, .dead, .dead, .dead, .dead, .ref 0 0, .dead, .dead, .dead, .dead, .dead, .dead, .dead, .dead, .dead, .dead, .dead, .dead, .dead, .dead, .dead, .dead, .dead, .dead, .dead, .dead, .dead, .dead, .dead, .dead, .dead, .dead, .dead, .dead, .dead] [] [.box [.int .i64, .int .i64, .int .i64, .int .i64, .int .i64, .int .i64]] [.i y1.1, .i y1.2.1, .i y1.2.2.1, .i y1.2.2.2.1, .i y1.2.2.2.2.1, .i y1.2.2.2.2.2.1])) r l4 saga5 step6 i7 x8) e
    have h3 : draymanref31_Find_l0_step (fun y1 y2 => k .ret (encSt [.dead, .dead, .dead, .dead, .dead, .dead, .ref 0 0, .bool, .dead, .dead, .dead, .dead, .dead, .dead, .dead, .dead, .dead, .dead, .dead, .dead, .dead, .dead, .dead, .dead, .dead, .dead, .dead, .dead, .dead, .dead, .dead, .dead, .dead, .dead, .dead, .dead] [] [.box [.int .i64, .int .i64, .int .i64, .int .i64, .int .i64, .int .i64]] [.b y1, .i y2.1, .i y2.2.1, .i y2.2.2.1, .i y2.2.2.2.1, .i y2.2.2.2.2.1, .i y2.2.2.2.2.2.1])) (fun y1 => k (.exit 0) (encSt [.dead, .dead, .dead, .dead, .dead, .dead, .ref 0 0, .dead, .dead, .dead, .dead, .dead, .dead, .dead, .dead, .dead, .dead, .dead, .dead, .dead, .dead, .dead, .dead, .dead, .dead, .dead, .dead, .dead, .dead, .dead, .dead, .dead, .dead, .dead, .dead, .dead] [] [.box [.int .i64, .int .i64, .int .i64, .int .i64, .int .i64, .int .i64]] [.i y1.1, .i y1.2.1, .i y1.2.2.1, .i y1.2.2.2.1, .i y1.2.2.2.2.1, .i y1.2.2.2.2.2.1])) (fun (l4 : Seq Z1) (saga5 : Int) (step6 : Int) (i7 : Int) (x8 : Int × Int × Int × Int × Int × Int × Unit) => draymanref31_Find_l0_run (fun y1 y2 => k .ret (encSt [.dead, .dead, .dead, .dead, .dead, .dead, .ref 0 0, .bool, .dead, .dead, .dead, .dead, .dead, .dead, .dead, .dead, .dead, .dead, .dead, .dead, .dead, .dead, .dead, .dead, .dead, .dead, .dead, .dead, .dead, .dead, .dead, .dead, .dead, .dead, .dead, .dead] [] [.box [.int .i64, .int .i64, .int .i64, .int .i64, .int .i64, .int .i64]] [.b y1, .i y2.1, .i y2.2.1, .i y2.2.2.1, .i y2.2.2.2.1, .i y2.2.2.2.2.1, .i y2.2.2.2.2.2.1])) (fun y1 => k (.exit 0) (encSt [.dead, .dead, .dead, .dead, .dead, .dead, .ref 0 0, .dead, .dead, .dead, .dead, .dead, .dead, .dead, .dead, .dead, .dead, .dead, .dead, .dead, .dead, .dead, .dead, .dead, .dead, .dead, .dead, .dead, .dead, .dead, .dead, .dead, .dead, .dead, .dead, .dead] [] [.box [.int .i64, .int .i64, .int .i64, .int .i64, .int .i64, .int .i64]] [.i y1.1, .i y1.2.1, .i y1.2.2.1, .i y1.2.2.2.1, .i y1.2.2.2.2.1, .i y1.2.2.2.2.2.1])) n l4 saga5 step6 i7 x8) l4 saga5 step6 i7 x8 = draymanref31_Find_l0_run (fun y1 y2 => k .ret (encSt [.dead, .dead, .dead, .dead, .dead, .dead, .ref 0 0, .bool, .dead, .dead, .dead, .dead, .dead, .dead, .dead, .dead, .dead, .dead, .dead, .dead, .dead, .dead, .dead, .dead, .dead, .dead, .dead, .dead, .dead, .dead, .dead, .dead, .dead, .dead, .dead, .dead] [] [.box [.int .i64, .int .i64, .int .i64, .int .i64, .int .i64, .int .i64]] [.b y1, .i y2.1, .i y2.2.1, .i y2.2.2.1, .i y2.2.2.2.1, .i y2.2.2.2.2.1, .i y2.2.2.2.2.2.1])) (fun y1 => k (.exit 0) (encSt [.dead, .dead, .dead, .dead, .dead, .dead, .ref 0 0, .dead, .dead, .dead, .dead, .dead, .dead, .dead, .dead, .dead, .dead, .dead, .dead, .dead, .dead, .dead, .dead, .dead, .dead, .dead, .dead, .dead, .dead, .dead, .dead, .dead, .dead, .dead, .dead, .dead] [] [.box [.int .i64, .int .i64, .int .i64, .int .i64, .int .i64, .int .i64]] [.i y1.1, .i y1.2.1, .i y1.2.2.1, .i y1.2.2.2.1, .i y1.2.2.2.2.1, .i y1.2.2.2.2.2.1])) (n + 1) l4 saga5 step6 i7 x8 := by kernel_rfl
    exact h1.trans (h2.trans h3)

theorem draymanref31_Find_l0_ok {α : Type} : (draymanref31_Find_l0_spec : LoopSpec α).ok Go.Proofs.Try.prog (envOf (draymanref31_Find_C) draymanref31_Find_q draymanref31_Find_inl 1000 draymanref31_Find_ann false (draymanref31_Find_loops) (fun _ => none)) := by
  intro ds k
  have h1 : draymanref31_Find_l0_ev 1000 (encSt draymanref31_Find_l0_t draymanref31_Find_l0_s draymanref31_Find_l0_h ds) k = draymanref31_Find_l0_ev 1000 (encSt draymanref31_Find_l0_t draymanref31_Find_l0_s draymanref31_Find_l0_h [.q (.int .i64 (.int .i64 (.int .i64 (.int .i64 (.int .i64 (.int .i64 (.nil))))))) (hdQ (.int .i64 (.int .i64 (.int .i64 (.int .i64 (.int .i64 (.int .i64 (.nil))))))) ds), .i (hdI ds.tail), .i (hdI ds.tail.tail), .i (hdI ds.tail.tail.tail), .i ((hdI ds.tail.tail.tail.tail, hdI ds.tail.tail.tail.tail.tail, hdI ds.tail.tail.tail.tail.tail.tail, hdI ds.tail.tail.tail.tail.tail.tail.tail, hdI ds.tail.tail.tail.tail.tail.tail.tail.tail, hdI ds.tail.tail.tail.tail.tail.tail.tail.tail.tail, ()).1), .i ((hdI ds.tail.tail.tail.tail, hdI ds.tail.tail.tail.tail.tail, hdI ds.tail.tail.tail.tail.tail.tail, hdI ds.tail.tail.tail.tail.tail.tail.tail, hdI ds.tail.tail.tail.tail.tail.tail.tail.tail, hdI ds.tail.tail.tail.tail.tail.tail.tail.tail.tail, ()).2.1), .i ((hdI ds.tail.tail.tail.tail, hdI ds.tail.tail.tail.tail.tail, hdI ds.tail.tail.tail.tail.tail.tail, hdI ds.tail.tail.tail.tail.tail.tail.tail, hdI ds.tail.tail.tail.tail.tail.tail.tail.tail, hdI ds.tail.tail.tail.tail.tail.tail.tail.tail.tail, ()).2.2.1), .i ((hdI ds.tail.tail.tail.tail, hdI ds.tail.tail.tail.tail.tail, hdI ds.tail.tail.tail.tail.tail.tail, hdI ds.tail.tail.tail.tail.tail.tail.tail, hdI ds.tail.tail.tail.tail.tail.tail.tail.tail, hdI ds.tail.tail.tail.tail.tail.tail.tail.tail.tail, ()).2.2.2.1), .i ((hdI ds.tail.tail.tail.tail, hdI ds.tail.tail.tail.tail.tail, hdI ds.tail.tail.tail.tail.tail.tail, hdI ds.tail.tail.tail.tail.tail.tail.tail, hdI ds.tail.tail.tail.tail.tail.tail.tail.tail, hdI ds.tail.tail.tail.tail.tail.tail.tail.tail.tail, ()).2.2.2.2.1), .i ((hdI ds.tail.tail.tail.tail, hdI ds.tail.tail.tail.tail.tail, hdI ds.tail.tail.tail.tail.tail.tail, hdI ds.tail.tail.tail.tail.tail.tail.tail, hdI ds.tail.tail.tail.tail.tail.tail.tail.tail, hdI ds.tail.tail.tail.tail.tail.tail.tail.tail.tail, ()).2.2.2.2.2.1)]) k := by kernel_rfl
  have h2 := draymanref31_Find_l0_eq 1000 (hdQ (.int .i64 (.int .i64 (.int .i64 (.int .i64 (.int .i64 (.int .i64 (.nil))))))) ds) (hdI ds.tail) (hdI ds.tail.tail) (hdI ds.tail.tail.tail) (hdI ds.tail.tail.tail.tail, hdI ds.tail.tail.tail.tail.tail, hdI ds.tail.tail.tail.tail.tail.tail, hdI ds.tail.tail.tail.tail.tail.tail.tail, hdI ds.tail.tail.tail.tail.tail.tail.tail.tail, hdI ds.tail.tail.tail.tail.tail.tail.tail.tail.tail, ()) k
  exact h1.trans h2

theorem draymanref31_Find_ev {α : Type} : EvOk (α := α) Go.Proofs.Try.prog (envOf (draymanref31_Find_C) draymanref31_Find_q draymanref31_Find_inl 1000 draymanref31_Find_ann false (draymanref31_Find_loops) (fun _ => none)) 6 (draymanref31_Find_sp (draymanref31_Find)) := by intro ds k; kernel_rfl

theorem draymanref31_Find_ok {α : Type} : (draymanref31_Find_spec : FunSpec α).ok Go.Proofs.Try.prog :=
  FunSpec.ok_of (sp := draymanref31_Find_spec) (C := draymanref31_Find_C) (q := draymanref31_Find_q) (inl := draymanref31_Find_inl) (N := 1000) (ann := draymanref31_Find_ann) (fr := false) (D := 6) (l := (draymanref31_Find_loops)) (hk := (fun _ => none)) okNil (lokCons (draymanref31_Find_l0_ok) lokNil) noHooks (draymanref31_Find_ev)

end
end Go.Rv.Try

set_option linter.unusedVariables false
set_option maxRecDepth 100000
set_option maxHeartbeats 4000000
namespace Go.Rv.Try
open Go Go.Rv Go.RowKit
noncomputable section

-- drayman/draymanref31.with

abbrev draymanref31_with_T (α : Type) : Type := (Seq Z1) → Z1 → ((Seq Z1) → Option α) → Option α

noncomputable def draymanref31_with_l0_step {α : Type} (draymanref31_ahead : draymanref31_ahead_T α) (k0 : (Bool) → Z1 → (Seq Z1) → (Seq Z1) → Option α) (rec : (Seq Z1) → (Bool) → (Int) → Z1 → (Seq Z1) → (Seq Z1) → Option α) (l3 : Seq Z1) (done4 : Bool) (i5 : Int) (x6 : Int × Int × Int × Int × Int × Int × Unit) (q7 : Seq Z1) (q8 : Seq Z1) : Option α :=
  (cond (decide (i5 < (l3.n : Int)))
    (cond (!done4)
      (cond ((decide ((0 : Int) ≤ i5)) && (decide (i5 < (l3.n : Int))))
        (draymanref31_ahead (l3.g i5.toNat) x6 fun r9 =>
          (cond (!r9)
            (cond (decide (((q8.n + 1)) * 48 ≤ 140737488355328))
              (cond ((decide ((0 : Int) ≤ i5)) && (decide (i5 < (l3.n : Int))))
                (draymanref31_ahead (l3.g i5.toNat) x6 fun r10 =>
                  (cond (!r10)
                    (cond ((decide ((0 : Int) ≤ i5)) && (decide (i5 < (l3.n : Int))))
                      (draymanref31_ahead x6 (l3.g i5.toNat) fun r11 =>
                        (cond r11
                          (cond ((decide ((0 : Int) ≤ i5)) && (decide (i5 < (l3.n : Int))))
                            (cond (decide ((((q8.n + 1) + 1)) * 48 ≤ 140737488355328))
                              (rec l3 true (IntKind.i64.wrap (i5 + 1)) x6 q7 (⟨((q8.nl && false) && false), ((q8.n + 1) + 1), (tApp (q8.n + 1) (tApp q8.n q8.g (fun _ => x6)) (fun _ => (l3.g i5.toNat)))⟩ : Seq Z1))
                              none)
                            none)
                          (rec l3 true (IntKind.i64.wrap (i5 + 1)) x6 q7 (⟨(q8.nl && false), (q8.n + 1), (tApp q8.n q8.g (fun _ => x6))⟩ : Seq Z1))))
                      none)
                    (cond ((decide ((0 : Int) ≤ i5)) && (decide (i5 < (l3.n : Int))))
                      (cond (decide ((((q8.n + 1) + 1)) * 48 ≤ 140737488355328))
                        (rec l3 true (IntKind.i64.wrap (i5 + 1)) x6 q7 (⟨((q8.nl && false) && false), ((q8.n + 1) + 1), (tApp (q8.n + 1) (tApp q8.n q8.g (fun _ => x6)) (fun _ => (l3.g i5.toNat)))⟩ : Seq Z1))
                        none)
                      none)))
                none)
              none)
            (cond ((decide ((0 : Int) ≤ i5)) && (decide (i5 < (l3.n : Int))))
              (draymanref31_ahead (l3.g i5.toNat) x6 fun r12 =>
                (cond (!r12)
                  (cond ((decide ((0 : Int) ≤ i5)) && (decide (i5 < (l3.n : Int))))
                    (draymanref31_ahead x6 (l3.g i5.toNat) fun r13 =>
                      (cond r13
                        (cond ((decide ((0 : Int) ≤ i5)) && (decide (i5 < (l3.n : Int))))
                          (cond (decide (((q8.n + 1)) * 48 ≤ 140737488355328))
                            (rec l3 done4 (IntKind.i64.wrap (i5 + 1)) x6 q7 (⟨(q8.nl && false), (q8.n + 1), (tApp q8.n q8.g (fun _ => (l3.g i5.toNat)))⟩ : Seq Z1))
                            none)
                          none)
                        (rec l3 done4 (IntKind.i64.wrap (i5 + 1)) x6 q7 q8)))
                    none)
                  (cond ((decide ((0 : Int) ≤ i5)) && (decide (i5 < (l3.n : Int))))
                    (cond (decide (((q8.n + 1)) * 48 ≤ 140737488355328))
                      (rec l3 done4 (IntKind.i64.wrap (i5 + 1)) x6 q7 (⟨(q8.nl && false), (q8.n + 1), (tApp q8.n q8.g (fun _ => (l3.g i5.toNat)))⟩ : Seq Z1))
                      none)
                    none)))
              none)))
        none)
      (cond ((decide ((0 : Int) ≤ i5)) && (decide (i5 < (l3.n : Int))))
        (draymanref31_ahead (l3.g i5.toNat) x6 fun r14 =>
          (cond (!r14)
            (cond ((decide ((0 : Int) ≤ i5)) && (decide (i5 < (l3.n : Int))))
              (draymanref31_ahead x6 (l3.g i5.toNat) fun r15 =>
                (cond r15
                  (cond ((decide ((0 : Int) ≤ i5)) && (decide (i5 < (l3.n : Int))))
                    (cond (decide (((q8.n + 1)) * 48 ≤ 140737488355328))
                      (rec l3 done4 (IntKind.i64.wrap (i5 + 1)) x6 q7 (⟨(q8.nl && false), (q8.n + 1), (tApp q8.n q8.g (fun _ => (l3.g i5.toNat)))⟩ : Seq Z1))
                      none)
                    none)
                  (rec l3 done4 (IntKind.i64.wrap (i5 + 1)) x6 q7 q8)))
              none)
            (cond ((decide ((0 : Int) ≤ i5)) && (decide (i5 < (l3.n : Int))))
              (cond (decide (((q8.n + 1)) * 48 ≤ 140737488355328))
                (rec l3 done4 (IntKind.i64.wrap (i5 + 1)) x6 q7 (⟨(q8.nl && false), (q8.n + 1), (tApp q8.n q8.g (fun _ => (l3.g i5.toNat)))⟩ : Seq Z1))
                none)
              none)))
        none))
    (k0 done4 x6 q7 q8))

noncomputable def draymanref31_with_l0_run {α : Type} (draymanref31_ahead : draymanref31_ahead_T α) (k0 : (Bool) → Z1 → (Seq Z1) → (Seq Z1) → Option α) : Nat → (Seq Z1) → (Bool) → (Int) → Z1 → (Seq Z1) → (Seq Z1) → Option α
  | 0, _, _, _, _, _, _ => none
  | n + 1, l3, done4, i5, x6, q7, q8 => draymanref31_with_l0_step draymanref31_ahead k0 (fun l3 done4 i5 x6 q7 q8 => draymanref31_with_l0_run draymanref31_ahead k0 n l3 done4 i5 x6 q7 q8) l3 done4 i5 x6 q7 q8

noncomputable def draymanref31_with_g {α : Type} (draymanref31_ahead : draymanref31_ahead_T α) (l1 : Seq Z1) (x2 : Int × Int × Int × Int × Int × Int × Unit) (k : (Seq Z1) → Option α) : Option α :=
  (draymanref31_with_l0_run draymanref31_ahead
    (fun x16 x17 q18 q19 =>
      (cond (!x16)
        (cond (decide (((q19.n + 1)) * 48 ≤ 140737488355328))
          (k (⟨(q19.nl && false), (q19.n + 1), (tApp q19.n q19.g (fun _ => x17))⟩ : Seq Z1))
          none)
        (k q19)))
    1000 l1 false 0 x2 (⟨true, 0, (fun _ => (0, 0, 0, 0, 0, 0, ()))⟩ : Seq Z1) (⟨true, 0, (fun _ => (0, 0, 0, 0, 0, 0, ()))⟩ : Seq Z1))

noncomputable def draymanref31_with {α : Type} : draymanref31_with_T α := draymanref31_with_g draymanref31_ahead

noncomputable def draymanref31_with_sp {α : Type} (draymanref31_with : draymanref31_with_T α) : FunSpec α := ⟨140, [.sl (.int .i64 (.int .i64 (.int .i64 (.int .i64 (.int .i64 (.int .i64 (.nil))))))), .agg [.int .i64, .int .i64, .int .i64, .int .i64, .int .i64, .int .i64]], [], fun ds k => draymanref31_with (hdQ (.int .i64 (.int .i64 (.int .i64 (.int .i64 (.int .i64 (.int .i64 (.nil))))))) ds) (hdI ds.tail, hdI ds.tail.tail, hdI ds.tail.tail.tail, hdI ds.tail.tail.tail.tail, hdI ds.tail.tail.tail.tail.tail, hdI ds.tail.tail.tail.tail.tail.tail, ()) (fun q1 => k (enc dep (.own 0) []).1 (encBs [.row true (.int .i64 (.int .i64 (.int .i64 (.int .i64 (.int .i64 (.int .i64 (.nil)))))))] [.q (.int .i64 (.int .i64 (.int .i64 (.int .i64 (.int .i64 (.int .i64 (.nil))))))) q1]).1)⟩

noncomputable def draymanref31_with_spec {α : Type} : FunSpec α := draymanref31_with_sp draymanref31_with

noncomputable def draymanref31_with_C {α : Type} (draymanref31_ahead : draymanref31_ahead_T α) : List (FunSpec α) := [draymanref31_ahead_sp draymanref31_ahead]

noncomputable def draymanref31_with_q : FuncId → Bool := fun f => Nat.beq f 122

noncomputable def draymanref31_with_inl : FuncId → Bool := fun f => false

noncomputable def draymanref31_with_ann : FuncId → AnnT := fun f p => if f = 140 then (if p = [true, false, true, true, true] then ⟨[0, 3, 5, 6, 7], [1, 2], [3, 5, 6], [4], 0, [], []⟩ else if p = [false, true, false, true, false, true, false, true, true, true] then ⟨[], [], [], [], 2, [], []⟩ else if p = [false, false, false, true, false, true, false, true, true, true] then ⟨[], [], [], [], 2, [], []⟩ else ⟨[], [], [], [], 0, [], []⟩) else ⟨[], [], [], [], 0, [], []⟩

noncomputable def draymanref31_with_l0_t : List Sh := [.sl (.int .i64 (.int .i64 (.int .i64 (.int .i64 (.int .i64 (.int .i64 (.nil))))))), .dead, .dead, .ref 0 0, .dead, .own 2, .bool, .int .i64, .dead, .dead, .dead, .dead, .dead, .dead, .dead, .dead, .dead, .dead, .dead, .dead, .dead, .dead, .dead, .dead, .dead, .dead, .dead, .dead, .dead, .dead, .dead, .dead, .dead, .dead, .dead, .dead, .dead, .dead, .dead, .dead, .dead, .dead, .dead, .dead, .dead, .dead, .dead, .dead, .dead, .dead, .dead, .dead, .dead, .dead, .dead, .dead, .dead]
noncomputable def draymanref31_with_l0_s : List (List Sh) := []
noncomputable def draymanref31_with_l0_h : List BSh := [.box [.int .i64, .int .i64, .int .i64, .int .i64, .int .i64, .int .i64], .row true (.int .i64 (.int .i64 (.int .i64 (.int .i64 (.int .i64 (.int .i64 (.nil))))))), .row true (.int .i64 (.int .i64 (.int .i64 (.int .i64 (.int .i64 (.int .i64 (.nil)))))))]

noncomputable def draymanref31_with_l0_spec {α : Type} (draymanref31_ahead : draymanref31_ahead_T α) : LoopSpec α := ⟨6, 140, [true, false, true, true, true], draymanref31_with_l0_t, draymanref31_with_l0_s, draymanref31_with_l0_h, fun ds k => draymanref31_with_l0_run draymanref31_ahead (fun y1 y2 y3 y4 => k (.exit 0) (encSt [.dead, .dead, .dead, .ref 0 0, .dead, .own 2, .bool, .dead, .dead, .dead, .dead, .dead, .dead, .dead, .dead, .dead, .dead, .dead, .dead, .dead, .dead, .dead, .dead, .dead, .dead, .dead, .dead, .dead, .dead, .dead, .dead, .dead, .dead, .dead, .dead, .dead, .dead, .dead, .dead, .dead, .dead, .dead, .dead, .dead, .dead, .dead, .dead, .dead, .dead, .dead, .dead, .dead, .dead, .dead, .dead, .dead, .dead] [] [.box [.int .i64, .int .i64, .int .i64, .int .i64, .int .i64, .int .i64], .row true (.int .i64 (.int .i64 (.int .i64 (.int .i64 (.int .i64 (.int .i64 (.nil))))))), .row true (.int .i64 (.int .i64 (.int .i64 (.int .i64 (.int .i64 (.int .i64 (.nil)))))))] [.b y1, .i y2.1, .i y2.2.1, .i y2.2.2.1, .i y2.2.2.2.1, .i y2.2.2.2.2.1, .i y2.2.2.2.2.2.1, .q (.int .i64 (.int .i64 (.int .i64 (.int .i64 (.int .i64 (.int .i64 (.nil))))))) y3, .q (.int .i64 (.int .i64 (.int .i64 (.int .i64 (.int .i64 (.int .i64 (.nil))))))) y4])) 1000 (hdQ (.int .i64 (.int .i64 (.int .i64 (.int .i64 (.int .i64 (.int .i64 (.nil))))))) ds) (hdB ds.tail) (hdI ds.tail.tail) (hdI ds.tail.tail.tail, hdI ds.tail.tail.tail.tail, hdI ds.tail.tail.tail.tail.tail, hdI ds.tail.tail.tail.tail.tail.tail, hdI ds.tail.tail.tail.tail.tail.tail.tail, hdI ds.tail.tail.tail.tail.tail.tail.tail.tail, ()) (hdQ (.int .i64 (.int .i64 (.int .i64 (.int .i64 (.int .i64 (.int .i64 (.nil))))))) ds.tail.tail.tail.tail.tail.tail.tail.tail.tail) (hdQ (.int .i64 (.int .i64 (.int .i64 (.int .i64 (.int .i64 (.int .i64 (.nil))))))) ds.tail.tail.tail.tail.tail.tail.tail.tail.tail.tail)⟩

noncomputable def draymanref31_with_loops {α : Type} (draymanref31_ahead : draymanref31_ahead_T α) : List (LoopSpec α) := [draymanref31_with_l0_spec draymanref31_ahead]

noncomputable def draymanref31_with_l0_ev {α : Type} (draymanref31_ahead : draymanref31_ahead_T α) (n : Nat) (st : St) (k : X → St → Option α) : Option α := loopN (evCode Go.Proofs.Try.prog (callD Go.Proofs.Try.prog (envOf (draymanref31_with_C draymanref31_ahead) draymanref31_with_q draymanref31_with_inl 1000 draymanref31_with_ann false (draymanref31_with_loops draymanref31_ahead) (fun _ => none)) 6) (((envOf (draymanref31_with_C draymanref31_ahead) draymanref31_with_q draymanref31_with_inl 1000 draymanref31_with_ann false (draymanref31_with_loops draymanref31_ahead) (fun _ => none)) : Env α).L 6 140) 1000 (draymanref31_with_ann 140) (false :: [true, false, true, true, true]) (loopC Go.Proofs.Try.prog 140 [true, false, true, true, true])) ((draymanref31_with_ann 140 [true, false, true, true, true]).head 3) ((draymanref31_with_ann 140 [true, false, true, true, true]).leave 3) n st k

theorem draymanref31_with_l0_eq {α : Type} (draymanref31_ahead : draymanref31_ahead_T α) : ∀ (n : Nat) (l3 : Seq Z1) (done4 : Bool) (i5 : Int) (x6 : Int × Int × Int × Int × Int × Int × Unit) (q7 : Seq Z1) (q8 : Seq Z1) (k : X → St → Option α), draymanref31_with_l0_ev draymanref31_ahead n (encSt draymanref31_with_l0_t draymanref31_with_l0_s draymanref31_with_l0_h [.q (.int .i64 (.int .i64 (.int .i64 (.int .i64 (.int .i64 (.int .i64 (.nil))))))) l3, .b done4, .i i5, .i x6.1, .i x6.2.1, .i x6.2.2.1, .i x6.2.2.2.1, .i x6.2.2.2.2.1, .i x6.2.2.2.2.2.1, .q (.int .i64 (.int .i64 (.int .i64 (.int .i64 (.int .i64 (.int .i64 (.nil))))))) q7, .q (.int .i64 (.int .i64 (.int .i64 (.int .i64 (.int .i64 (.int .i64 (.nil))))))) q8]) k = draymanref31_with_l0_run draymanref31_ahead (fun y1 y2 y3 y4 => k (.exit 0) (encSt [.dead, .dead, .dead, .ref 0 0, .dead, .own 2, .bool, .dead, .dead, .dead, .dead, .dead, .dead, .dead, .dead, .dead, .dead, .dead, .dead, .dead, .dead, .dead, .dead, .dead, .dead, .dead, .dead, .dead, .dead, .dead, .dead, .dead, .dead, .dead, .dead, .dead, .dead, .dead, .dead, .dead, .dead, .dead, .dead, .dead, .dead, .dead, .dead, .dead, .dead, .dead, .dead, .dead, .dead, .dead, .dead, .dead, .dead] [] [.box [.int .i64, .int .i64, .int .i64, .int .i64, .int .i64, .int .i64], .row true (.int .i64 (.int .i64 (.int .i64 (.int .i64 (.int .i64 (.int .i64 (.nil))))))), .row true (.int .i64 (.int .i64 (.int .i64 (.int .i64 (.int .i64 (.int .i64 (.nil)))))))] [.b y1, .i y2.1, .i y2.2.1, .i y2.2.2.1, .i y2.2.2.2.1, .i y2.2.2.2.2.1, .i y2.2.2.2.2.2.1, .q (.int .i64 (.int .i64 (.int .i64 (.int .i64 (.int .i64 (.int .i64 (.nil))))))) y3, .q (.int .i64 (.int .i64 (.int .i64 (.int .i64 (.int .i64 (.int .i64 (.nil))))))) y4])) n l3 done4 i5 x6 q7 q8 := by
  intro n
  induction n with
  | zero => intros; kernel_rfl
  | succ n ih =>
    intro l3 done4 i5 x6 q7 q8 k
    have e : (fun (l3 : Seq Z1) (done4 : Bool) (i5 : Int) (x6 : Int × Int × Int × Int × Int × Int × Unit) (q7 : Seq Z1) (q8 : Seq Z1) => draymanref31_with_l0_ev draymanref31_ahead n (encSt draymanref31_with_l0_t draymanref31_with_l0_s draymanref31_with_l0_h [.q (.int .i64 (.int .i64 (.int .i64 (.int .i64 (.int .i64 (.int .i64 (.nil))))))) l3, .b done4, .i i5, .i x6.1, .i x6.2.1, .i x6.2.2.1, .i x6.2.2.2.1, .i x6.2.2.2.2.1, .i x6.2.2.2.2.2.1, .q (.int .i64 (.int .i64 (.int .i64 (.int .i64 (.int .i64 (.int .i64 (.nil))))))) q7, .q (.int .i64 (.int .i64 (.int .i64 (.int .i64 (.int .i64 (.int .i64 (.nil))))))) q8]) k) = (fun (l3 : Seq Z1) (done4 : Bool) (i5 : Int) (x6 : Int × Int × Int × Int × Int × Int × Unit) (q7 : Seq Z1) (q8 : Seq Z1) => draymanref31_with_l0_run draymanref31_ahead (fun y1 y2 y3 y4 => k (.exit 0) (encSt [.dead, .dead, .dead, .ref 0 0, .dead, .own 2, .bool, .dead, .dead, .dead, .dead, .dead, .dead, .dead, .dead, .dead, .dead, .dead, .dead, .dead, .dead, .dead, .dead, .dead, .dead, .dead, .dead, .dead, .dead, .dead, .dead, .dead, .dead, .dead, .dead, .dead, .dead, .dead, .dead, .dead, .dead, .dead, .dead, .dead, .dead, .dead, .dead, .dead, .dead, .dead, .dead, .dead, .dead, .dead, .dead, .dead, .dead] [] [.box [.int .i64, .int .i64, .int .i64, .int .i64, .int .i64, .int .i64], .row true (.int .i64 (.int .i64 (.int .i64 (.int .i64 (.int .i64 (.int .i64 (.nil))))))), .row true (.int .i64 (.int .i64 (.int .i64 (.int .i64 (.int .i64 (.int .i64 (.nil)))))))] [.b y1, .i y2.1, .i y2.2.1, .i y2.2.2.1, .i y2.2.2.2.1, .i y2.2.2.2.2.1, .i y2.2.2.2.2.2.1, .q (.int .i64 (.int .i64 (.int .i64 (.int .i64 (.int .i64 (.int .i64 (.nil))))))) y3, .q (.int .i64 (.int .i64 (.int .i64 (.int .i64 (.int .i64 (.int .i64 (.nil))))))) y4])) n l3 done4 i5 x6 q7 q8) := by
      funext l3 done4 i5 x6 q7 q8
      exact ih l3 done4 i5 x6 q7 q8 k
    have h1 : draymanref31_with_l0_ev draymanref31_ahead (n + 1) (encSt draymanref31_with_l0_t draymanref31_with_l0_s draymanref31_with_l0_h [.q (.int .i64 (.int .i64 (.int .i64 (.int .i64 (.int .i64 (.int .i64 (.nil))))))) l3, .b done4, .i i5, .i x6.1, .i x6.2.1, .i x6.2.2.1, .i x6.2.2.2.1, .i x6.2.2.2.2.1, .i x6.2.2.2.2.2.1, .q (.int .i64 (.int .i64 (.int .i64 (.int .i64 (.int .i64 (.int .i64 (.nil))))))) q7, .q (.int .i64 (.int .i64 (.int .i64 (.int .i64 (.int .i64 (.int .i64 (.nil))))))) q8]) k = draymanref31_with_l0_step draymanref31_ahead (fun y1 y2 y3 y4 => k (.exit 0) (encSt [.dead, .dead, .dead, .ref 0 0, .dead, .own 2, .bool, .dead, .dead, .dead, .dead, .dead, .dead, .dead, .dead, .dead, .dead, .dead, .dead, .dead, .dead, .dead, .dead, .dead, .dead, .dead, .dead, .dead, .dead, .dead, .dead, .dead, .dead, .dead, .dead, .dead, .dead, .dead, .dead, .dead, .dead, .dead, .dead, .dead, .dead, .dead, .dead, .dead, .dead, .dead, .dead, .dead, .dead, .dead, .dead, .dead, .dead] [] [.box [.int .i64, .int .i64, .int .i64, .int .i64, .int .i64, .int .i64], .row true (.int .i64 (.int .i64 (.int .i64 (.int .i64 (.int .i64 (.int .i64 (.nil))))))), .row true (.int .i64 (.int .i64 (.int .i64 (.int .i64 (.int .i64 (.int .i64 (.nil)))))))] [.b y1, .i y2.1, .i y2.2.1, .i y2.2.2.1, .i y2.2.2.2.1, .i y2.2.2.2.2.1, .i y2.2.2.2.2.2.1, .q (.int .i64 (.int .i64 (.int .i64 (.int .i64 (.int .i64 (.int .i64 (.nil))))))) y3, .q (.int .i64 (.int .i64 (.int .i64 (.int .i64 (.int .i64 (.int .i64 (.nil))))))) y4])) (fun (l3 : Seq Z1) (done4 : Bool) (i5 : Int) (x6 : Int × Int × Int × Int × Int × Int × Unit) (q7 : Seq Z1) (q8 : Seq Z1) => draymanref31_with_l0_ev draymanref31_ahead n (encSt draymanref31_with_l0_t draymanref31_with_l0_s draymanref31_with_l0_h [.q (.int .i64 (.int .i64 (.int .i64 (.int .i64 (.int .i64 (.int .i64 (.nil))))))) l3, .b done4, .i i5, .i x6.1, .i x6.2.1, .i x6.2.2.1, .i x6.2.2.2.1, .i x6.2.2.2.2.1, .i x6.2.2.2.2.2.1, .q (.int .i64 (.int .i64 (.int .i64 (.int .i64 (.int .i64 (.int .i64 (.nil))))))) q7, .q (.int .i64 (.int .i64 (.int .i64 (.int .i64 (.int .i64 (.int .i64 (.nil))))))) q8]) k) l3 done4 i5 x6 q7 q8 := by kernel_rfl
    have h2 := congrArg (fun r => draymanref31_with_l0_step draymanref31_ahead (fun y1 y2 y3 y4 => k (.exit 0) (encSt [.dead, .dead, .dead, .ref 0 0, .dead, .own 2, .bool, .dead, .dead, .dead, .dead, .dead, .dead, .dead, .dead, .dead, .dead, .dead, .dead, .dead, .dead, .dead, .dead, .dead, .dead, .dead, .dead, .dead, .dead, .dead, .dead, .dead, .dead, .dead, .dead, .dead, .dead, .dead, .dead, .dead, .dead, .dead, .dead, .dead, .dead, .dead, .dead, .dead, .dead, .dead, .dead, .dead, .dead, .dead, .dead, .dead, .dead] [] [.box [.int .i64, .int .i64, .int .i64, .int .i64, .int .i64, .int .i64], .row true (.int .i64 (.int .i64 (.int .i64 (.int .i64 (.int .i64 (.int .i64 (.nil))))))), .row true (.int .i64 (.int .i64 (.int .i64 (.int .i64 (.int .i64 (.int .i64 (.nil)))))))] [.b y1, .i y2.1, .i y2.2.1, .i y2.2.2.1, .i y2.2.2.2.1, .i y2.2.2.2.2.1, .i y2.2.2.2.2.2.1, .q (.int .i64 (.int .i64 (.int .i64 (.int .i64 (.int .i64 (.int .i64 (.nil))))))) y3, .q (.int .i64 (.int .i64 (.int .i64 (.int .i64 (.int .i64 (.int .i64 (.nil))))))) y4])) r l3 done4 i5 x6 q7 q8) e
    have h3 : draymanref31_with_l0_step draymanref31_ahead (fun y1 y2 y3 y4 => k (.exit 0) (encSt [.dead, .dead, .dead, .ref 0 0, .dead, .own 2, .bool, .dead, .dead, .dead, .dead, .dead, .dead, .dead, .dead, .dead, .dead, .dead, .dead, .dead, .dead, .dead, .dead, .dead, .dead, .dead, .dead, .dead, .dead, .dead, .dead, .dead, .dead, .dead, .dead, .dead, .dead, .dead, .dead, .dead, .dead, .dead, .dead, .dead, .dead, .dead, .dead, .dead, .dead, .dead, .dead, .dead, .dead, .dead, .dead, .dead, .dead] [] [.box [.int .i64, .int .i64, .int .i64, .int .i64, .int .i64, .int .i64], .row true (.int .i64 (.int .i64 (.int .i64 (.int .i64 (.int .i64 (.int .i64 (.nil))))))), .row true (.int .i64 (.int .i64 (.int .i64 (.int .i64 (.int .i64 (.int .i64 (.nil)))))))] [.b y1, .i y2.1, .i y2.2.1, .i y2.2.2.1, .i y2.2.2.2.1, .i y2.2.2.2.2.1, .i y2.2.2.2.2.2.1, .q (.int .i64 (.int .i64 (.int .i64 (.int .i64 (.int .i64 (.int .i64 (.nil))))))) y3, .q (.int .i64 (.int .i64 (.int .i64 (.int .i64 (.int .i64 (.int .i64 (.nil))))))) y4])) (fun (l3 : Seq Z1) (done4 : Bool) (i5 : Int) (x6 : Int × Int × Int × Int × Int × Int × Unit) (q7 : Seq Z1) (q8 : Seq Z1) => draymanref31_with_l0_run draymanref31_ahead (fun y1 y2 y3 y4 => k (.exit 0) (encSt [.dead, .dead, .dead, .ref 0 0, .dead, .own 2, .bool, .dead, .dead, .dead, .dead, .dead, .dead, .dead, .dead, .dead, .dead, .dead, .dead, .dead, .dead, .dead, .dead, .dead, .dead, .dead, .dead, .dead, .dead, .dead, .dead, .dead, .dead, .dead, .dead, .dead, .dead, .dead, .dead, .dead, .dead, .dead, .dead, .dead, .dead, .dead, .dead, .dead, .dead, .dead, .dead, .dead, .dead, .dead, .dead, .dead, .dead] [] [.box [.int .i64, .int .i64, .int .i64, .int .i64, .int .i64, .int .i64], .row true (.int .i64 (.int .i64 (.int .i64 (.int .i64 (.int .i64 (.int .i64 (.nil))))))), .row true (.int .i64 (.int .i64 (.int .i64 (.int .i64 (.int .i64 (.int .i64 (.nil)))))))] [.b y1, .i y2.1, .i y2.2.1, .i y2.2.2.1, .i y2.2.2.2.1, .i y2.2.2.2.2.1, .i y2.2.2.2.2.2.1, .q (.int .i64 (.int .i64 (.int .i64 (.int .i64 (.int .i64 (.int .i64 (.nil))))))) y3, .q (.int .i64 (.int .i64 (.int .i64 (.int .i64 (.int .i64 (.int .i64 (.nil))))))) y4])) n l3 done4 i5 x6 q7 q8) l3 done4 i5 x6 q7 q8 = draymanref31_with_l0_run draymanref31_ahead (fun y1 y2 y3 y4 => k (.exit 0) (encSt [.dead, .dead, .dead, .ref 0 0, .dead, .own 2, .bool, .dead, .dead, .dead, .dead, .dead, .dead, .dead, .dead, .dead, .dead, .dead, .dead, .dead, .dead, .dead, .dead, .dead, .dead, .dead, .dead, .dead, .dead, .dead, .dead, .dead, .dead, .dead, .dead, .dead, .dead, .dead, .dead, .dead, .dead, .dead, .dead, .dead, .dead, .dead, .dead, .dead, .dead, .dead, .dead, .dead, .dead, .dead, .dead, .dead, .dead] [] [.box [.int .i64, .int .i64, .int .i64, .int .i64, .int .i64, .int .i64], .row true (.int .i64 (.int .i64 (.int .i64 (.int .i64 (.int .i64 (.int .i64 (.nil))))))), .row true (.int .i64 (.int .i64 (.int .i64 (.int .i64 (.int .i64 (.int .i64 (.nil)))))))] [.b y1, .i y2.1, .i y2.2.1, .i y2.2.2.1, .i y2.2.2.2.1, .i y2.2.2.2.2.1, .i y2.2.2.2.2.2.1, .q (.int .i64 (.int .i64 (.int .i64 (.int .i64 (.int .i64 (.int .i64 (.nil))))))) y3, .q (.int .i64 (.int .i64 (.int .i64 (.int .i64 (.int .i64 (.int .i64 (.nil))))))) y4])) (n + 1) l3 done4 i5 x6 q7 q8 := by kernel_rfl
    exact h1.trans (h2.trans h3)

theorem draymanref31_with_l0_ok {α : Type} (draymanref31_ahead : draymanref31_ahead_T α) : (draymanref31_with_l0_spec draymanref31_ahead : LoopSpec α).ok Go.Proofs.Try.prog (envOf (draymanref31_with_C draymanref31_ahead) draymanref31_with_q draymanref31_with_inl 1000 draymanref31_with_ann false (draymanref31_with_loops draymanref31_ahead) (fun _ => none)) := by
  intro ds k
  have h1 : draymanref31_with_l0_ev draymanref31_ahead 1000 (encSt draymanref31_with_l0_t draymanref31_with_l0_s draymanref31_with_l0_h ds) k = draymanref31_with_l0_ev draymanref31_ahead 1000 (encSt draymanref31_with_l0_t draymanref31_with_l0_s draymanref31_with_l0_h [.q (.int .i64 (.int .i64 (.int .i64 (.int .i64 (.int .i64 (.int .i64 (.nil))))))) (hdQ (.int .i64 (.int .i64 (.int .i64 (.int .i64 (.int .i64 (.int .i64 (.nil))))))) ds), .b (hdB ds.tail), .i (hdI ds.tail.tail), .i ((hdI ds.tail.tail.tail, hdI ds.tail.tail.tail.tail, hdI ds.tail.tail.tail.tail.tail, hdI ds.tail.tail.tail.tail.tail.tail, hdI ds.tail.tail.tail.tail.tail.tail.tail, hdI ds.tail.tail.tail.tail.tail.tail.tail.tail, ()).1), .i ((hdI ds.tail.tail.tail, hdI ds.tail.tail.tail.tail, hdI ds.tail.tail.tail.tail.tail, hdI ds.tail.tail.tail.tail.tail.tail, hdI ds.tail.tail.tail.tail.tail.tail.tail, hdI ds.tail.tail.tail.tail.tail.tail.tail.tail, ()).2.1), .i ((hdI ds.tail.tail.tail, hdI ds.tail.tail.tail.tail, hdI ds.tail.tail.tail.tail.tail, hdI ds.tail.tail.tail.tail.tail.tail, hdI ds.tail.tail.tail.tail.tail.tail.tail, hdI ds.tail.tail.tail.tail.tail.tail.tail.tail, ()).2.2.1), .i ((hdI ds.tail.tail.tail, hdI ds.tail.tail.tail.tail, hdI ds.tail.tail.tail.tail.tail, hdI ds.tail.tail.tail.tail.tail.tail, hdI ds.tail.tail.tail.tail.tail.tail.tail, hdI ds.tail.tail.tail.tail.tail.tail.tail.tail, ()).2.2.2.1), .i ((hdI ds.tail.tail.tail, hdI ds.tail.tail.tail.tail, hdI ds.tail.tail.tail.tail.tail, hdI ds.tail.tail.tail.tail.tail.tail, hdI ds.tail.tail.tail.tail.tail.tail.tail, hdI ds.tail.tail.tail.tail.tail.tail.tail.tail, ()).2.2.2.2.1), .i ((hdI ds.tail.tail.tail, hdI ds.tail.tail.tail.tail, hdI ds.tail.tail.tail.tail.tail, hdI ds.tail.tail.tail.tail.tail.tail, hdI ds.tail.tail.tail.tail.tail.tail.tail, hdI ds.tail.tail.tail.tail.tail.tail.tail.tail, ()).2.2.2.2.2.1), .q (.int .i64 (.int .i64 (.int .i64 (.int .i64 (.int .i64 (.int .i64 (.nil))))))) (hdQ (.int .i64 (.int .i64 (.int .i64 (.int .i64 (.int .i64 (.int .i64 (.nil))))))) ds.tail.tail.tail.tail.tail.tail.tail.tail.tail), .q (.int .i64 (.int .i64 (.int .i64 (.int .i64 (.int .i64 (.int .i64 (.nil))))))) (hdQ (.int .i64 (.int .i64 (.int .i64 (.int .i64 (.int .i64 (.int .i64 (.nil))))))) ds.tail.tail.tail.tail.tail.tail.tail.tail.tail.tail)]) k := by kernel_rfl
  have h2 := draymanref31_with_l0_eq draymanref31_ahead 1000 (hdQ (.int .i64 (.int .i64 (.int .i64 (.int .i64 (.int .i64 (.int .i64 (.nil))))))) ds) (hdB ds.tail) (hdI ds.tail.tail) (hdI ds.tail.tail.tail, hdI ds.tail.tail.tail.tail, hdI ds.tail.tail.tail.tail.tail, hdI ds.tail.tail.tail.tail.tail.tail, hdI ds.tail.tail.tail.tail.tail.tail.tail, hdI ds.tail.tail.tail.tail.tail.tail.tail.tail, ()) (hdQ (.int .i64 (.int .i64 (.int .i64 (.int .i64 (.int .i64 (.int .i64 (.nil))))))) ds.tail.tail.tail.tail.tail.tail.tail.tail.tail) (hdQ (.int .i64 (.int .i64 (.int .i64 (.int .i64 (.int .i64 (.int .i64 (.nil))))))) ds.tail.tail.tail.tail.tail.tail.tail.tail.tail.tail) k
  exact h1.trans h2

theorem draymanref31_with_ev {α : Type} (draymanref31_ahead : draymanref31_ahead_T α) : EvOk (α := α) Go.Proofs.Try.prog (envOf (draymanref31_with_C draymanref31_ahead) draymanref31_with_q draymanref31_with_inl 1000 draymanref31_with_ann false (draymanref31_with_loops draymanref31_ahead) (fun _ => none)) 6 (draymanref31_with_sp (draymanref31_with_g draymanref31_ahead)) := by intro ds k; kernel_rfl

theorem draymanref31_with_ok {α : Type} : (draymanref31_with_spec : FunSpec α).ok Go.Proofs.Try.prog :=
  FunSpec.ok_of (sp := draymanref31_with_spec) (C := draymanref31_with_C draymanref31_ahead) (q := draymanref31_with_q) (inl := draymanref31_with_inl) (N := 1000) (ann := draymanref31_with_ann) (fr := false) (D := 6) (l := (draymanref31_with_loops draymanref31_ahead)) (hk := (fun _ => none)) (okCons draymanref31_ahead_ok okNil) (lokCons (draymanref31_with_l0_ok draymanref31_ahead) lokNil) noHooks (draymanref31_with_ev draymanref31_ahead)

end
end Go.Rv.Try

set_option linter.unusedVariables false
set_option maxRecDepth 100000
set_option maxHeartbeats 4000000
namespace Go.Rv.Try
open Go Go.Rv Go.RowKit
noncomputable section

-- drayman/draymanref31.back

abbrev draymanref31_back_T (α : Type) : Type := (Seq Z1) → Z1 → Bool → Z0 → Int → ((Seq Z1) → Int → Bool → Option α) → Option α

noncomputable def draymanref31_back_g {α : Type} (draymanref31_with : draymanref31_with_T α) (l1 : Seq Z1) (x2 : Int × Int × Int × Int × Int × Int × Unit) (is3 : Bool) (x4 : Int × Int × Int × Bool × Int × Int × Bool × Unit) (verdict5 : Int) (k : (Seq Z1) → Int → Bool → Option α) : Option α :=
  (cond is3
    (cond (x2.2.2.1 != 2)
      (k l1 1 false)
      (cond (verdict5 != 1)
        (k l1 2 false)
        (cond is3
          (draymanref31_with l1 (x2.1, x2.2.1, 4, x2.2.2.2.1, 1, x2.2.2.2.2.2.1, ()) fun r6 =>
            (k r6 1 true))
          (draymanref31_with l1 (x4.2.1, x4.2.2.1, 3, 0, 0, x4.2.2.2.2.2.1, ()) fun r7 =>
            (k r7 1 false)))))
    (cond (verdict5 != 1)
      (k l1 2 false)
      (cond is3
        (draymanref31_with l1 (x2.1, x2.2.1, 4, x2.2.2.2.1, 1, x2.2.2.2.2.2.1, ()) fun r8 =>
          (k r8 1 true))
        (draymanref31_with l1 (x4.2.1, x4.2.2.1, 3, 0, 0, x4.2.2.2.2.2.1, ()) fun r9 =>
          (k r9 1 false)))))

noncomputable def draymanref31_back {α : Type} : draymanref31_back_T α := draymanref31_back_g draymanref31_with

noncomputable def draymanref31_back_sp {α : Type} (draymanref31_back : draymanref31_back_T α) : FunSpec α := ⟨115, [.sl (.int .i64 (.int .i64 (.int .i64 (.int .i64 (.int .i64 (.int .i64 (.nil))))))), .agg [.int .i64, .int .i64, .int .i64, .int .i64, .int .i64, .int .i64], .bool, .agg [.int .i64, .int .i64, .int .i64, .bool, .int .i64, .int .i64, .bool], .int .i64], [], fun ds k => draymanref31_back (hdQ (.int .i64 (.int .i64 (.int .i64 (.int .i64 (.int .i64 (.int .i64 (.nil))))))) ds) (hdI ds.tail, hdI ds.tail.tail, hdI ds.tail.tail.tail, hdI ds.tail.tail.tail.tail, hdI ds.tail.tail.tail.tail.tail, hdI ds.tail.tail.tail.tail.tail.tail, ()) (hdB ds.tail.tail.tail.tail.tail.tail.tail) (hdI ds.tail.tail.tail.tail.tail.tail.tail.tail, hdI ds.tail.tail.tail.tail.tail.tail.tail.tail.tail, hdI ds.tail.tail.tail.tail.tail.tail.tail.tail.tail.tail, hdB ds.tail.tail.tail.tail.tail.tail.tail.tail.tail.tail.tail, hdI ds.tail.tail.tail.tail.tail.tail.tail.tail.tail.tail.tail.tail, hdI ds.tail.tail.tail.tail.tail.tail.tail.tail.tail.tail.tail.tail.tail, hdB ds.tail.tail.tail.tail.tail.tail.tail.tail.tail.tail.tail.tail.tail.tail, ()) (hdI ds.tail.tail.tail.tail.tail.tail.tail.tail.tail.tail.tail.tail.tail.tail.tail) (fun r1 r2 r3 => k (enc dep (.tup [.sl (.int .i64 (.int .i64 (.int .i64 (.int .i64 (.int .i64 (.int .i64 (.nil))))))), .int .i64, .bool]) [.q (.int .i64 (.int .i64 (.int .i64 (.int .i64 (.int .i64 (.int .i64 (.nil))))))) r1, .i r2, .b r3]).1 [])⟩

noncomputable def draymanref31_back_spec {α : Type} : FunSpec α := draymanref31_back_sp draymanref31_back

noncomputable def draymanref31_back_C {α : Type} (draymanref31_with : draymanref31_with_T α) : List (FunSpec α) := [draymanref31_with_sp draymanref31_with]

noncomputable def draymanref31_back_q : FuncId → Bool := fun f => false

noncomputable def draymanref31_back_inl : FuncId → Bool := fun f => false

noncomputable def draymanref31_back_ann : FuncId → AnnT := fun f p => ⟨[], [], [], [], 0, [], []⟩

noncomputable def draymanref31_back_loops {α : Type} (draymanref31_with : draymanref31_with_T α) : List (LoopSpec α) := []

theorem draymanref31_back_ev {α : Type} (draymanref31_with : draymanref31_with_T α) : EvOk (α := α) Go.Proofs.Try.prog (envOf (draymanref31_back_C draymanref31_with) draymanref31_back_q draymanref31_back_inl 1000 draymanref31_back_ann true (draymanref31_back_loops draymanref31_with) (fun _ => none)) 6 (draymanref31_back_sp (draymanref31_back_g draymanref31_with)) := by intro ds k; kernel_rfl

theorem draymanref31_back_ok {α : Type} : (draymanref31_back_spec : FunSpec α).ok Go.Proofs.Try.prog :=
  FunSpec.ok_of (sp := draymanref31_back_spec) (C := draymanref31_back_C draymanref31_with) (q := draymanref31_back_q) (inl := draymanref31_back_inl) (N := 1000) (ann := draymanref31_back_ann) (fr := true) (D := 6) (l := (draymanref31_back_loops draymanref31_with)) (hk := (fun _ => none)) (okCons draymanref31_with_ok okNil) lokNil noHooks (draymanref31_back_ev draymanref31_with)

end
end Go.Rv.Try

set_option linter.unusedVariables false
set_option maxRecDepth 100000
set_option maxHeartbeats 4000000
namespace Go.Rv.Try
open Go Go.Rv Go.RowKit
noncomputable section

-- drayman/draymanref31.there

abbrev draymanref31_there_T (α : Type) : Type := (Seq Z1) → Z1 → Bool → Z0 → Int → ((Seq Z1) → Int → Bool → Option α) → Option α

noncomputable def draymanref31_there_g {α : Type} (draymanref31_with : draymanref31_with_T α) (l1 : Seq Z1) (x2 : Int × Int × Int × Int × Int × Int × Unit) (is3 : Bool) (x4 : Int × Int × Int × Bool × Int × Int × Bool × Unit) (verdict5 : Int) (k : (Seq Z1) → Int → Bool → Option α) : Option α :=
  (cond is3
    (cond (x2.2.2.1 == 2)
      (k l1 1 false)
      (cond is3
        (k l1 3 false)
        (cond (verdict5 == 1)
          (draymanref31_with l1 (x4.2.1, x4.2.2.1, 2, 1, 0, x4.2.2.2.2.2.1, ()) fun r6 =>
            (k r6 1 true))
          (cond (verdict5 == 3)
            (cond (!x4.2.2.2.2.2.2.1)
              (draymanref31_with l1 (x4.2.1, x4.2.2.1, 5, 0, 0, x4.2.2.2.2.2.1, ()) fun r7 =>
                (k r7 3 false))
              (k l1 2 false))
            (k l1 2 false)))))
    (cond is3
      (k l1 3 false)
      (cond (verdict5 == 1)
        (draymanref31_with l1 (x4.2.1, x4.2.2.1, 2, 1, 0, x4.2.2.2.2.2.1, ()) fun r8 =>
          (k r8 1 true))
        (cond (verdict5 == 3)
          (cond (!x4.2.2.2.2.2.2.1)
            (draymanref31_with l1 (x4.2.1, x4.2.2.1, 5, 0, 0, x4.2.2.2.2.2.1, ()) fun r9 =>
              (k r9 3 false))
            (k l1 2 false))
          (k l1 2 false)))))

noncomputable def draymanref31_there {α : Type} : draymanref31_there_T α := draymanref31_there_g draymanref31_with

noncomputable def draymanref31_there_sp {α : Type} (draymanref31_there : draymanref31_there_T α) : FunSpec α := ⟨116, [.sl (.int .i64 (.int .i64 (.int .i64 (.int .i64 (.int .i64 (.int .i64 (.nil))))))), .agg [.int .i64, .int .i64, .int .i64, .int .i64, .int .i64, .int .i64], .bool, .agg [.int .i64, .int .i64, .int .i64, .bool, .int .i64, .int .i64, .bool], .int .i64], [], fun ds k => draymanref31_there (hdQ (.int .i64 (.int .i64 (.int .i64 (.int .i64 (.int .i64 (.int .i64 (.nil))))))) ds) (hdI ds.tail, hdI ds.tail.tail, hdI ds.tail.tail.tail, hdI ds.tail.tail.tail.tail, hdI ds.tail.tail.tail.tail.tail, hdI ds.tail.tail.tail.tail.tail.tail, ()) (hdB ds.tail.tail.tail.tail.tail.tail.tail) (hdI ds.tail.tail.tail.tail.tail.tail.tail.tail, hdI ds.tail.tail.tail.tail.tail.tail.tail.tail.tail, hdI ds.tail.tail.tail.tail.tail.tail.tail.tail.tail.tail, hdB ds.tail.tail.tail.tail.tail.tail.tail.tail.tail.tail.tail, hdI ds.tail.tail.tail.tail.tail.tail.tail.tail.tail.tail.tail.tail, hdI ds.tail.tail.tail.tail.tail.tail.tail.tail.tail.tail.tail.tail.tail, hdB ds.tail.tail.tail.tail.tail.tail.tail.tail.tail.tail.tail.tail.tail.tail, ()) (hdI ds.tail.tail.tail.tail.tail.tail.tail.tail.tail.tail.tail.tail.tail.tail.tail) (fun r1 r2 r3 => k (enc dep (.tup [.sl (.int .i64 (.int .i64 (.int .i64 (.int .i64 (.int .i64 (.int .i64 (.nil))))))), .int .i64, .bool]) [.q (.int .i64 (.int .i64 (.int .i64 (.int .i64 (.int .i64 (.int .i64 (.nil))))))) r1, .i r2, .b r3]).1 [])⟩

noncomputable def draymanref31_there_spec {α : Type} : FunSpec α := draymanref31_there_sp draymanref31_there

noncomputable def draymanref31_there_C {α : Type} (draymanref31_with : draymanref31_with_T α) : List (FunSpec α) := [draymanref31_with_sp draymanref31_with]

noncomputable def draymanref31_there_q : FuncId → Bool := fun f => false

noncomputable def draymanref31_there_inl : FuncId → Bool := fun f => false

noncomputable def draymanref31_there_ann : FuncId → AnnT := fun f p => ⟨[], [], [], [], 0, [], []⟩

noncomputable def draymanref31_there_loops {α : Type} (draymanref31_with : draymanref31_with_T α) : List (LoopSpec α) := []

theorem draymanref31_there_ev {α : Type} (draymanref31_with : draymanref31_with_T α) : EvOk (α := α) Go.Proofs.Try.prog (envOf (draymanref31_there_C draymanref31_with) draymanref31_there_q draymanref31_there_inl 1000 draymanref31_there_ann true (draymanref31_there_loops draymanref31_with) (fun _ => none)) 6 (draymanref31_there_sp (draymanref31_there_g draymanref31_with)) := by intro ds k; kernel_rfl

theorem draymanref31_there_ok {α : Type} : (draymanref31_there_spec : FunSpec α).ok Go.Proofs.Try.prog :=
  FunSpec.ok_of (sp := draymanref31_there_spec) (C := draymanref31_there_C draymanref31_with) (q := draymanref31_there_q) (inl := draymanref31_there_inl) (N := 1000) (ann := draymanref31_there_ann) (fr := true) (D := 6) (l := (draymanref31_there_loops draymanref31_with)) (hk := (fun _ => none)) (okCons draymanref31_with_ok okNil) lokNil noHooks (draymanref31_there_ev draymanref31_with)

end
end Go.Rv.Try

set_option linter.unusedVariables false
set_option maxRecDepth 100000
set_option maxHeartbeats 4000000
namespace Go.Rv.Try
open Go Go.Rv Go.RowKit
noncomputable section

-- drayman/draymanref31.Come

abbrev draymanref31_Come_T (α : Type) : Type := (Seq Z1) → Z0 → Int → ((Seq Z1) → Int → Bool → Int → Option α) → Option α

noncomputable def draymanref31_Come_g {α : Type} (draymanref31_Fit : draymanref31_Fit_T α) (draymanref17_One : draymanref17_One_T α) (draymanref31_Find : draymanref31_Find_T α) (draymanref31_back : draymanref31_back_T α) (draymanref31_there : draymanref31_there_T α) (x1 : Seq Z1) (x2 : Int × Int × Int × Bool × Int × Int × Bool × Unit) (x3 : Int) (k : (Seq Z1) → Int → Bool → Int → Option α) : Option α :=
  (draymanref31_Fit x1 fun r4 =>
    (cond (!r4)
      (k (⟨true, 0, (fun _ => (0, 0, 0, 0, 0, 0, ()))⟩ : Seq Z1) 0 false 12)
      (draymanref17_One x2 fun r5 =>
        (cond (!(!r5))
          (cond (!(decide (x3 < 1)))
            (cond (decide (x3 > 3))
              (k (⟨true, 0, (fun _ => (0, 0, 0, 0, 0, 0, ()))⟩ : Seq Z1) 0 false 1)
              (draymanref31_Find x1 x2.2.1 x2.2.2.1 fun r6 r7 =>
                (cond x2.2.2.2.1
                  (draymanref31_back x1 r6 r7 x2 x3 fun r8 r9 r10 =>
                    (k r8 r9 r10 0))
                  (draymanref31_there x1 r6 r7 x2 x3 fun r11 r12 r13 =>
                    (k r11 r12 r13 0)))))
            (k (⟨true, 0, (fun _ => (0, 0, 0, 0, 0, 0, ()))⟩ : Seq Z1) 0 false 1))
          (k (⟨true, 0, (fun _ => (0, 0, 0, 0, 0, 0, ()))⟩ : Seq Z1) 0 false 1)))))

noncomputable def draymanref31_Come {α : Type} : draymanref31_Come_T α := draymanref31_Come_g draymanref31_Fit draymanref17_One draymanref31_Find draymanref31_back draymanref31_there

noncomputable def draymanref31_Come_sp {α : Type} (draymanref31_Come : draymanref31_Come_T α) : FunSpec α := ⟨72, [.sl (.int .i64 (.int .i64 (.int .i64 (.int .i64 (.int .i64 (.int .i64 (.nil))))))), .agg [.int .i64, .int .i64, .int .i64, .bool, .int .i64, .int .i64, .bool], .int .i64], [], fun ds k => draymanref31_Come (hdQ (.int .i64 (.int .i64 (.int .i64 (.int .i64 (.int .i64 (.int .i64 (.nil))))))) ds) (hdI ds.tail, hdI ds.tail.tail, hdI ds.tail.tail.tail, hdB ds.tail.tail.tail.tail, hdI ds.tail.tail.tail.tail.tail, hdI ds.tail.tail.tail.tail.tail.tail, hdB ds.tail.tail.tail.tail.tail.tail.tail, ()) (hdI ds.tail.tail.tail.tail.tail.tail.tail.tail) (fun r1 r2 r3 r4 => k (enc dep (.tup [.sl (.int .i64 (.int .i64 (.int .i64 (.int .i64 (.int .i64 (.int .i64 (.nil))))))), .int .i64, .bool, .int .i64]) [.q (.int .i64 (.int .i64 (.int .i64 (.int .i64 (.int .i64 (.int .i64 (.nil))))))) r1, .i r2, .b r3, .i r4]).1 [])⟩

noncomputable def draymanref31_Come_spec {α : Type} : FunSpec α := draymanref31_Come_sp draymanref31_Come

noncomputable def draymanref31_Come_C {α : Type} (draymanref31_Fit : draymanref31_Fit_T α) (draymanref17_One : draymanref17_One_T α) (draymanref31_Find : draymanref31_Find_T α) (draymanref31_back : draymanref31_back_T α) (draymanref31_there : draymanref31_there_T α) : List (FunSpec α) := [draymanref31_Fit_sp draymanref31_Fit, draymanref17_One_sp draymanref17_One, draymanref31_Find_sp draymanref31_Find, draymanref31_back_sp draymanref31_back, draymanref31_there_sp draymanref31_there]

noncomputable def draymanref31_Come_q : FuncId → Bool := fun f => Nat.beq f 74 || Nat.beq f 78 || Nat.beq f 104

noncomputable def draymanref31_Come_inl : FuncId → Bool := fun f => false

noncomputable def draymanref31_Come_ann : FuncId → AnnT := fun f p => ⟨[], [], [], [], 0, [], []⟩

noncomputable def draymanref31_Come_loops {α : Type} (draymanref31_Fit : draymanref31_Fit_T α) (draymanref17_One : draymanref17_One_T α) (draymanref31_Find : draymanref31_Find_T α) (draymanref31_back : draymanref31_back_T α) (draymanref31_there : draymanref31_there_T α) : List (LoopSpec α) := []

theorem draymanref31_Come_ev {α : Type} (draymanref31_Fit : draymanref31_Fit_T α) (draymanref17_One : draymanref17_One_T α) (draymanref31_Find : draymanref31_Find_T α) (draymanref31_back : draymanref31_back_T α) (draymanref31_there : draymanref31_there_T α) : EvOk (α := α) Go.Proofs.Try.prog (envOf (draymanref31_Come_C draymanref31_Fit draymanref17_One draymanref31_Find draymanref31_back draymanref31_there) draymanref31_Come_q draymanref31_Come_inl 1000 draymanref31_Come_ann true (draymanref31_Come_loops draymanref31_Fit draymanref17_One draymanref31_Find draymanref31_back draymanref31_there) (fun _ => none)) 6 (draymanref31_Come_sp (draymanref31_Come_g draymanref31_Fit draymanref17_One draymanref31_Find draymanref31_back draymanref31_there)) := by intro ds k; kernel_rfl

theorem draymanref31_Come_ok {α : Type} : (draymanref31_Come_spec : FunSpec α).ok Go.Proofs.Try.prog :=
  FunSpec.ok_of (sp := draymanref31_Come_spec) (C := draymanref31_Come_C draymanref31_Fit draymanref17_One draymanref31_Find draymanref31_back draymanref31_there) (q := draymanref31_Come_q) (inl := draymanref31_Come_inl) (N := 1000) (ann := draymanref31_Come_ann) (fr := true) (D := 6) (l := (draymanref31_Come_loops draymanref31_Fit draymanref17_One draymanref31_Find draymanref31_back draymanref31_there)) (hk := (fun _ => none)) (okCons draymanref31_Fit_ok (okCons draymanref17_One_ok (okCons draymanref31_Find_ok (okCons draymanref31_back_ok (okCons draymanref31_there_ok okNil))))) lokNil noHooks (draymanref31_Come_ev draymanref31_Fit draymanref17_One draymanref31_Find draymanref31_back draymanref31_there)

end
end Go.Rv.Try

set_option linter.unusedVariables false
set_option maxRecDepth 100000
set_option maxHeartbeats 4000000
namespace Go.Rv.Try
open Go Go.Rv Go.RowKit
noncomputable section

-- drayman/keyed.Effects

abbrev keyed_Effects_T (α : Type) : Type := (Seq Z1) → (Int → Int → Option α) → Option α

noncomputable def keyed_Effects_l0_step {α : Type} (keyed_Fit : keyed_Fit_T α) (k0 : (Int) → (Int) → Option α) (rec : (Int) → (Int) → (Seq Z1) → (Int) → (Int) → Option α) (there3 : Int) (back4 : Int) (x5 : Seq Z1) (x6 : Int) (x7 : Int) : Option α :=
  (cond (decide (x7 < x6))
    (cond ((decide ((0 : Int) ≤ x7)) && (decide (x7 < (x5.n : Int))))
      (rec (IntKind.i64.wrap (there3 + (x5.g x7.toNat).2.2.2.1)) (IntKind.i64.wrap (back4 + (x5.g x7.toNat).2.2.2.2.1)) x5 x6 (IntKind.i64.wrap (x7 + 1)))
      none)
    (k0 there3 back4))

noncomputable def keyed_Effects_l0_run {α : Type} (keyed_Fit : keyed_Fit_T α) (k0 : (Int) → (Int) → Option α) : Nat → (Int) → (Int) → (Seq Z1) → (Int) → (Int) → Option α
  | 0, _, _, _, _, _ => none
  | n + 1, there3, back4, x5, x6, x7 => keyed_Effects_l0_step keyed_Fit k0 (fun there3 back4 x5 x6 x7 => keyed_Effects_l0_run keyed_Fit k0 n there3 back4 x5 x6 x7) there3 back4 x5 x6 x7

noncomputable def keyed_Effects_g {α : Type} (keyed_Fit : keyed_Fit_T α) (l1 : Seq Z1) (k : Int → Int → Option α) : Option α :=
  (keyed_Fit l1 fun r2 =>
    (cond r2
      (keyed_Effects_l0_run keyed_Fit
        (fun x8 x9 =>
          (k x8 x9))
        1000 0 0 l1 (l1.n : Int) 0)
      (k 0 0)))

noncomputable def keyed_Effects {α : Type} : keyed_Effects_T α := keyed_Effects_g keyed_Fit

noncomputable def keyed_Effects_sp {α : Type} (keyed_Effects : keyed_Effects_T α) : FunSpec α := ⟨75, [.sl (.int .i64 (.int .i64 (.int .i64 (.int .i64 (.int .i64 (.int .i64 (.nil)))))))], [], fun ds k => keyed_Effects (hdQ (.int .i64 (.int .i64 (.int .i64 (.int .i64 (.int .i64 (.int .i64 (.nil))))))) ds) (fun r1 r2 => k (enc dep (.tup [.int .i64, .int .i64]) [.i r1, .i r2]).1 [])⟩

noncomputable def keyed_Effects_spec {α : Type} : FunSpec α := keyed_Effects_sp keyed_Effects

noncomputable def keyed_Effects_C {α : Type} (keyed_Fit : keyed_Fit_T α) : List (FunSpec α) := [keyed_Fit_sp keyed_Fit]

noncomputable def keyed_Effects_q : FuncId → Bool := fun f => Nat.beq f 77

noncomputable def keyed_Effects_inl : FuncId → Bool := fun f => false

noncomputable def keyed_Effects_ann : FuncId → AnnT := fun f p => if f = 75 then (if p = [true, false, true, false, true, true] then ⟨[4, 5, 10, 11, 12], [], [4, 5], [2, 3], 0, [], []⟩ else ⟨[], [], [], [], 0, [], []⟩) else ⟨[], [], [], [], 0, [], []⟩

noncomputable def keyed_Effects_l0_t : List Sh := [.dead, .dead, .dead, .dead, .int .i64, .int .i64, .dead, .dead, .dead, .dead, .sl (.int .i64 (.int .i64 (.int .i64 (.int .i64 (.int .i64 (.int .i64 (.nil))))))), .int .i64, .int .i64, .dead, .dead, .dead, .dead, .dead, .dead, .dead, .dead, .dead, .dead, .dead, .dead, .dead, .dead]
noncomputable def keyed_Effects_l0_s : List (List Sh) := []
noncomputable def keyed_Effects_l0_h : List BSh := []

noncomputable def keyed_Effects_l0_spec {α : Type} (keyed_Fit : keyed_Fit_T α) : LoopSpec α := ⟨6, 75, [true, false, true, false, true, true], keyed_Effects_l0_t, keyed_Effects_l0_s, keyed_Effects_l0_h, fun ds k => keyed_Effects_l0_run keyed_Fit (fun y1 y2 => k (.exit 0) (encSt [.dead, .dead, .dead, .dead, .int .i64, .int .i64, .dead, .dead, .dead, .dead, .dead, .dead, .dead, .dead, .dead, .dead, .dead, .dead, .dead, .dead, .dead, .dead, .dead, .dead, .dead, .dead, .dead] [] [] [.i y1, .i y2])) 1000 (hdI ds) (hdI ds.tail) (hdQ (.int .i64 (.int .i64 (.int .i64 (.int .i64 (.int .i64 (.int .i64 (.nil))))))) ds.tail.tail) (hdI ds.tail.tail.tail) (hdI ds.tail.tail.tail.tail)⟩

noncomputable def keyed_Effects_loops {α : Type} (keyed_Fit : keyed_Fit_T α) : List (LoopSpec α) := [keyed_Effects_l0_spec keyed_Fit]

noncomputable def keyed_Effects_l0_ev {α : Type} (keyed_Fit : keyed_Fit_T α) (n : Nat) (st : St) (k : X → St → Option α) : Option α := loopN (evCode Go.Proofs.Try.prog (callD Go.Proofs.Try.prog (envOf (keyed_Effects_C keyed_Fit) keyed_Effects_q keyed_Effects_inl 1000 keyed_Effects_ann false (keyed_Effects_loops keyed_Fit) (fun _ => none)) 6) (((envOf (keyed_Effects_C keyed_Fit) keyed_Effects_q keyed_Effects_inl 1000 keyed_Effects_ann false (keyed_Effects_loops keyed_Fit) (fun _ => none)) : Env α).L 6 75) 1000 (keyed_Effects_ann 75) (false :: [true, false, true, false, true, true]) (loopC Go.Proofs.Try.prog 75 [true, false, true, false, true, true])) ((keyed_Effects_ann 75 [true, false, true, false, true, true]).head 0) ((keyed_Effects_ann 75 [true, false, true, false, true, true]).leave 0) n st k

theorem keyed_Effects_l0_eq {α : Type} (keyed_Fit : keyed_Fit_T α) : ∀ (n : Nat) (there3 : Int) (back4 : Int) (x5 : Seq Z1) (x6 : Int) (x7 : Int) (k : X → St → Option α), keyed_Effects_l0_ev keyed_Fit n (encSt keyed_Effects_l0_t keyed_Effects_l0_s keyed_Effects_l0_h [.i there3, .i back4, .q (.int .i64 (.int .i64 (.int .i64 (.int .i64 (.int .i64 (.int .i64 (.nil))))))) x5, .i x6, .i x7]) k = keyed_Effects_l0_run keyed_Fit (fun y1 y2 => k (.exit 0) (encSt [.dead, .dead, .dead, .dead, .int .i64, .int .i64, .dead, .dead, .dead, .dead, .dead, .dead, .dead, .dead, .dead, .dead, .dead, .dead, .dead, .dead, .dead, .dead, .dead, .dead, .dead, .dead, .dead] [] [] [.i y1, .i y2])) n there3 back4 x5 x6 x7 := by
  intro n
  induction n with
  | zero => intros; kernel_rfl
  | succ n ih =>
    intro there3 back4 x5 x6 x7 k
    have e : (fun (there3 : Int) (back4 : Int) (x5 : Seq Z1) (x6 : Int) (x7 : Int) => keyed_Effects_l0_ev keyed_Fit n (encSt keyed_Effects_l0_t keyed_Effects_l0_s keyed_Effects_l0_h [.i there3, .i back4, .q (.int .i64 (.int .i64 (.int .i64 (.int .i64 (.int .i64 (.int .i64 (.nil))))))) x5, .i x6, .i x7]) k) = (fun (there3 : Int) (back4 : Int) (x5 : Seq Z1) (x6 : Int) (x7 : Int) => keyed_Effects_l0_run keyed_Fit (fun y1 y2 => k (.exit 0) (encSt [.dead, .dead, .dead, .dead, .int .i64, .int .i64, .dead, .dead, .dead, .dead, .dead, .dead, .dead, .dead, .dead, .dead, .dead, .dead, .dead, .dead, .dead, .dead, .dead, .dead, .dead, .dead, .dead] [] [] [.i y1, .i y2])) n there3 back4 x5 x6 x7) := by
      funext there3 back4 x5 x6 x7
      exact ih there3 back4 x5 x6 x7 k
    have h1 : keyed_Effects_l0_ev keyed_Fit (n + 1) (encSt keyed_Effects_l0_t keyed_Effects_l0_s keyed_Effects_l0_h [.i there3, .i back4, .q (.int .i64 (.int .i64 (.int .i64 (.int .i64 (.int .i64 (.int .i64 (.nil))))))) x5, .i x6, .i x7]) k = keyed_Effects_l0_step keyed_Fit (fun y1 y2 => k (.exit 0) (encSt [.dead, .dead, .dead, .dead, .int .i64, .int .i64, .dead, .dead, .dead, .dead, .dead, .dead, .dead, .dead, .dead, .dead, .dead, .dead, .dead, .dead, .dead, .dead, .dead, .dead, .dead, .dead, .dead] [] [] [.i y1, .i y2])) (fun (there3 : Int) (back4 : Int) (x5 : Seq Z1) (x6 : Int) (x7 : Int) => keyed_Effects_l0_ev keyed_Fit n (encSt keyed_Effects_l0_t keyed_Effects_l0_s keyed_Effects_l0_h [.i there3, .i back4, .q (.int .i64 (.int .i64 (.int .i64 (.int .i64 (.int .i64 (.int .i64 (.nil))))))) x5, .i x6, .i x7]) k) there3 back4 x5 x6 x7 := by kernel_rfl
    have h2 := congrArg (fun r => keyed_Effects_l0_step keyed_Fit (fun y1 y2 => k (.exit 0) (encSt [.dead, .dead, .dead, .dead, .int .i64, .int .i64, .dead, .dead, .dead, .dead, .dead, .dead, .dead, .dead, .dead, .dead, .dead, .dead, .dead, .dead, .dead, .dead, .dead, .dead, .dead, .dead, .dead] [] [] [.i y1, .i y2])) r there3 back4 x5 x6 x7) e
    have h3 : keyed_Effects_l0_step keyed_Fit (fun y1 y2 => k (.exit 0) (encSt [.dead, .dead, .dead, .dead, .int .i64, .int .i64, .dead, .dead, .dead, .dead, .dead, .dead, .dead, .dead, .dead, .dead, .dead, .dead, .dead, .dead, .dead, .dead, .dead, .dead, .dead, .dead, .dead] [] [] [.i y1, .i y2])) (fun (there3 : Int) (back4 : Int) (x5 : Seq Z1) (x6 : Int) (x7 : Int) => keyed_Effects_l0_run keyed_Fit (fun y1 y2 => k (.exit 0) (encSt [.dead, .dead, .dead, .dead, .int .i64, .int .i64, .dead, .dead, .dead, .dead, .dead, .dead, .dead, .dead, .dead, .dead, .dead, .dead, .dead, .dead, .dead, .dead, .dead, .dead, .dead, .dead, .dead] [] [] [.i y1, .i y2])) n there3 back4 x5 x6 x7) there3 back4 x5 x6 x7 = keyed_Effects_l0_run keyed_Fit (fun y1 y2 => k (.exit 0) (encSt [.dead, .dead, .dead, .dead, .int .i64, .int .i64, .dead, .dead, .dead, .dead, .dead, .dead, .dead, .dead, .dead, .dead, .dead, .dead, .dead, .dead, .dead, .dead, .dead, .dead, .dead, .dead, .dead] [] [] [.i y1, .i y2])) (n + 1) there3 back4 x5 x6 x7 := by kernel_rfl
    exact h1.trans (h2.trans h3)

theorem keyed_Effects_l0_ok {α : Type} (keyed_Fit : keyed_Fit_T α) : (keyed_Effects_l0_spec keyed_Fit : LoopSpec α).ok Go.Proofs.Try.prog (envOf (keyed_Effects_C keyed_Fit) keyed_Effects_q keyed_Effects_inl 1000 keyed_Effects_ann false (keyed_Effects_loops keyed_Fit) (fun _ => none)) := by
  intro ds k
  have h1 : keyed_Effects_l0_ev keyed_Fit 1000 (encSt keyed_Effects_l0_t keyed_Effects_l0_s keyed_Effects_l0_h ds) k = keyed_Effects_l0_ev keyed_Fit 1000 (encSt keyed_Effects_l0_t keyed_Effects_l0_s keyed_Effects_l0_h [.i (hdI ds), .i (hdI ds.tail), .q (.int .i64 (.int .i64 (.int .i64 (.int .i64 (.int .i64 (.int .i64 (.nil))))))) (hdQ (.int .i64 (.int .i64 (.int .i64 (.int .i64 (.int .i64 (.int .i64 (.nil))))))) ds.tail.tail), .i (hdI ds.tail.tail.tail), .i (hdI ds.tail.tail.tail.tail)]) k := by kernel_rfl
  have h2 := keyed_Effects_l0_eq keyed_Fit 1000 (hdI ds) (hdI ds.tail) (hdQ (.int .i64 (.int .i64 (.int .i64 (.int .i64 (.int .i64 (.int .i64 (.nil))))))) ds.tail.tail) (hdI ds.tail.tail.tail) (hdI ds.tail.tail.tail.tail) k
  exact h1.trans h2

theorem keyed_Effects_ev {α : Type} (keyed_Fit : keyed_Fit_T α) : EvOk (α := α) Go.Proofs.Try.prog (envOf (keyed_Effects_C keyed_Fit) keyed_Effects_q keyed_Effects_inl 1000 keyed_Effects_ann false (keyed_Effects_loops keyed_Fit) (fun _ => none)) 6 (keyed_Effects_sp (keyed_Effects_g keyed_Fit)) := by intro ds k; kernel_rfl

theorem keyed_Effects_ok {α : Type} : (keyed_Effects_spec : FunSpec α).ok Go.Proofs.Try.prog :=
  FunSpec.ok_of (sp := keyed_Effects_spec) (C := keyed_Effects_C keyed_Fit) (q := keyed_Effects_q) (inl := keyed_Effects_inl) (N := 1000) (ann := keyed_Effects_ann) (fr := false) (D := 6) (l := (keyed_Effects_loops keyed_Fit)) (hk := (fun _ => none)) (okCons keyed_Fit_ok okNil) (lokCons (keyed_Effects_l0_ok keyed_Fit) lokNil) noHooks (keyed_Effects_ev keyed_Fit)

end
end Go.Rv.Try
