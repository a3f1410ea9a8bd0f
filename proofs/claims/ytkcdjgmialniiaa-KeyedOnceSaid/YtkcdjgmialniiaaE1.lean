/- What the functions of the program compute, each with the proof that its code computes it. Written by a program (rvp2.py). -/
import Derived.Test.YtkcdjgmialniiaaProg
import Derived.Test.YtkcdjgmialniiaaRvP
import Derived.Test.YtkcdjgmialniiaaE0

set_option linter.unusedVariables false
set_option maxRecDepth 100000
set_option maxHeartbeats 4000000
namespace Go.Rv.Try
open Go Go.Rv Go.RowKit
noncomputable section

-- (drayman/keyed.come).marked

abbrev keyed_come_marked_T (α : Type) : Type := ((Seq Z2) × Int × Int × Int × Int × Int × Int × Bool × Int × Bool × Unit) → Int → ((Seq Z2) → Option α) → Option α

noncomputable def keyed_come_marked_g {α : Type} (keyed_put_api_Key : keyed_put_api_Key_T α) (c1 : (Seq Z2) × Int × Int × Int × Int × Int × Int × Bool × Int × Bool × Unit) (mark2 : Int) (k : (Seq Z2) → Option α) : Option α :=
  (cond (mark2 == 2)
    (keyed_put_api_Key c1.1 (c1.2.1, c1.2.2.1, mark2, 1, c1.2.2.2.2.2.1, c1.2.2.2.2.2.2.1, ()) fun r3 =>
      (k r3))
    (cond (mark2 == 4)
      (keyed_put_api_Key c1.1 (c1.2.1, c1.2.2.1, mark2, c1.2.2.2.2.1, 1, c1.2.2.2.2.2.2.1, ()) fun r4 =>
        (k r4))
      (keyed_put_api_Key c1.1 (c1.2.1, c1.2.2.1, mark2, c1.2.2.2.2.1, c1.2.2.2.2.2.1, c1.2.2.2.2.2.2.1, ()) fun r5 =>
        (k r5))))

noncomputable def keyed_come_marked {α : Type} : keyed_come_marked_T α := keyed_come_marked_g keyed_put_api_Key

noncomputable def keyed_come_marked_sp {α : Type} (keyed_come_marked : keyed_come_marked_T α) : FunSpec α := ⟨139, [.agg [.sl (.int .i64 (.int .i64 (.int .i64 (.int .i64 (.int .i64 (.int .i64 (.nil))))))), .int .i64, .int .i64, .int .i64, .int .i64, .int .i64, .int .i64, .bool, .int .i64, .bool], .int .i64], [], fun ds k => keyed_come_marked (hdQ (.int .i64 (.int .i64 (.int .i64 (.int .i64 (.int .i64 (.int .i64 (.nil))))))) ds, hdI ds.tail, hdI ds.tail.tail, hdI ds.tail.tail.tail, hdI ds.tail.tail.tail.tail, hdI ds.tail.tail.tail.tail.tail, hdI ds.tail.tail.tail.tail.tail.tail, hdB ds.tail.tail.tail.tail.tail.tail.tail, hdI ds.tail.tail.tail.tail.tail.tail.tail.tail, hdB ds.tail.tail.tail.tail.tail.tail.tail.tail.tail, ()) (hdI ds.tail.tail.tail.tail.tail.tail.tail.tail.tail.tail) (fun q1 => k (enc dep (.own 0) []).1 (encBs [.row true (.int .i64 (.int .i64 (.int .i64 (.int .i64 (.int .i64 (.int .i64 (.nil)))))))] [.q (.int .i64 (.int .i64 (.int .i64 (.int .i64 (.int .i64 (.int .i64 (.nil))))))) q1]).1)⟩

noncomputable def keyed_come_marked_spec {α : Type} : FunSpec α := keyed_come_marked_sp keyed_come_marked

noncomputable def keyed_come_marked_C {α : Type} (keyed_put_api_Key : keyed_put_api_Key_T α) : List (FunSpec α) := [keyed_put_api_Key_sp keyed_put_api_Key]

noncomputable def keyed_come_marked_q : FuncId → Bool := fun f => false

noncomputable def keyed_come_marked_inl : FuncId → Bool := fun f => false

noncomputable def keyed_come_marked_ann : FuncId → AnnT := fun f p => ⟨[], [], [], [], 0, [], []⟩

noncomputable def keyed_come_marked_loops {α : Type} (keyed_put_api_Key : keyed_put_api_Key_T α) : List (LoopSpec α) := []

theorem keyed_come_marked_ev {α : Type} (keyed_put_api_Key : keyed_put_api_Key_T α) : EvOk (α := α) Go.Proofs.Try.prog (envOf (keyed_come_marked_C keyed_put_api_Key) keyed_come_marked_q keyed_come_marked_inl 1000 keyed_come_marked_ann false (keyed_come_marked_loops keyed_put_api_Key) (fun _ => none)) 6 (keyed_come_marked_sp (keyed_come_marked_g keyed_put_api_Key)) := by intro ds k; kernel_rfl

theorem keyed_come_marked_ok {α : Type} : (keyed_come_marked_spec : FunSpec α).ok Go.Proofs.Try.prog :=
  FunSpec.ok_of (sp := keyed_come_marked_spec) (C := keyed_come_marked_C keyed_put_api_Key) (q := keyed_come_marked_q) (inl := keyed_come_marked_inl) (N := 1000) (ann := keyed_come_marked_ann) (fr := false) (D := 6) (l := (keyed_come_marked_loops keyed_put_api_Key)) (hk := (fun _ => none)) (okCons keyed_put_api_Key_ok okNil) lokNil noHooks (keyed_come_marked_ev keyed_put_api_Key)

end
end Go.Rv.Try

set_option linter.unusedVariables false
set_option maxRecDepth 100000
set_option maxHeartbeats 4000000
namespace Go.Rv.Try
open Go Go.Rv Go.RowKit
noncomputable section

-- (drayman/keyed.come).back

abbrev keyed_come_back_T (α : Type) : Type := ((Seq Z2) × Int × Int × Int × Int × Int × Int × Bool × Int × Bool × Unit) → ((Seq Z2) → Int → Bool → Option α) → Option α

noncomputable def keyed_come_back_g {α : Type} (keyed_come_marked : keyed_come_marked_T α) (c1 : (Seq Z2) × Int × Int × Int × Int × Int × Int × Bool × Int × Bool × Unit) (k : (Seq Z2) → Int → Bool → Option α) : Option α :=
  (cond c1.2.2.2.2.2.2.2.1
    (cond c1.2.2.2.2.2.2.2.1
      (cond (!(c1.2.2.2.1 == 2))
        (k c1.1 1 false)
        (cond (c1.2.2.2.2.2.2.2.2.1 != 1)
          (k c1.1 2 false)
          (cond (c1.2.2.2.1 == 2)
            (keyed_come_marked c1 4 fun r2 =>
              (k r2 1 true))
            (keyed_come_marked c1 3 fun r3 =>
              (k r3 1 false)))))
      (cond (c1.2.2.2.2.2.2.2.2.1 != 1)
        (k c1.1 2 false)
        (cond (c1.2.2.2.1 == 2)
          (keyed_come_marked c1 4 fun r4 =>
            (k r4 1 true))
          (keyed_come_marked c1 3 fun r5 =>
            (k r5 1 false)))))
    (cond c1.2.2.2.2.2.2.2.1
      (k c1.1 1 false)
      (cond (c1.2.2.2.2.2.2.2.2.1 != 1)
        (k c1.1 2 false)
        (keyed_come_marked c1 3 fun r6 =>
          (k r6 1 false)))))

noncomputable def keyed_come_back {α : Type} : keyed_come_back_T α := keyed_come_back_g keyed_come_marked

noncomputable def keyed_come_back_sp {α : Type} (keyed_come_back : keyed_come_back_T α) : FunSpec α := ⟨113, [.agg [.sl (.int .i64 (.int .i64 (.int .i64 (.int .i64 (.int .i64 (.int .i64 (.nil))))))), .int .i64, .int .i64, .int .i64, .int .i64, .int .i64, .int .i64, .bool, .int .i64, .bool]], [], fun ds k => keyed_come_back (hdQ (.int .i64 (.int .i64 (.int .i64 (.int .i64 (.int .i64 (.int .i64 (.nil))))))) ds, hdI ds.tail, hdI ds.tail.tail, hdI ds.tail.tail.tail, hdI ds.tail.tail.tail.tail, hdI ds.tail.tail.tail.tail.tail, hdI ds.tail.tail.tail.tail.tail.tail, hdB ds.tail.tail.tail.tail.tail.tail.tail, hdI ds.tail.tail.tail.tail.tail.tail.tail.tail, hdB ds.tail.tail.tail.tail.tail.tail.tail.tail.tail, ()) (fun r1 r2 r3 => k (enc dep (.tup [.sl (.int .i64 (.int .i64 (.int .i64 (.int .i64 (.int .i64 (.int .i64 (.nil))))))), .int .i64, .bool]) [.q (.int .i64 (.int .i64 (.int .i64 (.int .i64 (.int .i64 (.int .i64 (.nil))))))) r1, .i r2, .b r3]).1 [])⟩

noncomputable def keyed_come_back_spec {α : Type} : FunSpec α := keyed_come_back_sp keyed_come_back

noncomputable def keyed_come_back_C {α : Type} (keyed_come_marked : keyed_come_marked_T α) : List (FunSpec α) := [keyed_come_marked_sp keyed_come_marked]

noncomputable def keyed_come_back_q : FuncId → Bool := fun f => false

noncomputable def keyed_come_back_inl : FuncId → Bool := fun f => false

noncomputable def keyed_come_back_ann : FuncId → AnnT := fun f p => ⟨[], [], [], [], 0, [], []⟩

noncomputable def keyed_come_back_loops {α : Type} (keyed_come_marked : keyed_come_marked_T α) : List (LoopSpec α) := []

theorem keyed_come_back_ev {α : Type} (keyed_come_marked : keyed_come_marked_T α) : EvOk (α := α) Go.Proofs.Try.prog (envOf (keyed_come_back_C keyed_come_marked) keyed_come_back_q keyed_come_back_inl 1000 keyed_come_back_ann true (keyed_come_back_loops keyed_come_marked) (fun _ => none)) 6 (keyed_come_back_sp (keyed_come_back_g keyed_come_marked)) := by intro ds k; kernel_rfl

theorem keyed_come_back_ok {α : Type} : (keyed_come_back_spec : FunSpec α).ok Go.Proofs.Try.prog :=
  FunSpec.ok_of (sp := keyed_come_back_spec) (C := keyed_come_back_C keyed_come_marked) (q := keyed_come_back_q) (inl := keyed_come_back_inl) (N := 1000) (ann := keyed_come_back_ann) (fr := true) (D := 6) (l := (keyed_come_back_loops keyed_come_marked)) (hk := (fun _ => none)) (okCons keyed_come_marked_ok okNil) lokNil noHooks (keyed_come_back_ev keyed_come_marked)

end
end Go.Rv.Try

set_option linter.unusedVariables false
set_option maxRecDepth 100000
set_option maxHeartbeats 4000000
namespace Go.Rv.Try
open Go Go.Rv Go.RowKit
noncomputable section

-- slices.Clone[[]drayman/api.Key,drayman/api.Key]

abbrev slices_Clone_api_Key_api_Key_T (α : Type) : Type := (Seq Z2) → ((Seq Z2) → Option α) → Option α

noncomputable def slices_Clone_api_Key_api_Key {α : Type} (s1 : Seq Z2) (k : (Seq Z2) → Option α) : Option α :=
  (cond s1.nl
    (k (⟨true, 0, (fun _ => (0, 0, 0, 0, 0, 0, ()))⟩ : Seq Z2))
    (cond (decide (((0 + s1.n)) * 48 ≤ 140737488355328))
      (k (⟨false, (0 + s1.n), (tApp 0 (tSel [] (0, 0, 0, 0, 0, 0, ())) s1.g)⟩ : Seq Z2))
      none))

noncomputable def slices_Clone_api_Key_api_Key_sp {α : Type} (slices_Clone_api_Key_api_Key : slices_Clone_api_Key_api_Key_T α) : FunSpec α := ⟨114, [.sl (.int .i64 (.int .i64 (.int .i64 (.int .i64 (.int .i64 (.int .i64 (.nil)))))))], [], fun ds k => slices_Clone_api_Key_api_Key (hdQ (.int .i64 (.int .i64 (.int .i64 (.int .i64 (.int .i64 (.int .i64 (.nil))))))) ds) (fun q1 => k (enc dep (.own 0) []).1 (encBs [.row true (.int .i64 (.int .i64 (.int .i64 (.int .i64 (.int .i64 (.int .i64 (.nil)))))))] [.q (.int .i64 (.int .i64 (.int .i64 (.int .i64 (.int .i64 (.int .i64 (.nil))))))) q1]).1)⟩

noncomputable def slices_Clone_api_Key_api_Key_spec {α : Type} : FunSpec α := slices_Clone_api_Key_api_Key_sp slices_Clone_api_Key_api_Key

noncomputable def slices_Clone_api_Key_api_Key_C {α : Type} : List (FunSpec α) := []

noncomputable def slices_Clone_api_Key_api_Key_q : FuncId → Bool := fun f => false

noncomputable def slices_Clone_api_Key_api_Key_inl : FuncId → Bool := fun f => false

noncomputable def slices_Clone_api_Key_api_Key_ann : FuncId → AnnT := fun f p => ⟨[], [], [], [], 0, [], []⟩

noncomputable def slices_Clone_api_Key_api_Key_loops {α : Type} : List (LoopSpec α) := []

theorem slices_Clone_api_Key_api_Key_ev {α : Type} : EvOk (α := α) Go.Proofs.Try.prog (envOf (slices_Clone_api_Key_api_Key_C) slices_Clone_api_Key_api_Key_q slices_Clone_api_Key_api_Key_inl 1000 slices_Clone_api_Key_api_Key_ann false (slices_Clone_api_Key_api_Key_loops) (fun _ => none)) 6 (slices_Clone_api_Key_api_Key_sp (slices_Clone_api_Key_api_Key)) := by intro ds k; kernel_rfl

theorem slices_Clone_api_Key_api_Key_ok {α : Type} : (slices_Clone_api_Key_api_Key_spec : FunSpec α).ok Go.Proofs.Try.prog :=
  FunSpec.ok_of (sp := slices_Clone_api_Key_api_Key_spec) (C := slices_Clone_api_Key_api_Key_C) (q := slices_Clone_api_Key_api_Key_q) (inl := slices_Clone_api_Key_api_Key_inl) (N := 1000) (ann := slices_Clone_api_Key_api_Key_ann) (fr := false) (D := 6) (l := (slices_Clone_api_Key_api_Key_loops)) (hk := (fun _ => none)) okNil lokNil noHooks (slices_Clone_api_Key_api_Key_ev)

end
end Go.Rv.Try

set_option linter.unusedVariables false
set_option maxRecDepth 100000
set_option maxHeartbeats 4000000
namespace Go.Rv.Try
open Go Go.Rv Go.RowKit
noncomputable section

-- (drayman/keyed.come).there

abbrev keyed_come_there_T (α : Type) : Type := ((Seq Z2) × Int × Int × Int × Int × Int × Int × Bool × Int × Bool × Unit) → ((Seq Z2) → Int → Bool → Option α) → Option α

noncomputable def keyed_come_there_g {α : Type} (keyed_come_marked : keyed_come_marked_T α) (c1 : (Seq Z2) × Int × Int × Int × Int × Int × Int × Bool × Int × Bool × Unit) (k : (Seq Z2) → Int → Bool → Option α) : Option α :=
  (cond c1.2.2.2.2.2.2.2.1
    (cond (c1.2.2.2.1 == 2)
      (k c1.1 1 false)
      (cond c1.2.2.2.2.2.2.2.1
        (k c1.1 3 false)
        (cond (c1.2.2.2.2.2.2.2.2.1 == 1)
          (keyed_come_marked c1 2 fun r2 =>
            (k r2 1 true))
          (cond (c1.2.2.2.2.2.2.2.2.1 == 3)
            (cond (!c1.2.2.2.2.2.2.2.2.2.1)
              (keyed_come_marked c1 5 fun r3 =>
                (k r3 3 false))
              (k c1.1 2 false))
            (k c1.1 2 false)))))
    (cond c1.2.2.2.2.2.2.2.1
      (k c1.1 3 false)
      (cond (c1.2.2.2.2.2.2.2.2.1 == 1)
        (keyed_come_marked c1 2 fun r4 =>
          (k r4 1 true))
        (cond (c1.2.2.2.2.2.2.2.2.1 == 3)
          (cond (!c1.2.2.2.2.2.2.2.2.2.1)
            (keyed_come_marked c1 5 fun r5 =>
              (k r5 3 false))
            (k c1.1 2 false))
          (k c1.1 2 false)))))

noncomputable def keyed_come_there {α : Type} : keyed_come_there_T α := keyed_come_there_g keyed_come_marked

noncomputable def keyed_come_there_sp {α : Type} (keyed_come_there : keyed_come_there_T α) : FunSpec α := ⟨112, [.agg [.sl (.int .i64 (.int .i64 (.int .i64 (.int .i64 (.int .i64 (.int .i64 (.nil))))))), .int .i64, .int .i64, .int .i64, .int .i64, .int .i64, .int .i64, .bool, .int .i64, .bool]], [], fun ds k => keyed_come_there (hdQ (.int .i64 (.int .i64 (.int .i64 (.int .i64 (.int .i64 (.int .i64 (.nil))))))) ds, hdI ds.tail, hdI ds.tail.tail, hdI ds.tail.tail.tail, hdI ds.tail.tail.tail.tail, hdI ds.tail.tail.tail.tail.tail, hdI ds.tail.tail.tail.tail.tail.tail, hdB ds.tail.tail.tail.tail.tail.tail.tail, hdI ds.tail.tail.tail.tail.tail.tail.tail.tail, hdB ds.tail.tail.tail.tail.tail.tail.tail.tail.tail, ()) (fun r1 r2 r3 => k (enc dep (.tup [.sl (.int .i64 (.int .i64 (.int .i64 (.int .i64 (.int .i64 (.int .i64 (.nil))))))), .int .i64, .bool]) [.q (.int .i64 (.int .i64 (.int .i64 (.int .i64 (.int .i64 (.int .i64 (.nil))))))) r1, .i r2, .b r3]).1 [])⟩

noncomputable def keyed_come_there_spec {α : Type} : FunSpec α := keyed_come_there_sp keyed_come_there

noncomputable def keyed_come_there_C {α : Type} (keyed_come_marked : keyed_come_marked_T α) : List (FunSpec α) := [keyed_come_marked_sp keyed_come_marked]

noncomputable def keyed_come_there_q : FuncId → Bool := fun f => false

noncomputable def keyed_come_there_inl : FuncId → Bool := fun f => false

noncomputable def keyed_come_there_ann : FuncId → AnnT := fun f p => ⟨[], [], [], [], 0, [], []⟩

noncomputable def keyed_come_there_loops {α : Type} (keyed_come_marked : keyed_come_marked_T α) : List (LoopSpec α) := []

theorem keyed_come_there_ev {α : Type} (keyed_come_marked : keyed_come_marked_T α) : EvOk (α := α) Go.Proofs.Try.prog (envOf (keyed_come_there_C keyed_come_marked) keyed_come_there_q keyed_come_there_inl 1000 keyed_come_there_ann true (keyed_come_there_loops keyed_come_marked) (fun _ => none)) 6 (keyed_come_there_sp (keyed_come_there_g keyed_come_marked)) := by intro ds k; kernel_rfl

theorem keyed_come_there_ok {α : Type} : (keyed_come_there_spec : FunSpec α).ok Go.Proofs.Try.prog :=
  FunSpec.ok_of (sp := keyed_come_there_spec) (C := keyed_come_there_C keyed_come_marked) (q := keyed_come_there_q) (inl := keyed_come_there_inl) (N := 1000) (ann := keyed_come_there_ann) (fr := true) (D := 6) (l := (keyed_come_there_loops keyed_come_marked)) (hk := (fun _ => none)) (okCons keyed_come_marked_ok okNil) lokNil noHooks (keyed_come_there_ev keyed_come_marked)

end
end Go.Rv.Try

set_option linter.unusedVariables false
set_option maxRecDepth 100000
set_option maxHeartbeats 4000000
namespace Go.Rv.Try
open Go Go.Rv Go.RowKit
noncomputable section

-- drayman/keyed.Come

abbrev keyed_Come_T (α : Type) : Type := (Seq Z2) → Z1 → Int → (Int → Bool → Int → (Seq Z2) → Option α) → Option α

noncomputable def keyed_Come_g {α : Type} (keyed_Fit : keyed_Fit_T α) (outbox_Fit : outbox_Fit_T α) (keyed_Find : keyed_Find_T α) (keyed_come_back : keyed_come_back_T α) (slices_Clone_api_Key_api_Key : slices_Clone_api_Key_api_Key_T α) (keyed_come_there : keyed_come_there_T α) (x1 : Seq Z2) (x2 : Int × Int × Int × Bool × Int × Int × Bool × Unit) (x3 : Int) (k : Int → Bool → Int → (Seq Z2) → Option α) : Option α :=
  (keyed_Fit x1 fun r4 =>
    (cond (!r4)
      (k 0 false 12 (⟨true, 0, (fun _ => (0, 0, 0, 0, 0, 0, ()))⟩ : Seq Z2))
      (outbox_Fit (⟨false, 1, (fun _ => x2)⟩ : Seq Z1) fun r5 =>
        (cond (!(!r5))
          (cond (!(decide (x3 < 1)))
            (cond (decide (x3 > 3))
              (k 0 false 1 (⟨true, 0, (fun _ => (0, 0, 0, 0, 0, 0, ()))⟩ : Seq Z2))
              (keyed_Find x1 x2.2.1 x2.2.2.1 fun r6 r7 =>
                (cond (!r7)
                  (cond x2.2.2.2.1
                    (keyed_come_back (x1, x2.2.1, x2.2.2.1, 0, 0, 0, x2.2.2.2.2.2.1, r7, x3, x2.2.2.2.2.2.2.1, ()) fun r8 r9 r10 =>
                      (slices_Clone_api_Key_api_Key r8 fun r11 =>
                        (k r9 r10 0 r11)))
                    (keyed_come_there (x1, x2.2.1, x2.2.2.1, 0, 0, 0, x2.2.2.2.2.2.1, r7, x3, x2.2.2.2.2.2.2.1, ()) fun r12 r13 r14 =>
                      (slices_Clone_api_Key_api_Key r12 fun r15 =>
                        (k r13 r14 0 r15))))
                  (cond x2.2.2.2.1
                    (keyed_come_back (x1, r6.1, r6.2.1, r6.2.2.1, r6.2.2.2.1, r6.2.2.2.2.1, r6.2.2.2.2.2.1, r7, x3, x2.2.2.2.2.2.2.1, ()) fun r16 r17 r18 =>
                      (slices_Clone_api_Key_api_Key r16 fun r19 =>
                        (k r17 r18 0 r19)))
                    (keyed_come_there (x1, r6.1, r6.2.1, r6.2.2.1, r6.2.2.2.1, r6.2.2.2.2.1, r6.2.2.2.2.2.1, r7, x3, x2.2.2.2.2.2.2.1, ()) fun r20 r21 r22 =>
                      (slices_Clone_api_Key_api_Key r20 fun r23 =>
                        (k r21 r22 0 r23)))))))
            (k 0 false 1 (⟨true, 0, (fun _ => (0, 0, 0, 0, 0, 0, ()))⟩ : Seq Z2)))
          (k 0 false 1 (⟨true, 0, (fun _ => (0, 0, 0, 0, 0, 0, ()))⟩ : Seq Z2))))))

noncomputable def keyed_Come {α : Type} : keyed_Come_T α := keyed_Come_g keyed_Fit outbox_Fit keyed_Find keyed_come_back slices_Clone_api_Key_api_Key keyed_come_there

noncomputable def keyed_Come_sp {α : Type} (keyed_Come : keyed_Come_T α) : FunSpec α := ⟨70, [.sl (.int .i64 (.int .i64 (.int .i64 (.int .i64 (.int .i64 (.int .i64 (.nil))))))), .agg [.int .i64, .int .i64, .int .i64, .bool, .int .i64, .int .i64, .bool], .int .i64], [], fun ds k => keyed_Come (hdQ (.int .i64 (.int .i64 (.int .i64 (.int .i64 (.int .i64 (.int .i64 (.nil))))))) ds) (hdI ds.tail, hdI ds.tail.tail, hdI ds.tail.tail.tail, hdB ds.tail.tail.tail.tail, hdI ds.tail.tail.tail.tail.tail, hdI ds.tail.tail.tail.tail.tail.tail, hdB ds.tail.tail.tail.tail.tail.tail.tail, ()) (hdI ds.tail.tail.tail.tail.tail.tail.tail.tail) (fun r1 r2 r3 q4 => k (enc dep (.tup [.own 0, .int .i64, .bool, .int .i64]) [.i r1, .b r2, .i r3]).1 (encBs [.row true (.int .i64 (.int .i64 (.int .i64 (.int .i64 (.int .i64 (.int .i64 (.nil)))))))] [.q (.int .i64 (.int .i64 (.int .i64 (.int .i64 (.int .i64 (.int .i64 (.nil))))))) q4]).1)⟩

noncomputable def keyed_Come_spec {α : Type} : FunSpec α := keyed_Come_sp keyed_Come

noncomputable def keyed_Come_C {α : Type} (keyed_Fit : keyed_Fit_T α) (outbox_Fit : outbox_Fit_T α) (keyed_Find : keyed_Find_T α) (keyed_come_back : keyed_come_back_T α) (slices_Clone_api_Key_api_Key : slices_Clone_api_Key_api_Key_T α) (keyed_come_there : keyed_come_there_T α) : List (FunSpec α) := [keyed_Fit_sp keyed_Fit, outbox_Fit_sp outbox_Fit, keyed_Find_sp keyed_Find, keyed_come_back_sp keyed_come_back, slices_Clone_api_Key_api_Key_sp slices_Clone_api_Key_api_Key, keyed_come_there_sp keyed_come_there]

noncomputable def keyed_Come_q : FuncId → Bool := fun f => Nat.beq f 73 || Nat.beq f 77 || Nat.beq f 103

noncomputable def keyed_Come_inl : FuncId → Bool := fun f => false

noncomputable def keyed_Come_ann : FuncId → AnnT := fun f p => ⟨[], [], [], [], 0, [], []⟩

noncomputable def keyed_Come_loops {α : Type} (keyed_Fit : keyed_Fit_T α) (outbox_Fit : outbox_Fit_T α) (keyed_Find : keyed_Find_T α) (keyed_come_back : keyed_come_back_T α) (slices_Clone_api_Key_api_Key : slices_Clone_api_Key_api_Key_T α) (keyed_come_there : keyed_come_there_T α) : List (LoopSpec α) := []

theorem keyed_Come_ev {α : Type} (keyed_Fit : keyed_Fit_T α) (outbox_Fit : outbox_Fit_T α) (keyed_Find : keyed_Find_T α) (keyed_come_back : keyed_come_back_T α) (slices_Clone_api_Key_api_Key : slices_Clone_api_Key_api_Key_T α) (keyed_come_there : keyed_come_there_T α) : EvOk (α := α) Go.Proofs.Try.prog (envOf (keyed_Come_C keyed_Fit outbox_Fit keyed_Find keyed_come_back slices_Clone_api_Key_api_Key keyed_come_there) keyed_Come_q keyed_Come_inl 1000 keyed_Come_ann false (keyed_Come_loops keyed_Fit outbox_Fit keyed_Find keyed_come_back slices_Clone_api_Key_api_Key keyed_come_there) (fun _ => none)) 6 (keyed_Come_sp (keyed_Come_g keyed_Fit outbox_Fit keyed_Find keyed_come_back slices_Clone_api_Key_api_Key keyed_come_there)) := by intro ds k; kernel_rfl

theorem keyed_Come_ok {α : Type} : (keyed_Come_spec : FunSpec α).ok Go.Proofs.Try.prog :=
  FunSpec.ok_of (sp := keyed_Come_spec) (C := keyed_Come_C keyed_Fit outbox_Fit keyed_Find keyed_come_back slices_Clone_api_Key_api_Key keyed_come_there) (q := keyed_Come_q) (inl := keyed_Come_inl) (N := 1000) (ann := keyed_Come_ann) (fr := false) (D := 6) (l := (keyed_Come_loops keyed_Fit outbox_Fit keyed_Find keyed_come_back slices_Clone_api_Key_api_Key keyed_come_there)) (hk := (fun _ => none)) (okCons keyed_Fit_ok (okCons outbox_Fit_ok (okCons keyed_Find_ok (okCons keyed_come_back_ok (okCons slices_Clone_api_Key_api_Key_ok (okCons keyed_come_there_ok okNil)))))) lokNil noHooks (keyed_Come_ev keyed_Fit outbox_Fit keyed_Find keyed_come_back slices_Clone_api_Key_api_Key keyed_come_there)

end
end Go.Rv.Try

set_option linter.unusedVariables false
set_option maxRecDepth 100000
set_option maxHeartbeats 4000000
namespace Go.Rv.Try
open Go Go.Rv Go.RowKit
noncomputable section

-- drayman/draymanlaw31.awake

abbrev draymanlaw31_awake_T (α : Type) : Type := (Bool → Option α) → Option α

noncomputable def draymanlaw31_awake_g {α : Type} (keyed_Come : keyed_Come_T α) (k : Bool → Option α) : Option α :=
  (keyed_Come (⟨true, 0, (fun _ => (0, 0, 0, 0, 0, 0, ()))⟩ : Seq Z2) (1, 1, 0, false, 2, 5, false, ()) 1 fun r1 r2 r3 r4 =>
    (keyed_Come r4 (1, 1, 0, false, 2, 5, false, ()) 3 fun r5 r6 r7 r8 =>
      (keyed_Come (⟨true, 0, (fun _ => (0, 0, 0, 0, 0, 0, ()))⟩ : Seq Z2) (1, 1, 0, true, 2, 5, false, ()) 1 fun r9 r10 r11 r12 =>
        (keyed_Come r12 (1, 1, 0, false, 2, 5, false, ()) 1 fun r13 r14 r15 r16 =>
          (cond (r3 == 0)
            (cond (r1 == 1)
              (cond r2
                (cond (r7 == 0)
                  (cond (r5 == 1)
                    (cond (!r6)
                      (cond (r11 == 0)
                        (cond (r9 == 1)
                          (cond (!r10)
                            (cond (r15 == 0)
                              (cond (r13 == 3)
                                (cond (!r14)
                                  (cond ((r4.n : Int) == 1)
                                    (k ((r12.n : Int) == 1))
                                    (k false))
                                  (k false))
                                (k false))
                              (k false))
                            (k false))
                          (k false))
                        (k false))
                      (k false))
                    (k false))
                  (k false))
                (k false))
              (k false))
            (k false))))))

noncomputable def draymanlaw31_awake {α : Type} : draymanlaw31_awake_T α := draymanlaw31_awake_g keyed_Come

noncomputable def draymanlaw31_awake_sp {α : Type} (draymanlaw31_awake : draymanlaw31_awake_T α) : FunSpec α := ⟨69, [], [], fun ds k => draymanlaw31_awake  (fun r1 => k (enc dep (.bool) [.b r1]).1 [])⟩

noncomputable def draymanlaw31_awake_spec {α : Type} : FunSpec α := draymanlaw31_awake_sp draymanlaw31_awake

noncomputable def draymanlaw31_awake_C {α : Type} (keyed_Come : keyed_Come_T α) : List (FunSpec α) := [keyed_Come_sp keyed_Come]

noncomputable def draymanlaw31_awake_q : FuncId → Bool := fun f => false

noncomputable def draymanlaw31_awake_inl : FuncId → Bool := fun f => false

noncomputable def draymanlaw31_awake_ann : FuncId → AnnT := fun f p => ⟨[], [], [], [], 0, [], []⟩

noncomputable def draymanlaw31_awake_loops {α : Type} (keyed_Come : keyed_Come_T α) : List (LoopSpec α) := []

theorem draymanlaw31_awake_ev {α : Type} (keyed_Come : keyed_Come_T α) : EvOk (α := α) Go.Proofs.Try.prog (envOf (draymanlaw31_awake_C keyed_Come) draymanlaw31_awake_q draymanlaw31_awake_inl 1000 draymanlaw31_awake_ann false (draymanlaw31_awake_loops keyed_Come) (fun _ => none)) 6 (draymanlaw31_awake_sp (draymanlaw31_awake_g keyed_Come)) := by intro ds k; kernel_rfl

theorem draymanlaw31_awake_ok {α : Type} : (draymanlaw31_awake_spec : FunSpec α).ok Go.Proofs.Try.prog :=
  FunSpec.ok_of (sp := draymanlaw31_awake_spec) (C := draymanlaw31_awake_C keyed_Come) (q := draymanlaw31_awake_q) (inl := draymanlaw31_awake_inl) (N := 1000) (ann := draymanlaw31_awake_ann) (fr := false) (D := 6) (l := (draymanlaw31_awake_loops keyed_Come)) (hk := (fun _ => none)) (okCons keyed_Come_ok okNil) lokNil noHooks (draymanlaw31_awake_ev keyed_Come)

end
end Go.Rv.Try

set_option linter.unusedVariables false
set_option maxRecDepth 100000
set_option maxHeartbeats 4000000
namespace Go.Rv.Try
open Go Go.Rv Go.RowKit
noncomputable section

-- drayman/keyed.Effects

abbrev keyed_Effects_T (α : Type) : Type := (Seq Z2) → (Int → Int → Option α) → Option α

noncomputable def keyed_Effects_l0_step {α : Type} (keyed_Fit : keyed_Fit_T α) (k0 : (Int) → (Int) → Option α) (rec : (Int) → (Int) → (Seq Z2) → (Int) → (Int) → Option α) (there3 : Int) (back4 : Int) (x5 : Seq Z2) (x6 : Int) (x7 : Int) : Option α :=
  (cond (decide (x7 < x6))
    (cond ((decide ((0 : Int) ≤ x7)) && (decide (x7 < (x5.n : Int))))
      (rec (IntKind.i64.wrap (there3 + (x5.g x7.toNat).2.2.2.1)) (IntKind.i64.wrap (back4 + (x5.g x7.toNat).2.2.2.2.1)) x5 x6 (IntKind.i64.wrap (x7 + 1)))
      none)
    (k0 there3 back4))

noncomputable def keyed_Effects_l0_run {α : Type} (keyed_Fit : keyed_Fit_T α) (k0 : (Int) → (Int) → Option α) : Nat → (Int) → (Int) → (Seq Z2) → (Int) → (Int) → Option α
  | 0, _, _, _, _, _ => none
  | n + 1, there3, back4, x5, x6, x7 => keyed_Effects_l0_step keyed_Fit k0 (fun there3 back4 x5 x6 x7 => keyed_Effects_l0_run keyed_Fit k0 n there3 back4 x5 x6 x7) there3 back4 x5 x6 x7

noncomputable def keyed_Effects_g {α : Type} (keyed_Fit : keyed_Fit_T α) (l1 : Seq Z2) (k : Int → Int → Option α) : Option α :=
  (keyed_Fit l1 fun r2 =>
    (cond r2
      (keyed_Effects_l0_run keyed_Fit
        (fun x8 x9 =>
          (k x8 x9))
        1000 0 0 l1 (l1.n : Int) 0)
      (k 0 0)))

noncomputable def keyed_Effects {α : Type} : keyed_Effects_T α := keyed_Effects_g keyed_Fit

noncomputable def keyed_Effects_sp {α : Type} (keyed_Effects : keyed_Effects_T α) : FunSpec α := ⟨75, [.sl (.int .i64 (.int .i64 (.int .i64 (.int .i64 (.int .i64 (.int .i64 (.nil)))))))], [], fun ds k => keyed_Effects (hdQ (.int .i64 (.int .i64 (.int .i64 (.int .i64 (.int .i64 (.int .i64 (.nil))))))) ds) (fun r1 r2 => k (enc dep (.tup [.int .i64, .int .i64]) [.i r1, .i r2]).1 [])⟩

noncomputable def keyed_Effects_spec {α : Type} : FunSpec α := keyed_Effects_sp keyed_Effects

noncomputable def keyed_Effects_C {α : Type} (keyed_Fit : keyed_Fit_T α) : List (FunSpec α) := [keyed_Fit_sp keyed_Fit]

noncomputable def keyed_Effects_q : FuncId → Bool := fun f => Nat.beq f 77

noncomputable def keyed_Effects_inl : FuncId → Bool := fun f => false

noncomputable def keyed_Effects_ann : FuncId → AnnT := fun f p => if f = 75 then (if p = [true, false, true, false, true, true] then ⟨[4, 5, 10, 11, 12], [], [4, 5], [2, 3], 0, [], []⟩ else ⟨[], [], [], [], 0, [], []⟩) else ⟨[], [], [], [], 0, [], []⟩

noncomputable def keyed_Effects_l0_t : List Sh := [.dead, .dead, .dead, .dead, .int .i64, .int .i64, .dead, .dead, .dead, .dead, .sl (.int .i64 (.int .i64 (.int .i64 (.int .i64 (.int .i64 (.int .i64 (.nil))))))), .int .i64, .int .i64, .dead, .dead, .dead, .dead, .dead, .dead, .dead, .dead, .dead, .dead, .dead, .dead, .dead, .dead]
noncomputable def keyed_Effects_l0_s : List (List Sh) := []
noncomputable def keyed_Effects_l0_h : List BSh := []

noncomputable def keyed_Effects_l0_spec {α : Type} (keyed_Fit : keyed_Fit_T α) : LoopSpec α := ⟨6, 75, [true, false, true, false, true, true], keyed_Effects_l0_t, keyed_Effects_l0_s, keyed_Effects_l0_h, fun ds k => keyed_Effects_l0_run keyed_Fit (fun y1 y2 => k (.exit 0) (encSt [.dead, .dead, .dead, .dead, .int .i64, .int .i64, .dead, .dead, .dead, .dead, .dead, .dead, .dead, .dead, .dead, .dead, .dead, .dead, .dead, .dead, .dead, .dead, .dead, .dead, .dead, .dead, .dead] [] [] [.i y1, .i y2])) 1000 (hdI ds) (hdI ds.tail) (hdQ (.int .i64 (.int .i64 (.int .i64 (.int .i64 (.int .i64 (.int .i64 (.nil))))))) ds.tail.tail) (hdI ds.tail.tail.tail) (hdI ds.tail.tail.tail.tail)⟩

noncomputable def keyed_Effects_loops {α : Type} (keyed_Fit : keyed_Fit_T α) : List (LoopSpec α) := [keyed_Effects_l0_spec keyed_Fit]

noncomputable def keyed_Effects_l0_ev {α : Type} (keyed_Fit : keyed_Fit_T α) (n : Nat) (st : St) (k : X → St → Option α) : Option α := loopN (evCode Go.Proofs.Try.prog (callD Go.Proofs.Try.prog (envOf (keyed_Effects_C keyed_Fit) keyed_Effects_q keyed_Effects_inl 1000 keyed_Effects_ann false (keyed_Effects_loops keyed_Fit) (fun _ => none)) 6) (((envOf (keyed_Effects_C keyed_Fit) keyed_Effects_q keyed_Effects_inl 1000 keyed_Effects_ann false (keyed_Effects_loops keyed_Fit) (fun _ => none)) : Env α).L 6 75) 1000 (keyed_Effects_ann 75) (false :: [true, false, true, false, true, true]) (loopC Go.Proofs.Try.prog 75 [true, false, true, false, true, true])) ((keyed_Effects_ann 75 [true, false, true, false, true, true]).head 0) ((keyed_Effects_ann 75 [true, false, true, false, true, true]).leave 0) n st k

theorem keyed_Effects_l0_eq {α : Type} (keyed_Fit : keyed_Fit_T α) : ∀ (n : Nat) (there3 : Int) (back4 : Int) (x5 : Seq Z2) (x6 : Int) (x7 : Int) (k : X → St → Option α), keyed_Effects_l0_ev keyed_Fit n (encSt keyed_Effects_l0_t keyed_Effects_l0_s keyed_Effects_l0_h [.i there3, .i back4, .q (.int .i64 (.int .i64 (.int .i64 (.int .i64 (.int .i64 (.int .i64 (.nil))))))) x5, .i x6, .i x7]) k = keyed_Effects_l0_run keyed_Fit (fun y1 y2 => k (.exit 0) (encSt [.dead, .dead, .dead, .dead, .int .i64, .int .i64, .dead, .dead, .dead, .dead, .dead, .dead, .dead, .dead, .dead, .dead, .dead, .dead, .dead, .dead, .dead, .dead, .dead, .dead, .dead, .dead, .dead] [] [] [.i y1, .i y2])) n there3 back4 x5 x6 x7 := by
  intro n
  induction n with
  | zero => intros; kernel_rfl
  | succ n ih =>
    intro there3 back4 x5 x6 x7 k
    have e : (fun (there3 : Int) (back4 : Int) (x5 : Seq Z2) (x6 : Int) (x7 : Int) => keyed_Effects_l0_ev keyed_Fit n (encSt keyed_Effects_l0_t keyed_Effects_l0_s keyed_Effects_l0_h [.i there3, .i back4, .q (.int .i64 (.int .i64 (.int .i64 (.int .i64 (.int .i64 (.int .i64 (.nil))))))) x5, .i x6, .i x7]) k) = (fun (there3 : Int) (back4 : Int) (x5 : Seq Z2) (x6 : Int) (x7 : Int) => keyed_Effects_l0_run keyed_Fit (fun y1 y2 => k (.exit 0) (encSt [.dead, .dead, .dead, .dead, .int .i64, .int .i64, .dead, .dead, .dead, .dead, .dead, .dead, .dead, .dead, .dead, .dead, .dead, .dead, .dead, .dead, .dead, .dead, .dead, .dead, .dead, .dead, .dead] [] [] [.i y1, .i y2])) n there3 back4 x5 x6 x7) := by
      funext there3 back4 x5 x6 x7
      exact ih there3 back4 x5 x6 x7 k
    have h1 : keyed_Effects_l0_ev keyed_Fit (n + 1) (encSt keyed_Effects_l0_t keyed_Effects_l0_s keyed_Effects_l0_h [.i there3, .i back4, .q (.int .i64 (.int .i64 (.int .i64 (.int .i64 (.int .i64 (.int .i64 (.nil))))))) x5, .i x6, .i x7]) k = keyed_Effects_l0_step keyed_Fit (fun y1 y2 => k (.exit 0) (encSt [.dead, .dead, .dead, .dead, .int .i64, .int .i64, .dead, .dead, .dead, .dead, .dead, .dead, .dead, .dead, .dead, .dead, .dead, .dead, .dead, .dead, .dead, .dead, .dead, .dead, .dead, .dead, .dead] [] [] [.i y1, .i y2])) (fun (there3 : Int) (back4 : Int) (x5 : Seq Z2) (x6 : Int) (x7 : Int) => keyed_Effects_l0_ev keyed_Fit n (encSt keyed_Effects_l0_t keyed_Effects_l0_s keyed_Effects_l0_h [.i there3, .i back4, .q (.int .i64 (.int .i64 (.int .i64 (.int .i64 (.int .i64 (.int .i64 (.nil))))))) x5, .i x6, .i x7]) k) there3 back4 x5 x6 x7 := by kernel_rfl
    have h2 := congrArg (fun r => keyed_Effects_l0_step keyed_Fit (fun y1 y2 => k (.exit 0) (encSt [.dead, .dead, .dead, .dead, .int .i64, .int .i64, .dead, .dead, .dead, .dead, .dead, .dead, .dead, .dead, .dead, .dead, .dead, .dead, .dead, .dead, .dead, .dead, .dead, .dead, .dead, .dead, .dead] [] [] [.i y1, .i y2])) r there3 back4 x5 x6 x7) e
    have h3 : keyed_Effects_l0_step keyed_Fit (fun y1 y2 => k (.exit 0) (encSt [.dead, .dead, .dead, .dead, .int .i64, .int .i64, .dead, .dead, .dead, .dead, .dead, .dead, .dead, .dead, .dead, .dead, .dead, .dead, .dead, .dead, .dead, .dead, .dead, .dead, .dead, .dead, .dead] [] [] [.i y1, .i y2])) (fun (there3 : Int) (back4 : Int) (x5 : Seq Z2) (x6 : Int) (x7 : Int) => keyed_Effects_l0_run keyed_Fit (fun y1 y2 => k (.exit 0) (encSt [.dead, .dead, .dead, .dead, .int .i64, .int .i64, .dead, .dead, .dead, .dead, .dead, .dead, .dead, .dead, .dead, .dead, .dead, .dead, .dead, .dead, .dead, .dead, .dead, .dead, .dead, .dead, .dead] [] [] [.i y1, .i y2])) n there3 back4 x5 x6 x7) there3 back4 x5 x6 x7 = keyed_Effects_l0_run keyed_Fit (fun y1 y2 => k (.exit 0) (encSt [.dead, .dead, .dead, .dead, .int .i64, .int .i64, .dead, .dead, .dead, .dead, .dead, .dead, .dead, .dead, .dead, .dead, .dead, .dead, .dead, .dead, .dead, .dead, .dead, .dead, .dead, .dead, .dead] [] [] [.i y1, .i y2])) (n + 1) there3 back4 x5 x6 x7 := by kernel_rfl
    exact h1.trans (h2.trans h3)

theorem keyed_Effects_l0_ok {α : Type} (keyed_Fit : keyed_Fit_T α) : (keyed_Effects_l0_spec keyed_Fit : LoopSpec α).ok Go.Proofs.Try.prog (envOf (keyed_Effects_C keyed_Fit) keyed_Effects_q keyed_Effects_inl 1000 keyed_Effects_ann false (keyed_Effects_loops keyed_Fit) (fun _ => none)) := by
  intro ds k
  have h1 : keyed_Effects_l0_ev keyed_Fit 1000 (encSt keyed_Effects_l0_t keyed_Effects_l0_s keyed_Effects_l0_h ds) k = keyed_Effects_l0_ev keyed_Fit 1000 (encSt keyed_Effects_l0_t keyed_Effects_l0_s keyed_Effects_l0_h [.i (hdI ds), .i (hdI ds.tail), .q (.int .i64 (.int .i64 (.int .i64 (.int .i64 (.int .i64 (.int .i64 (.nil))))))) (hdQ (.int .i64 (.int .i64 (.int .i64 (.int .i64 (.int .i64 (.int .i64 (.nil))))))) ds.tail.tail), .i (hdI ds.tail.tail.tail), .i (hdI ds.tail.tail.tail.tail)]) k := by kernel_rfl
  have h2 := keyed_Effects_l0_eq keyed_Fit 1000 (hdI ds) (hdI ds.tail) (hdQ (.int .i64 (.int .i64 (.int .i64 (.int .i64 (.int .i64 (.int .i64 (.nil))))))) ds.tail.tail) (hdI ds.tail.tail.tail) (hdI ds.tail.tail.tail.tail) k
  exact h1.trans h2

theorem keyed_Effects_ev {α : Type} (keyed_Fit : keyed_Fit_T α) : EvOk (α := α) Go.Proofs.Try.prog (envOf (keyed_Effects_C keyed_Fit) keyed_Effects_q keyed_Effects_inl 1000 keyed_Effects_ann false (keyed_Effects_loops keyed_Fit) (fun _ => none)) 6 (keyed_Effects_sp (keyed_Effects_g keyed_Fit)) := by intro ds k; kernel_rfl

theorem keyed_Effects_ok {α : Type} : (keyed_Effects_spec : FunSpec α).ok Go.Proofs.Try.prog :=
  FunSpec.ok_of (sp := keyed_Effects_spec) (C := keyed_Effects_C keyed_Fit) (q := keyed_Effects_q) (inl := keyed_Effects_inl) (N := 1000) (ann := keyed_Effects_ann) (fr := false) (D := 6) (l := (keyed_Effects_loops keyed_Fit)) (hk := (fun _ => none)) (okCons keyed_Fit_ok okNil) (lokCons (keyed_Effects_l0_ok keyed_Fit) lokNil) noHooks (keyed_Effects_ev keyed_Fit)

end
end Go.Rv.Try
