/- What the functions of the program compute, each with the proof that its code computes it. Written by a program (rvp2.py). -/
import Derived.Test.YtmoeohjaafpmgaaProg
import Derived.Test.YtmoeohjaafpmgaaRvP
import Derived.Test.YtmoeohjaafpmgaaFx

namespace Go.Rv.Try
abbrev Z0 : Type := (Int × Int × Int × Bool × Int × Int × Bool × Unit)
abbrev Z1 : Type := (Int × Int × Int × Int × Int × Int × Unit)
end Go.Rv.Try
set_option linter.unusedVariables false
set_option maxRecDepth 100000
set_option maxHeartbeats 4000000
namespace Go.Rv.Try
open Go Go.Rv Go.RowKit
noncomputable section

-- drayman/pay.New

abbrev pay_New_T (α : Type) : Type := (((Seq Z1) × Int × Int × Int × Unit) → Option α) → Option α

noncomputable def pay_New {α : Type} (k : ((Seq Z1) × Int × Int × Int × Unit) → Option α) : Option α :=
  (k ((⟨true, 0, (fun _ => (0, 0, 0, 0, 0, 0, ()))⟩ : Seq Z1), 1, 0, 0, ()))

noncomputable def pay_New_sp {α : Type} (pay_New : pay_New_T α) : FunSpec α := ⟨8, [], [], fun ds k => pay_New  (fun r1 => k (enc dep (.agg [.sl (.int .i64 (.int .i64 (.int .i64 (.int .i64 (.int .i64 (.int .i64 (.nil))))))), .int .i64, .int .i64, .int .i64]) [.q (.int .i64 (.int .i64 (.int .i64 (.int .i64 (.int .i64 (.int .i64 (.nil))))))) r1.1, .i r1.2.1, .i r1.2.2.1, .i r1.2.2.2.1]).1 [])⟩

noncomputable def pay_New_spec {α : Type} : FunSpec α := pay_New_sp pay_New

noncomputable def pay_New_C {α : Type} : List (FunSpec α) := []

noncomputable def pay_New_q : FuncId → Bool := fun f => false

noncomputable def pay_New_inl : FuncId → Bool := fun f => false

noncomputable def pay_New_ann : FuncId → AnnT := fun f p => ⟨[], [], [], [], 0, [], [], none⟩

noncomputable def pay_New_loops {α : Type} : List (LoopSpec α) := []

theorem pay_New_ev {α : Type} : EvOk (α := α) Go.Proofs.Try.prog (envOf (pay_New_C) pay_New_q pay_New_inl 1000 pay_New_ann false (pay_New_loops) (fun _ => none)) 6 (pay_New_sp (pay_New)) := by intro ds k; kernel_rfl

theorem pay_New_ok {α : Type} : (pay_New_spec : FunSpec α).ok Go.Proofs.Try.prog :=
  FunSpec.ok_of (sp := pay_New_spec) (C := pay_New_C) (q := pay_New_q) (inl := pay_New_inl) (N := 1000) (ann := pay_New_ann) (fr := false) (D := 6) (l := (pay_New_loops)) (hk := (fun _ => none)) okNil lokNil noHooks (pay_New_ev)

end
end Go.Rv.Try

set_option linter.unusedVariables false
set_option maxRecDepth 100000
set_option maxHeartbeats 4000000
namespace Go.Rv.Try
open Go Go.Rv Go.RowKit
noncomputable section

-- drayman/num.Fit

abbrev num_Fit_T (α : Type) : Type := Int → (Bool → Option α) → Option α

noncomputable def num_Fit {α : Type} (n1 : Int) (k : Bool → Option α) : Option α :=
  (cond (decide (n1 ≥ 0))
    (k (decide (n1 ≤ 1099511627776)))
    (k false))

noncomputable def num_Fit_sp {α : Type} (num_Fit : num_Fit_T α) : FunSpec α := ⟨73, [.int .i64], [], fun ds k => num_Fit (hdI ds) (fun r1 => k (enc dep (.bool) [.b r1]).1 [])⟩

noncomputable def num_Fit_spec {α : Type} : FunSpec α := num_Fit_sp num_Fit

noncomputable def num_Fit_C {α : Type} : List (FunSpec α) := []

noncomputable def num_Fit_q : FuncId → Bool := fun f => false

noncomputable def num_Fit_inl : FuncId → Bool := fun f => false

noncomputable def num_Fit_ann : FuncId → AnnT := fun f p => ⟨[], [], [], [], 0, [], [], none⟩

noncomputable def num_Fit_loops {α : Type} : List (LoopSpec α) := []

theorem num_Fit_ev {α : Type} : EvOk (α := α) Go.Proofs.Try.prog (envOf (num_Fit_C) num_Fit_q num_Fit_inl 1000 num_Fit_ann false (num_Fit_loops) (fun _ => none)) 6 (num_Fit_sp (num_Fit)) := by intro ds k; kernel_rfl

theorem num_Fit_ok {α : Type} : (num_Fit_spec : FunSpec α).ok Go.Proofs.Try.prog :=
  FunSpec.ok_of (sp := num_Fit_spec) (C := num_Fit_C) (q := num_Fit_q) (inl := num_Fit_inl) (N := 1000) (ann := num_Fit_ann) (fr := false) (D := 6) (l := (num_Fit_loops)) (hk := (fun _ => none)) okNil lokNil noHooks (num_Fit_ev)

end
end Go.Rv.Try

set_option linter.unusedVariables false
set_option maxRecDepth 100000
set_option maxHeartbeats 4000000
namespace Go.Rv.Try
open Go Go.Rv Go.RowKit
noncomputable section

-- drayman/keyed.one

abbrev keyed_one_T (α : Type) : Type := Z1 → (Bool → Option α) → Option α

noncomputable def keyed_one_g {α : Type} (num_Fit : num_Fit_T α) (x1 : Int × Int × Int × Int × Int × Int × Unit) (k : Bool → Option α) : Option α :=
  (cond (!(decide (x1.1 < 1)))
    (cond (!(decide (x1.1 > 1099511627776)))
      (cond (!(decide (x1.2.1 < 0)))
        (cond (!(decide (x1.2.1 ≥ 6)))
          (num_Fit x1.2.2.2.2.2.1 fun r2 =>
            (cond (!r2)
              (k false)
              (cond (x1.2.2.1 == 2)
                (k ((x1.2.2.2.1 == 1) && ((x1.2.2.2.2.1 == 0) && true)))
                (cond (x1.2.2.1 == 4)
                  (k ((x1.2.2.2.1 == 1) && ((x1.2.2.2.2.1 == 1) && true)))
                  (cond (x1.2.2.1 == 5)
                    (cond (x1.2.2.1 == 5)
                      (k ((x1.2.2.2.1 == 0) && ((x1.2.2.2.2.1 == 0) && true)))
                      (k false))
                    (cond (x1.2.2.1 == 3)
                      (k ((x1.2.2.2.1 == 0) && ((x1.2.2.2.2.1 == 0) && true)))
                      (k false)))))))
          (k false))
        (k false))
      (k false))
    (k false))

noncomputable def keyed_one {α : Type} : keyed_one_T α := keyed_one_g num_Fit

noncomputable def keyed_one_sp {α : Type} (keyed_one : keyed_one_T α) : FunSpec α := ⟨63, [.agg [.int .i64, .int .i64, .int .i64, .int .i64, .int .i64, .int .i64]], [], fun ds k => keyed_one (hdI ds, hdI ds.tail, hdI ds.tail.tail, hdI ds.tail.tail.tail, hdI ds.tail.tail.tail.tail, hdI ds.tail.tail.tail.tail.tail, ()) (fun r1 => k (enc dep (.bool) [.b r1]).1 [])⟩

noncomputable def keyed_one_spec {α : Type} : FunSpec α := keyed_one_sp keyed_one

noncomputable def keyed_one_C {α : Type} (num_Fit : num_Fit_T α) : List (FunSpec α) := [num_Fit_sp num_Fit]

noncomputable def keyed_one_q : FuncId → Bool := fun f => Nat.beq f 73

noncomputable def keyed_one_inl : FuncId → Bool := fun f => false

noncomputable def keyed_one_ann : FuncId → AnnT := fun f p => ⟨[], [], [], [], 0, [], [], none⟩

noncomputable def keyed_one_loops {α : Type} (num_Fit : num_Fit_T α) : List (LoopSpec α) := []

theorem keyed_one_ev {α : Type} (num_Fit : num_Fit_T α) : EvOk (α := α) Go.Proofs.Try.prog (envOf (keyed_one_C num_Fit) keyed_one_q keyed_one_inl 1000 keyed_one_ann false (keyed_one_loops num_Fit) (fun _ => none)) 6 (keyed_one_sp (keyed_one_g num_Fit)) := by intro ds k; kernel_rfl

theorem keyed_one_ok {α : Type} : (keyed_one_spec : FunSpec α).ok Go.Proofs.Try.prog :=
  FunSpec.ok_of (sp := keyed_one_spec) (C := keyed_one_C num_Fit) (q := keyed_one_q) (inl := keyed_one_inl) (N := 1000) (ann := keyed_one_ann) (fr := false) (D := 6) (l := (keyed_one_loops num_Fit)) (hk := (fun _ => none)) (okCons num_Fit_ok okNil) lokNil noHooks (keyed_one_ev num_Fit)

end
end Go.Rv.Try

set_option linter.unusedVariables false
set_option maxRecDepth 100000
set_option maxHeartbeats 4000000
namespace Go.Rv.Try
open Go Go.Rv Go.RowKit
noncomputable section

-- cmp.isNaN[int]

abbrev cmp_isNaN_int_T (α : Type) : Type := Int → (Bool → Option α) → Option α

noncomputable def cmp_isNaN_int {α : Type} (x1 : Int) (k : Bool → Option α) : Option α :=
  (k (x1 != x1))

noncomputable def cmp_isNaN_int_sp {α : Type} (cmp_isNaN_int : cmp_isNaN_int_T α) : FunSpec α := ⟨80, [.int .i64], [], fun ds k => cmp_isNaN_int (hdI ds) (fun r1 => k (enc dep (.bool) [.b r1]).1 [])⟩

noncomputable def cmp_isNaN_int_spec {α : Type} : FunSpec α := cmp_isNaN_int_sp cmp_isNaN_int

noncomputable def cmp_isNaN_int_C {α : Type} : List (FunSpec α) := []

noncomputable def cmp_isNaN_int_q : FuncId → Bool := fun f => false

noncomputable def cmp_isNaN_int_inl : FuncId → Bool := fun f => false

noncomputable def cmp_isNaN_int_ann : FuncId → AnnT := fun f p => ⟨[], [], [], [], 0, [], [], none⟩

noncomputable def cmp_isNaN_int_loops {α : Type} : List (LoopSpec α) := []

theorem cmp_isNaN_int_ev {α : Type} : EvOk (α := α) Go.Proofs.Try.prog (envOf (cmp_isNaN_int_C) cmp_isNaN_int_q cmp_isNaN_int_inl 1000 cmp_isNaN_int_ann false (cmp_isNaN_int_loops) (fun _ => none)) 6 (cmp_isNaN_int_sp (cmp_isNaN_int)) := by intro ds k; kernel_rfl

theorem cmp_isNaN_int_ok {α : Type} : (cmp_isNaN_int_spec : FunSpec α).ok Go.Proofs.Try.prog :=
  FunSpec.ok_of (sp := cmp_isNaN_int_spec) (C := cmp_isNaN_int_C) (q := cmp_isNaN_int_q) (inl := cmp_isNaN_int_inl) (N := 1000) (ann := cmp_isNaN_int_ann) (fr := false) (D := 6) (l := (cmp_isNaN_int_loops)) (hk := (fun _ => none)) okNil lokNil noHooks (cmp_isNaN_int_ev)

end
end Go.Rv.Try

set_option linter.unusedVariables false
set_option maxRecDepth 100000
set_option maxHeartbeats 4000000
namespace Go.Rv.Try
open Go Go.Rv Go.RowKit
noncomputable section

-- cmp.Compare[int]

abbrev cmp_Compare_int_T (α : Type) : Type := Int → Int → (Int → Option α) → Option α

noncomputable def cmp_Compare_int_g {α : Type} (cmp_isNaN_int : cmp_isNaN_int_T α) (x1 : Int) (y2 : Int) (k : Int → Option α) : Option α :=
  (cmp_isNaN_int x1 fun r3 =>
    (cmp_isNaN_int y2 fun r4 =>
      (cond r3
        (cond r4
          (k 0)
          (k (-1)))
        (cond r4
          (k 1)
          (cond (decide (x1 < y2))
            (k (-1))
            (cond (decide (x1 > y2))
              (k 1)
              (k 0)))))))

noncomputable def cmp_Compare_int {α : Type} : cmp_Compare_int_T α := cmp_Compare_int_g cmp_isNaN_int

noncomputable def cmp_Compare_int_sp {α : Type} (cmp_Compare_int : cmp_Compare_int_T α) : FunSpec α := ⟨75, [.int .i64, .int .i64], [], fun ds k => cmp_Compare_int (hdI ds) (hdI ds.tail) (fun r1 => k (enc dep (.int .i64) [.i r1]).1 [])⟩

noncomputable def cmp_Compare_int_spec {α : Type} : FunSpec α := cmp_Compare_int_sp cmp_Compare_int

noncomputable def cmp_Compare_int_C {α : Type} (cmp_isNaN_int : cmp_isNaN_int_T α) : List (FunSpec α) := [cmp_isNaN_int_sp cmp_isNaN_int]

noncomputable def cmp_Compare_int_q : FuncId → Bool := fun f => Nat.beq f 80

noncomputable def cmp_Compare_int_inl : FuncId → Bool := fun f => false

noncomputable def cmp_Compare_int_ann : FuncId → AnnT := fun f p => ⟨[], [], [], [], 0, [], [], none⟩

noncomputable def cmp_Compare_int_loops {α : Type} (cmp_isNaN_int : cmp_isNaN_int_T α) : List (LoopSpec α) := []

theorem cmp_Compare_int_ev {α : Type} (cmp_isNaN_int : cmp_isNaN_int_T α) : EvOk (α := α) Go.Proofs.Try.prog (envOf (cmp_Compare_int_C cmp_isNaN_int) cmp_Compare_int_q cmp_Compare_int_inl 1000 cmp_Compare_int_ann false (cmp_Compare_int_loops cmp_isNaN_int) (fun _ => none)) 6 (cmp_Compare_int_sp (cmp_Compare_int_g cmp_isNaN_int)) := by intro ds k; kernel_rfl

theorem cmp_Compare_int_ok {α : Type} : (cmp_Compare_int_spec : FunSpec α).ok Go.Proofs.Try.prog :=
  FunSpec.ok_of (sp := cmp_Compare_int_spec) (C := cmp_Compare_int_C cmp_isNaN_int) (q := cmp_Compare_int_q) (inl := cmp_Compare_int_inl) (N := 1000) (ann := cmp_Compare_int_ann) (fr := false) (D := 6) (l := (cmp_Compare_int_loops cmp_isNaN_int)) (hk := (fun _ => none)) (okCons cmp_isNaN_int_ok okNil) lokNil noHooks (cmp_Compare_int_ev cmp_isNaN_int)

end
end Go.Rv.Try

set_option linter.unusedVariables false
set_option maxRecDepth 100000
set_option maxHeartbeats 4000000
namespace Go.Rv.Try
open Go Go.Rv Go.RowKit
noncomputable section

-- cmp.Or[int]

abbrev cmp_Or_int_T (α : Type) : Type := (Seq (Int × Unit)) → (Int → Option α) → Option α

noncomputable def cmp_Or_int_l0_step {α : Type} (kr : (Int) → Option α) (k0 : (Int) → Option α) (rec : (Int) → (Seq (Int × Unit)) → (Int) → (Int) → Option α) (zero2 : Int) (x3 : Seq (Int × Unit)) (x4 : Int) (x5 : Int) : Option α :=
  (cond (decide (x5 < x4))
    (cond ((decide ((0 : Int) ≤ x5)) && (decide (x5 < (x3.n : Int))))
      (cond ((x3.g x5.toNat).1 != zero2)
        (kr ((x3.g x5.toNat).1))
        (rec zero2 x3 x4 (IntKind.i64.wrap (x5 + 1))))
      none)
    (k0 zero2))

noncomputable def cmp_Or_int_l0_run {α : Type} (kr : (Int) → Option α) (k0 : (Int) → Option α) : Nat → (Int) → (Seq (Int × Unit)) → (Int) → (Int) → Option α
  | 0, _, _, _, _ => none
  | n + 1, zero2, x3, x4, x5 => cmp_Or_int_l0_step kr k0 (fun zero2 x3 x4 x5 => cmp_Or_int_l0_run kr k0 n zero2 x3 x4 x5) zero2 x3 x4 x5

noncomputable def cmp_Or_int {α : Type} (vals1 : Seq (Int × Unit)) (k : Int → Option α) : Option α :=
  (cmp_Or_int_l0_run
    (fun x6 =>
      (k x6))
    (fun x7 =>
      (k x7))
    1000 0 vals1 (vals1.n : Int) 0)

noncomputable def cmp_Or_int_sp {α : Type} (cmp_Or_int : cmp_Or_int_T α) : FunSpec α := ⟨74, [.sl (.int .i64 (.nil))], [], fun ds k => cmp_Or_int (hdQ (.int .i64 (.nil)) ds) (fun r1 => k (enc dep (.int .i64) [.i r1]).1 [])⟩

noncomputable def cmp_Or_int_spec {α : Type} : FunSpec α := cmp_Or_int_sp cmp_Or_int

noncomputable def cmp_Or_int_C {α : Type} : List (FunSpec α) := []

noncomputable def cmp_Or_int_q : FuncId → Bool := fun f => false

noncomputable def cmp_Or_int_inl : FuncId → Bool := fun f => false

noncomputable def cmp_Or_int_ann : FuncId → AnnT := fun f p => if f = 74 then (if p = [true, false, true, true] then ⟨[3, 6, 7, 8], [], [3], [2], 0, [], [], none⟩ else ⟨[], [], [], [], 0, [], [], none⟩) else ⟨[], [], [], [], 0, [], [], none⟩

noncomputable def cmp_Or_int_l0_t : List Sh := [.dead, .dead, .dead, .int .i64, .dead, .dead, .sl (.int .i64 (.nil)), .int .i64, .int .i64, .dead, .dead, .dead, .dead, .dead, .dead, .dead, .dead, .dead]
noncomputable def cmp_Or_int_l0_s : List (List Sh) := []
noncomputable def cmp_Or_int_l0_h : List BSh := []

noncomputable def cmp_Or_int_l0_spec {α : Type} : LoopSpec α := ⟨6, 74, [true, false, true, true], cmp_Or_int_l0_t, cmp_Or_int_l0_s, cmp_Or_int_l0_h, fun ds k => cmp_Or_int_l0_run (fun y1 => k .ret (encSt [.dead, .dead, .int .i64, .dead, .dead, .dead, .dead, .dead, .dead, .dead, .dead, .dead, .dead, .dead, .dead, .dead, .dead, .dead] [] [] [.i y1])) (fun y1 => k (.exit 0) (encSt [.dead, .dead, .dead, .int .i64, .dead, .dead, .dead, .dead, .dead, .dead, .dead, .dead, .dead, .dead, .dead, .dead, .dead, .dead] [] [] [.i y1])) 1000 (hdI ds) (hdQ (.int .i64 (.nil)) ds.tail) (hdI ds.tail.tail) (hdI ds.tail.tail.tail)⟩

noncomputable def cmp_Or_int_loops {α : Type} : List (LoopSpec α) := [cmp_Or_int_l0_spec]

noncomputable def cmp_Or_int_l0_ev {α : Type} (n : Nat) (st : St) (k : X → St → Option α) : Option α := loopN (evCode Go.Proofs.Try.prog (callD Go.Proofs.Try.prog (envOf (cmp_Or_int_C) cmp_Or_int_q cmp_Or_int_inl 1000 cmp_Or_int_ann false (cmp_Or_int_loops) (fun _ => none)) 6) (((envOf (cmp_Or_int_C) cmp_Or_int_q cmp_Or_int_inl 1000 cmp_Or_int_ann false (cmp_Or_int_loops) (fun _ => none)) : Env α).L 6 74) 1000 (cmp_Or_int_ann 74) (false :: [true, false, true, true]) (loopC Go.Proofs.Try.prog 74 [true, false, true, true])) ((cmp_Or_int_ann 74 [true, false, true, true]).head 0) ((cmp_Or_int_ann 74 [true, false, true, true]).leave 0) n st k

theorem cmp_Or_int_l0_eq {α : Type} : ∀ (n : Nat) (zero2 : Int) (x3 : Seq (Int × Unit)) (x4 : Int) (x5 : Int) (k : X → St → Option α), cmp_Or_int_l0_ev n (encSt cmp_Or_int_l0_t cmp_Or_int_l0_s cmp_Or_int_l0_h [.i zero2, .q (.int .i64 (.nil)) x3, .i x4, .i x5]) k = cmp_Or_int_l0_run (fun y1 => k .ret (encSt [.dead, .dead, .int .i64, .dead, .dead, .dead, .dead, .dead, .dead, .dead, .dead, .dead, .dead, .dead, .dead, .dead, .dead, .dead] [] [] [.i y1])) (fun y1 => k (.exit 0) (encSt [.dead, .dead, .dead, .int .i64, .dead, .dead, .dead, .dead, .dead, .dead, .dead, .dead, .dead, .dead, .dead, .dead, .dead, .dead] [] [] [.i y1])) n zero2 x3 x4 x5 := by
  intro n
  induction n with
  | zero => intros; kernel_rfl
  | succ n ih =>
    intro zero2 x3 x4 x5 k
    have e : (fun (zero2 : Int) (x3 : Seq (Int × Unit)) (x4 : Int) (x5 : Int) => cmp_Or_int_l0_ev n (encSt cmp_Or_int_l0_t cmp_Or_int_l0_s cmp_Or_int_l0_h [.i zero2, .q (.int .i64 (.nil)) x3, .i x4, .i x5]) k) = (fun (zero2 : Int) (x3 : Seq (Int × Unit)) (x4 : Int) (x5 : Int) => cmp_Or_int_l0_run (fun y1 => k .ret (encSt [.dead, .dead, .int .i64, .dead, .dead, .dead, .dead, .dead, .dead, .dead, .dead, .dead, .dead, .dead, .dead, .dead, .dead, .dead] [] [] [.i y1])) (fun y1 => k (.exit 0) (encSt [.dead, .dead, .dead, .int .i64, .dead, .dead, .dead, .dead, .dead, .dead, .dead, .dead, .dead, .dead, .dead, .dead, .dead, .dead] [] [] [.i y1])) n zero2 x3 x4 x5) := by
      funext zero2 x3 x4 x5
      exact ih zero2 x3 x4 x5 k
    have h1 : cmp_Or_int_l0_ev (n + 1) (encSt cmp_Or_int_l0_t cmp_Or_int_l0_s cmp_Or_int_l0_h [.i zero2, .q (.int .i64 (.nil)) x3, .i x4, .i x5]) k = cmp_Or_int_l0_step (fun y1 => k .ret (encSt [.dead, .dead, .int .i64, .dead, .dead, .dead, .dead, .dead, .dead, .dead, .dead, .dead, .dead, .dead, .dead, .dead, .dead, .dead] [] [] [.i y1])) (fun y1 => k (.exit 0) (encSt [.dead, .dead, .dead, .int .i64, .dead, .dead, .dead, .dead, .dead, .dead, .dead, .dead, .dead, .dead, .dead, .dead, .dead, .dead] [] [] [.i y1])) (fun (zero2 : Int) (x3 : Seq (Int × Unit)) (x4 : Int) (x5 : Int) => cmp_Or_int_l0_ev n (encSt cmp_Or_int_l0_t cmp_Or_int_l0_s cmp_Or_int_l0_h [.i zero2, .q (.int .i64 (.nil)) x3, .i x4, .i x5]) k) zero2 x3 x4 x5 := by kernel_rfl
    have h2 := congrArg (fun r => cmp_Or_int_l0_step (fun y1 => k .ret (encSt [.dead, .dead, .int .i64, .dead, .dead, .dead, .dead, .dead, .dead, .dead, .dead, .dead, .dead, .dead, .dead, .dead, .dead, .dead] [] [] [.i y1])) (fun y1 => k (.exit 0) (encSt [.dead, .dead, .dead, .int .i64, .dead, .dead, .dead, .dead, .dead, .dead, .dead, .dead, .dead, .dead, .dead, .dead, .dead, .dead] [] [] [.i y1])) r zero2 x3 x4 x5) e
    have h3 : cmp_Or_int_l0_step (fun y1 => k .ret (encSt [.dead, .dead, .int .i64, .dead, .dead, .dead, .dead, .dead, .dead, .dead, .dead, .dead, .dead, .dead, .dead, .dead, .dead, .dead] [] [] [.i y1])) (fun y1 => k (.exit 0) (encSt [.dead, .dead, .dead, .int .i64, .dead, .dead, .dead, .dead, .dead, .dead, .dead, .dead, .dead, .dead, .dead, .dead, .dead, .dead] [] [] [.i y1])) (fun (zero2 : Int) (x3 : Seq (Int × Unit)) (x4 : Int) (x5 : Int) => cmp_Or_int_l0_run (fun y1 => k .ret (encSt [.dead, .dead, .int .i64, .dead, .dead, .dead, .dead, .dead, .dead, .dead, .dead, .dead, .dead, .dead, .dead, .dead, .dead, .dead] [] [] [.i y1])) (fun y1 => k (.exit 0) (encSt [.dead, .dead, .dead, .int .i64, .dead, .dead, .dead, .dead, .dead, .dead, .dead, .dead, .dead, .dead, .dead, .dead, .dead, .dead] [] [] [.i y1])) n zero2 x3 x4 x5) zero2 x3 x4 x5 = cmp_Or_int_l0_run (fun y1 => k .ret (encSt [.dead, .dead, .int .i64, .dead, .dead, .dead, .dead, .dead, .dead, .dead, .dead, .dead, .dead, .dead, .dead, .dead, .dead, .dead] [] [] [.i y1])) (fun y1 => k (.exit 0) (encSt [.dead, .dead, .dead, .int .i64, .dead, .dead, .dead, .dead, .dead, .dead, .dead, .dead, .dead, .dead, .dead, .dead, .dead, .dead] [] [] [.i y1])) (n + 1) zero2 x3 x4 x5 := by kernel_rfl
    exact h1.trans (h2.trans h3)

theorem cmp_Or_int_l0_ok {α : Type} : (cmp_Or_int_l0_spec : LoopSpec α).ok Go.Proofs.Try.prog (envOf (cmp_Or_int_C) cmp_Or_int_q cmp_Or_int_inl 1000 cmp_Or_int_ann false (cmp_Or_int_loops) (fun _ => none)) := by
  intro ds k
  have h1 : cmp_Or_int_l0_ev 1000 (encSt cmp_Or_int_l0_t cmp_Or_int_l0_s cmp_Or_int_l0_h ds) k = cmp_Or_int_l0_ev 1000 (encSt cmp_Or_int_l0_t cmp_Or_int_l0_s cmp_Or_int_l0_h [.i (hdI ds), .q (.int .i64 (.nil)) (hdQ (.int .i64 (.nil)) ds.tail), .i (hdI ds.tail.tail), .i (hdI ds.tail.tail.tail)]) k := by kernel_rfl
  have h2 := cmp_Or_int_l0_eq 1000 (hdI ds) (hdQ (.int .i64 (.nil)) ds.tail) (hdI ds.tail.tail) (hdI ds.tail.tail.tail) k
  exact h1.trans h2

theorem cmp_Or_int_ev {α : Type} : EvOk (α := α) Go.Proofs.Try.prog (envOf (cmp_Or_int_C) cmp_Or_int_q cmp_Or_int_inl 1000 cmp_Or_int_ann false (cmp_Or_int_loops) (fun _ => none)) 6 (cmp_Or_int_sp (cmp_Or_int)) := by intro ds k; kernel_rfl

theorem cmp_Or_int_ok {α : Type} : (cmp_Or_int_spec : FunSpec α).ok Go.Proofs.Try.prog :=
  FunSpec.ok_of (sp := cmp_Or_int_spec) (C := cmp_Or_int_C) (q := cmp_Or_int_q) (inl := cmp_Or_int_inl) (N := 1000) (ann := cmp_Or_int_ann) (fr := false) (D := 6) (l := (cmp_Or_int_loops)) (hk := (fun _ => none)) okNil (lokCons (cmp_Or_int_l0_ok) lokNil) noHooks (cmp_Or_int_ev)

end
end Go.Rv.Try

set_option linter.unusedVariables false
set_option maxRecDepth 100000
set_option maxHeartbeats 4000000
namespace Go.Rv.Try
open Go Go.Rv Go.RowKit
noncomputable section

-- drayman/keyed.rank

abbrev keyed_rank_T (α : Type) : Type := Z1 → Z1 → (Int → Option α) → Option α

noncomputable def keyed_rank_g {α : Type} (cmp_Compare_int : cmp_Compare_int_T α) (cmp_Or_int : cmp_Or_int_T α) (a1 : Int × Int × Int × Int × Int × Int × Unit) (b2 : Int × Int × Int × Int × Int × Int × Unit) (k : Int → Option α) : Option α :=
  (cmp_Compare_int a1.1 b2.1 fun r3 =>
    (cmp_Compare_int a1.2.1 b2.2.1 fun r4 =>
      (cmp_Or_int (⟨false, 2, (tSel [(r3, ()), (r4, ())] (0, ()))⟩ : Seq (Int × Unit)) fun r5 =>
        (k r5))))

noncomputable def keyed_rank {α : Type} : keyed_rank_T α := keyed_rank_g cmp_Compare_int cmp_Or_int

noncomputable def keyed_rank_sp {α : Type} (keyed_rank : keyed_rank_T α) : FunSpec α := ⟨64, [.agg [.int .i64, .int .i64, .int .i64, .int .i64, .int .i64, .int .i64], .agg [.int .i64, .int .i64, .int .i64, .int .i64, .int .i64, .int .i64]], [], fun ds k => keyed_rank (hdI ds, hdI ds.tail, hdI ds.tail.tail, hdI ds.tail.tail.tail, hdI ds.tail.tail.tail.tail, hdI ds.tail.tail.tail.tail.tail, ()) (hdI ds.tail.tail.tail.tail.tail.tail, hdI ds.tail.tail.tail.tail.tail.tail.tail, hdI ds.tail.tail.tail.tail.tail.tail.tail.tail, hdI ds.tail.tail.tail.tail.tail.tail.tail.tail.tail, hdI ds.tail.tail.tail.tail.tail.tail.tail.tail.tail.tail, hdI ds.tail.tail.tail.tail.tail.tail.tail.tail.tail.tail.tail, ()) (fun r1 => k (enc dep (.int .i64) [.i r1]).1 [])⟩

noncomputable def keyed_rank_spec {α : Type} : FunSpec α := keyed_rank_sp keyed_rank

noncomputable def keyed_rank_C {α : Type} (cmp_Compare_int : cmp_Compare_int_T α) (cmp_Or_int : cmp_Or_int_T α) : List (FunSpec α) := [cmp_Compare_int_sp cmp_Compare_int, cmp_Or_int_sp cmp_Or_int]

noncomputable def keyed_rank_q : FuncId → Bool := fun f => Nat.beq f 74 || Nat.beq f 75

noncomputable def keyed_rank_inl : FuncId → Bool := fun f => false

noncomputable def keyed_rank_ann : FuncId → AnnT := fun f p => if f = 64 then (if p = [false, true] then ⟨[], [], [], [], 2, [], [], none⟩ else ⟨[], [], [], [], 0, [], [], none⟩) else ⟨[], [], [], [], 0, [], [], none⟩

noncomputable def keyed_rank_loops {α : Type} (cmp_Compare_int : cmp_Compare_int_T α) (cmp_Or_int : cmp_Or_int_T α) : List (LoopSpec α) := []

theorem keyed_rank_ev {α : Type} (cmp_Compare_int : cmp_Compare_int_T α) (cmp_Or_int : cmp_Or_int_T α) : EvOk (α := α) Go.Proofs.Try.prog (envOf (keyed_rank_C cmp_Compare_int cmp_Or_int) keyed_rank_q keyed_rank_inl 1000 keyed_rank_ann false (keyed_rank_loops cmp_Compare_int cmp_Or_int) (fun _ => none)) 6 (keyed_rank_sp (keyed_rank_g cmp_Compare_int cmp_Or_int)) := by intro ds k; kernel_rfl

theorem keyed_rank_ok {α : Type} : (keyed_rank_spec : FunSpec α).ok Go.Proofs.Try.prog :=
  FunSpec.ok_of (sp := keyed_rank_spec) (C := keyed_rank_C cmp_Compare_int cmp_Or_int) (q := keyed_rank_q) (inl := keyed_rank_inl) (N := 1000) (ann := keyed_rank_ann) (fr := false) (D := 6) (l := (keyed_rank_loops cmp_Compare_int cmp_Or_int)) (hk := (fun _ => none)) (okCons cmp_Compare_int_ok (okCons cmp_Or_int_ok okNil)) lokNil noHooks (keyed_rank_ev cmp_Compare_int cmp_Or_int)

end
end Go.Rv.Try

set_option linter.unusedVariables false
set_option maxRecDepth 100000
set_option maxHeartbeats 4000000
namespace Go.Rv.Try
open Go Go.Rv Go.RowKit
noncomputable section

-- drayman/keyed.Fit

abbrev keyed_Fit_T (α : Type) : Type := (Seq Z1) → (Bool → Option α) → Option α

noncomputable def keyed_Fit_l0_step {α : Type} (keyed_one : keyed_one_T α) (keyed_rank : keyed_rank_T α) (kr : (Bool) → Option α) (k0 : Option α) (rec : (Seq Z1) → (Seq Z1) → (Int) → (Int) → Option α) (l2 : Seq Z1) (x3 : Seq Z1) (x4 : Int) (x5 : Int) : Option α :=
  (cond (decide (x5 < x4))
    (cond ((decide ((0 : Int) ≤ x5)) && (decide (x5 < (x3.n : Int))))
      (keyed_one (x3.g x5.toNat) fun r6 =>
        (cond (!(!r6))
          (cond (decide (x5 > 0))
            (cond ((decide ((0 : Int) ≤ (IntKind.i64.wrap (x5 - 1)))) && (decide ((IntKind.i64.wrap (x5 - 1)) < (l2.n : Int))))
              (keyed_rank (l2.g (IntKind.i64.wrap (x5 - 1)).toNat) (x3.g x5.toNat) fun r7 =>
                (cond (decide (r7 ≥ 0))
                  (kr false)
                  (rec l2 x3 x4 (IntKind.i64.wrap (x5 + 1)))))
              none)
            (rec l2 x3 x4 (IntKind.i64.wrap (x5 + 1))))
          (kr false)))
      none)
    (k0))

noncomputable def keyed_Fit_l0_run {α : Type} (keyed_one : keyed_one_T α) (keyed_rank : keyed_rank_T α) (kr : (Bool) → Option α) (k0 : Option α) : Nat → (Seq Z1) → (Seq Z1) → (Int) → (Int) → Option α
  | 0, _, _, _, _ => none
  | n + 1, l2, x3, x4, x5 => keyed_Fit_l0_step keyed_one keyed_rank kr k0 (fun l2 x3 x4 x5 => keyed_Fit_l0_run keyed_one keyed_rank kr k0 n l2 x3 x4 x5) l2 x3 x4 x5

noncomputable def keyed_Fit_g {α : Type} (keyed_one : keyed_one_T α) (keyed_rank : keyed_rank_T α) (l1 : Seq Z1) (k : Bool → Option α) : Option α :=
  (keyed_Fit_l0_run keyed_one keyed_rank
    (fun x8 =>
      (k x8))
    ((k true))
    1000 l1 l1 (l1.n : Int) 0)

noncomputable def keyed_Fit {α : Type} : keyed_Fit_T α := keyed_Fit_g keyed_one keyed_rank

noncomputable def keyed_Fit_sp {α : Type} (keyed_Fit : keyed_Fit_T α) : FunSpec α := ⟨38, [.sl (.int .i64 (.int .i64 (.int .i64 (.int .i64 (.int .i64 (.int .i64 (.nil)))))))], [], fun ds k => keyed_Fit (hdQ (.int .i64 (.int .i64 (.int .i64 (.int .i64 (.int .i64 (.int .i64 (.nil))))))) ds) (fun r1 => k (enc dep (.bool) [.b r1]).1 [])⟩

noncomputable def keyed_Fit_spec {α : Type} : FunSpec α := keyed_Fit_sp keyed_Fit

noncomputable def keyed_Fit_C {α : Type} (keyed_one : keyed_one_T α) (keyed_rank : keyed_rank_T α) : List (FunSpec α) := [keyed_one_sp keyed_one, keyed_rank_sp keyed_rank]

noncomputable def keyed_Fit_q : FuncId → Bool := fun f => Nat.beq f 63 || Nat.beq f 64

noncomputable def keyed_Fit_inl : FuncId → Bool := fun f => false

noncomputable def keyed_Fit_ann : FuncId → AnnT := fun f p => if f = 38 then (if p = [true, false, true] then ⟨[0, 5, 6, 7], [], [], [2], 0, [], [], none⟩ else if p = [false, true, false, true, true, false, true, false, true] then ⟨[], [], [], [], 2, [], [], none⟩ else ⟨[], [], [], [], 0, [], [], none⟩) else ⟨[], [], [], [], 0, [], [], none⟩

noncomputable def keyed_Fit_l0_t : List Sh := [.sl (.int .i64 (.int .i64 (.int .i64 (.int .i64 (.int .i64 (.int .i64 (.nil))))))), .dead, .dead, .dead, .dead, .sl (.int .i64 (.int .i64 (.int .i64 (.int .i64 (.int .i64 (.int .i64 (.nil))))))), .int .i64, .int .i64, .dead, .dead, .dead, .dead, .dead, .dead, .dead, .dead, .dead, .dead, .dead, .dead, .dead, .dead, .dead, .dead, .dead, .dead, .dead, .dead, .dead, .dead]
noncomputable def keyed_Fit_l0_s : List (List Sh) := []
noncomputable def keyed_Fit_l0_h : List BSh := []

noncomputable def keyed_Fit_l0_spec {α : Type} (keyed_one : keyed_one_T α) (keyed_rank : keyed_rank_T α) : LoopSpec α := ⟨6, 38, [true, false, true], keyed_Fit_l0_t, keyed_Fit_l0_s, keyed_Fit_l0_h, fun ds k => keyed_Fit_l0_run keyed_one keyed_rank (fun y1 => k .ret (encSt [.dead, .dead, .bool, .dead, .dead, .dead, .dead, .dead, .dead, .dead, .dead, .dead, .dead, .dead, .dead, .dead, .dead, .dead, .dead, .dead, .dead, .dead, .dead, .dead, .dead, .dead, .dead, .dead, .dead, .dead] [] [] [.b y1])) (k (.exit 0) (encSt [.dead, .dead, .dead, .dead, .dead, .dead, .dead, .dead, .dead, .dead, .dead, .dead, .dead, .dead, .dead, .dead, .dead, .dead, .dead, .dead, .dead, .dead, .dead, .dead, .dead, .dead, .dead, .dead, .dead, .dead] [] [] [])) 1000 (hdQ (.int .i64 (.int .i64 (.int .i64 (.int .i64 (.int .i64 (.int .i64 (.nil))))))) ds) (hdQ (.int .i64 (.int .i64 (.int .i64 (.int .i64 (.int .i64 (.int .i64 (.nil))))))) ds.tail) (hdI ds.tail.tail) (hdI ds.tail.tail.tail)⟩

noncomputable def keyed_Fit_loops {α : Type} (keyed_one : keyed_one_T α) (keyed_rank : keyed_rank_T α) : List (LoopSpec α) := [keyed_Fit_l0_spec keyed_one keyed_rank]

noncomputable def keyed_Fit_l0_ev {α : Type} (keyed_one : keyed_one_T α) (keyed_rank : keyed_rank_T α) (n : Nat) (st : St) (k : X → St → Option α) : Option α := loopN (evCode Go.Proofs.Try.prog (callD Go.Proofs.Try.prog (envOf (keyed_Fit_C keyed_one keyed_rank) keyed_Fit_q keyed_Fit_inl 1000 keyed_Fit_ann false (keyed_Fit_loops keyed_one keyed_rank) (fun _ => none)) 6) (((envOf (keyed_Fit_C keyed_one keyed_rank) keyed_Fit_q keyed_Fit_inl 1000 keyed_Fit_ann false (keyed_Fit_loops keyed_one keyed_rank) (fun _ => none)) : Env α).L 6 38) 1000 (keyed_Fit_ann 38) (false :: [true, false, true]) (loopC Go.Proofs.Try.prog 38 [true, false, true])) ((keyed_Fit_ann 38 [true, false, true]).head 0) ((keyed_Fit_ann 38 [true, false, true]).leave 0) n st k

theorem keyed_Fit_l0_eq {α : Type} (keyed_one : keyed_one_T α) (keyed_rank : keyed_rank_T α) : ∀ (n : Nat) (l2 : Seq Z1) (x3 : Seq Z1) (x4 : Int) (x5 : Int) (k : X → St → Option α), keyed_Fit_l0_ev keyed_one keyed_rank n (encSt keyed_Fit_l0_t keyed_Fit_l0_s keyed_Fit_l0_h [.q (.int .i64 (.int .i64 (.int .i64 (.int .i64 (.int .i64 (.int .i64 (.nil))))))) l2, .q (.int .i64 (.int .i64 (.int .i64 (.int .i64 (.int .i64 (.int .i64 (.nil))))))) x3, .i x4, .i x5]) k = keyed_Fit_l0_run keyed_one keyed_rank (fun y1 => k .ret (encSt [.dead, .dead, .bool, .dead, .dead, .dead, .dead, .dead, .dead, .dead, .dead, .dead, .dead, .dead, .dead, .dead, .dead, .dead, .dead, .dead, .dead, .dead, .dead, .dead, .dead, .dead, .dead, .dead, .dead, .dead] [] [] [.b y1])) (k (.exit 0) (encSt [.dead, .dead, .dead, .dead, .dead, .dead, .dead, .dead, .dead, .dead, .dead, .dead, .dead, .dead, .dead, .dead, .dead, .dead, .dead, .dead, .dead, .dead, .dead, .dead, .dead, .dead, .dead, .dead, .dead, .dead] [] [] [])) n l2 x3 x4 x5 := by
  intro n
  induction n with
  | zero => intros; kernel_rfl
  | succ n ih =>
    intro l2 x3 x4 x5 k
    have e : (fun (l2 : Seq Z1) (x3 : Seq Z1) (x4 : Int) (x5 : Int) => keyed_Fit_l0_ev keyed_one keyed_rank n (encSt keyed_Fit_l0_t keyed_Fit_l0_s keyed_Fit_l0_h [.q (.int .i64 (.int .i64 (.int .i64 (.int .i64 (.int .i64 (.int .i64 (.nil))))))) l2, .q (.int .i64 (.int .i64 (.int .i64 (.int .i64 (.int .i64 (.int .i64 (.nil))))))) x3, .i x4, .i x5]) k) = (fun (l2 : Seq Z1) (x3 : Seq Z1) (x4 : Int) (x5 : Int) => keyed_Fit_l0_run keyed_one keyed_rank (fun y1 => k .ret (encSt [.dead, .dead, .bool, .dead, .dead, .dead, .dead, .dead, .dead, .dead, .dead, .dead, .dead, .dead, .dead, .dead, .dead, .dead, .dead, .dead, .dead, .dead, .dead, .dead, .dead, .dead, .dead, .dead, .dead, .dead] [] [] [.b y1])) (k (.exit 0) (encSt [.dead, .dead, .dead, .dead, .dead, .dead, .dead, .dead, .dead, .dead, .dead, .dead, .dead, .dead, .dead, .dead, .dead, .dead, .dead, .dead, .dead, .dead, .dead, .dead, .dead, .dead, .dead, .dead, .dead, .dead] [] [] [])) n l2 x3 x4 x5) := by
      funext l2 x3 x4 x5
      exact ih l2 x3 x4 x5 k
    have h1 : keyed_Fit_l0_ev keyed_one keyed_rank (n + 1) (encSt keyed_Fit_l0_t keyed_Fit_l0_s keyed_Fit_l0_h [.q (.int .i64 (.int .i64 (.int .i64 (.int .i64 (.int .i64 (.int .i64 (.nil))))))) l2, .q (.int .i64 (.int .i64 (.int .i64 (.int .i64 (.int .i64 (.int .i64 (.nil))))))) x3, .i x4, .i x5]) k = keyed_Fit_l0_step keyed_one keyed_rank (fun y1 => k .ret (encSt [.dead, .dead, .bool, .dead, .dead, .dead, .dead, .dead, .dead, .dead, .dead, .dead, .dead, .dead, .dead, .dead, .dead, .dead, .dead, .dead, .dead, .dead, .dead, .dead, .dead, .dead, .dead, .dead, .dead, .dead] [] [] [.b y1])) (k (.exit 0) (encSt [.dead, .dead, .dead, .dead, .dead, .dead, .dead, .dead, .dead, .dead, .dead, .dead, .dead, .dead, .dead, .dead, .dead, .dead, .dead, .dead, .dead, .dead, .dead, .dead, .dead, .dead, .dead, .dead, .dead, .dead] [] [] [])) (fun (l2 : Seq Z1) (x3 : Seq Z1) (x4 : Int) (x5 : Int) => keyed_Fit_l0_ev keyed_one keyed_rank n (encSt keyed_Fit_l0_t keyed_Fit_l0_s keyed_Fit_l0_h [.q (.int .i64 (.int .i64 (.int .i64 (.int .i64 (.int .i64 (.int .i64 (.nil))))))) l2, .q (.int .i64 (.int .i64 (.int .i64 (.int .i64 (.int .i64 (.int .i64 (.nil))))))) x3, .i x4, .i x5]) k) l2 x3 x4 x5 := by kernel_rfl
    have h2 := congrArg (fun r => keyed_Fit_l0_step keyed_one keyed_rank (fun y1 => k .ret (encSt [.dead, .dead, .bool, .dead, .dead, .dead, .dead, .dead, .dead, .dead, .dead, .dead, .dead, .dead, .dead, .dead, .dead, .dead, .dead, .dead, .dead, .dead, .dead, .dead, .dead, .dead, .dead, .dead, .dead, .dead] [] [] [.b y1])) (k (.exit 0) (encSt [.dead, .dead, .dead, .dead, .dead, .dead, .dead, .dead, .dead, .dead, .dead, .dead, .dead, .dead, .dead, .dead, .dead, .dead, .dead, .dead, .dead, .dead, .dead, .dead, .dead, .dead, .dead, .dead, .dead, .dead] [] [] [])) r l2 x3 x4 x5) e
    have h3 : keyed_Fit_l0_step keyed_one keyed_rank (fun y1 => k .ret (encSt [.dead, .dead, .bool, .dead, .dead, .dead, .dead, .dead, .dead, .dead, .dead, .dead, .dead, .dead, .dead, .dead, .dead, .dead, .dead, .dead, .dead, .dead, .dead, .dead, .dead, .dead, .dead, .dead, .dead, .dead] [] [] [.b y1])) (k (.exit 0) (encSt [.dead, .dead, .dead, .dead, .dead, .dead, .dead, .dead, .dead, .dead, .dead, .dead, .dead, .dead, .dead, .dead, .dead, .dead, .dead, .dead, .dead, .dead, .dead, .dead, .dead, .dead, .dead, .dead, .dead, .dead] [] [] [])) (fun (l2 : Seq Z1) (x3 : Seq Z1) (x4 : Int) (x5 : Int) => keyed_Fit_l0_run keyed_one keyed_rank (fun y1 => k .ret (encSt [.dead, .dead, .bool, .dead, .dead, .dead, .dead, .dead, .dead, .dead, .dead, .dead, .dead, .dead, .dead, .dead, .dead, .dead, .dead, .dead, .dead, .dead, .dead, .dead, .dead, .dead, .dead, .dead, .dead, .dead] [] [] [.b y1])) (k (.exit 0) (encSt [.dead, .dead, .dead, .dead, .dead, .dead, .dead, .dead, .dead, .dead, .dead, .dead, .dead, .dead, .dead, .dead, .dead, .dead, .dead, .dead, .dead, .dead, .dead, .dead, .dead, .dead, .dead, .dead, .dead, .dead] [] [] [])) n l2 x3 x4 x5) l2 x3 x4 x5 = keyed_Fit_l0_run keyed_one keyed_rank (fun y1 => k .ret (encSt [.dead, .dead, .bool, .dead, .dead, .dead, .dead, .dead, .dead, .dead, .dead, .dead, .dead, .dead, .dead, .dead, .dead, .dead, .dead, .dead, .dead, .dead, .dead, .dead, .dead, .dead, .dead, .dead, .dead, .dead] [] [] [.b y1])) (k (.exit 0) (encSt [.dead, .dead, .dead, .dead, .dead, .dead, .dead, .dead, .dead, .dead, .dead, .dead, .dead, .dead, .dead, .dead, .dead, .dead, .dead, .dead, .dead, .dead, .dead, .dead, .dead, .dead, .dead, .dead, .dead, .dead] [] [] [])) (n + 1) l2 x3 x4 x5 := by kernel_rfl
    exact h1.trans (h2.trans h3)

theorem keyed_Fit_l0_ok {α : Type} (keyed_one : keyed_one_T α) (keyed_rank : keyed_rank_T α) : (keyed_Fit_l0_spec keyed_one keyed_rank : LoopSpec α).ok Go.Proofs.Try.prog (envOf (keyed_Fit_C keyed_one keyed_rank) keyed_Fit_q keyed_Fit_inl 1000 keyed_Fit_ann false (keyed_Fit_loops keyed_one keyed_rank) (fun _ => none)) := by
  intro ds k
  have h1 : keyed_Fit_l0_ev keyed_one keyed_rank 1000 (encSt keyed_Fit_l0_t keyed_Fit_l0_s keyed_Fit_l0_h ds) k = keyed_Fit_l0_ev keyed_one keyed_rank 1000 (encSt keyed_Fit_l0_t keyed_Fit_l0_s keyed_Fit_l0_h [.q (.int .i64 (.int .i64 (.int .i64 (.int .i64 (.int .i64 (.int .i64 (.nil))))))) (hdQ (.int .i64 (.int .i64 (.int .i64 (.int .i64 (.int .i64 (.int .i64 (.nil))))))) ds), .q (.int .i64 (.int .i64 (.int .i64 (.int .i64 (.int .i64 (.int .i64 (.nil))))))) (hdQ (.int .i64 (.int .i64 (.int .i64 (.int .i64 (.int .i64 (.int .i64 (.nil))))))) ds.tail), .i (hdI ds.tail.tail), .i (hdI ds.tail.tail.tail)]) k := by kernel_rfl
  have h2 := keyed_Fit_l0_eq keyed_one keyed_rank 1000 (hdQ (.int .i64 (.int .i64 (.int .i64 (.int .i64 (.int .i64 (.int .i64 (.nil))))))) ds) (hdQ (.int .i64 (.int .i64 (.int .i64 (.int .i64 (.int .i64 (.int .i64 (.nil))))))) ds.tail) (hdI ds.tail.tail) (hdI ds.tail.tail.tail) k
  exact h1.trans h2

theorem keyed_Fit_ev {α : Type} (keyed_one : keyed_one_T α) (keyed_rank : keyed_rank_T α) : EvOk (α := α) Go.Proofs.Try.prog (envOf (keyed_Fit_C keyed_one keyed_rank) keyed_Fit_q keyed_Fit_inl 1000 keyed_Fit_ann false (keyed_Fit_loops keyed_one keyed_rank) (fun _ => none)) 6 (keyed_Fit_sp (keyed_Fit_g keyed_one keyed_rank)) := by intro ds k; kernel_rfl

theorem keyed_Fit_ok {α : Type} : (keyed_Fit_spec : FunSpec α).ok Go.Proofs.Try.prog :=
  FunSpec.ok_of (sp := keyed_Fit_spec) (C := keyed_Fit_C keyed_one keyed_rank) (q := keyed_Fit_q) (inl := keyed_Fit_inl) (N := 1000) (ann := keyed_Fit_ann) (fr := false) (D := 6) (l := (keyed_Fit_loops keyed_one keyed_rank)) (hk := (fun _ => none)) (okCons keyed_one_ok (okCons keyed_rank_ok okNil)) (lokCons (keyed_Fit_l0_ok keyed_one keyed_rank) lokNil) noHooks (keyed_Fit_ev keyed_one keyed_rank)

end
end Go.Rv.Try

set_option linter.unusedVariables false
set_option maxRecDepth 100000
set_option maxHeartbeats 4000000
namespace Go.Rv.Try
open Go Go.Rv Go.RowKit
noncomputable section

-- (drayman/pay.Till).sums

abbrev pay_Till_sums_T (α : Type) : Type := ((Seq Z1) × Int × Int × Int × Unit) → ((Seq (Int × Unit)) → Option α) → Option α

noncomputable def pay_Till_sums {α : Type} (t1 : (Seq Z1) × Int × Int × Int × Unit) (k : (Seq (Int × Unit)) → Option α) : Option α :=
  (k (⟨false, 2, (tSel [(t1.2.2.1, ()), t1.2.2.2] (0, ()))⟩ : Seq (Int × Unit)))

noncomputable def pay_Till_sums_sp {α : Type} (pay_Till_sums : pay_Till_sums_T α) : FunSpec α := ⟨99, [.agg [.sl (.int .i64 (.int .i64 (.int .i64 (.int .i64 (.int .i64 (.int .i64 (.nil))))))), .int .i64, .int .i64, .int .i64]], [], fun ds k => pay_Till_sums (hdQ (.int .i64 (.int .i64 (.int .i64 (.int .i64 (.int .i64 (.int .i64 (.nil))))))) ds, hdI ds.tail, hdI ds.tail.tail, hdI ds.tail.tail.tail, ()) (fun q1 => k (enc dep (.own 0) []).1 (encBs [.row true (.int .i64 (.nil))] [.q (.int .i64 (.nil)) q1]).1)⟩

noncomputable def pay_Till_sums_spec {α : Type} : FunSpec α := pay_Till_sums_sp pay_Till_sums

noncomputable def pay_Till_sums_C {α : Type} : List (FunSpec α) := []

noncomputable def pay_Till_sums_q : FuncId → Bool := fun f => false

noncomputable def pay_Till_sums_inl : FuncId → Bool := fun f => false

noncomputable def pay_Till_sums_ann : FuncId → AnnT := fun f p => ⟨[], [], [], [], 0, [], [], none⟩

noncomputable def pay_Till_sums_loops {α : Type} : List (LoopSpec α) := []

theorem pay_Till_sums_ev {α : Type} : EvOk (α := α) Go.Proofs.Try.prog (envOf (pay_Till_sums_C) pay_Till_sums_q pay_Till_sums_inl 1000 pay_Till_sums_ann false (pay_Till_sums_loops) (fun _ => none)) 6 (pay_Till_sums_sp (pay_Till_sums)) := by intro ds k; kernel_rfl

theorem pay_Till_sums_ok {α : Type} : (pay_Till_sums_spec : FunSpec α).ok Go.Proofs.Try.prog :=
  FunSpec.ok_of (sp := pay_Till_sums_spec) (C := pay_Till_sums_C) (q := pay_Till_sums_q) (inl := pay_Till_sums_inl) (N := 1000) (ann := pay_Till_sums_ann) (fr := false) (D := 6) (l := (pay_Till_sums_loops)) (hk := (fun _ => none)) okNil lokNil noHooks (pay_Till_sums_ev)

end
end Go.Rv.Try

set_option linter.unusedVariables false
set_option maxRecDepth 100000
set_option maxHeartbeats 4000000
namespace Go.Rv.Try
open Go Go.Rv Go.RowKit
noncomputable section

-- drayman/pay.within$1

abbrev pay_within_1_T (α : Type) : Type := Int → (Bool → Option α) → Option α

noncomputable def pay_within_1 {α : Type} (n1 : Int) (k : Bool → Option α) : Option α :=
  (cond (!(decide (n1 < (-1152921504606846976))))
    (k (decide (n1 > 1152921504606846976)))
    (k true))

noncomputable def pay_within_1_sp {α : Type} (pay_within_1 : pay_within_1_T α) : FunSpec α := ⟨62, [.int .i64], [], fun ds k => pay_within_1 (hdI ds) (fun r1 => k (enc dep (.bool) [.b r1]).1 [])⟩

noncomputable def pay_within_1_spec {α : Type} : FunSpec α := pay_within_1_sp pay_within_1

noncomputable def pay_within_1_C {α : Type} : List (FunSpec α) := []

noncomputable def pay_within_1_q : FuncId → Bool := fun f => false

noncomputable def pay_within_1_inl : FuncId → Bool := fun f => false

noncomputable def pay_within_1_ann : FuncId → AnnT := fun f p => ⟨[], [], [], [], 0, [], [], none⟩

noncomputable def pay_within_1_loops {α : Type} : List (LoopSpec α) := []

theorem pay_within_1_ev {α : Type} : EvOk (α := α) Go.Proofs.Try.prog (envOf (pay_within_1_C) pay_within_1_q pay_within_1_inl 1000 pay_within_1_ann false (pay_within_1_loops) (fun _ => none)) 6 (pay_within_1_sp (pay_within_1)) := by intro ds k; kernel_rfl

theorem pay_within_1_ok {α : Type} : (pay_within_1_spec : FunSpec α).ok Go.Proofs.Try.prog :=
  FunSpec.ok_of (sp := pay_within_1_spec) (C := pay_within_1_C) (q := pay_within_1_q) (inl := pay_within_1_inl) (N := 1000) (ann := pay_within_1_ann) (fr := false) (D := 6) (l := (pay_within_1_loops)) (hk := (fun _ => none)) okNil lokNil noHooks (pay_within_1_ev)

end
end Go.Rv.Try

set_option linter.unusedVariables false
set_option maxRecDepth 100000
set_option maxHeartbeats 4000000
namespace Go.Rv.Try
open Go Go.Rv Go.RowKit
noncomputable section

-- slices.IndexFunc[[]int,int]

abbrev slices_IndexFunc_int_int_T (α : Type) : Type := (Seq (Int × Unit)) → (Int → Option α) → Option α

noncomputable def slices_IndexFunc_int_int_l0_step {α : Type} (pay_within_1 : pay_within_1_T α) (kr : (Int) → Option α) (k0 : Option α) (rec : (Seq (Int × Unit)) → (Int) → (Int) → Option α) (s2 : Seq (Int × Unit)) (x3 : Int) (x4 : Int) : Option α :=
  (cond (decide (x4 < x3))
    (cond ((decide ((0 : Int) ≤ x4)) && (decide (x4 < (s2.n : Int))))
      (pay_within_1 ((s2.g x4.toNat).1) fun r5 =>
        (cond r5
          (kr x4)
          (rec s2 x3 (IntKind.i64.wrap (x4 + 1)))))
      none)
    (k0))

noncomputable def slices_IndexFunc_int_int_l0_run {α : Type} (pay_within_1 : pay_within_1_T α) (kr : (Int) → Option α) (k0 : Option α) : Nat → (Seq (Int × Unit)) → (Int) → (Int) → Option α
  | 0, _, _, _ => none
  | n + 1, s2, x3, x4 => slices_IndexFunc_int_int_l0_step pay_within_1 kr k0 (fun s2 x3 x4 => slices_IndexFunc_int_int_l0_run pay_within_1 kr k0 n s2 x3 x4) s2 x3 x4

noncomputable def slices_IndexFunc_int_int_g {α : Type} (pay_within_1 : pay_within_1_T α) (s1 : Seq (Int × Unit)) (k : Int → Option α) : Option α :=
  (slices_IndexFunc_int_int_l0_run pay_within_1
    (fun x6 =>
      (k x6))
    ((k (-1)))
    1000 s1 (s1.n : Int) 0)

noncomputable def slices_IndexFunc_int_int {α : Type} : slices_IndexFunc_int_int_T α := slices_IndexFunc_int_int_g pay_within_1

noncomputable def slices_IndexFunc_int_int_sp {α : Type} (slices_IndexFunc_int_int : slices_IndexFunc_int_int_T α) : FunSpec α := ⟨72, [.sl (.int .i64 (.nil)), .func (.func 62) [] []], [], fun ds k => slices_IndexFunc_int_int (hdQ (.int .i64 (.nil)) ds) (fun r1 => k (enc dep (.int .i64) [.i r1]).1 [])⟩

noncomputable def slices_IndexFunc_int_int_spec {α : Type} : FunSpec α := slices_IndexFunc_int_int_sp slices_IndexFunc_int_int

noncomputable def slices_IndexFunc_int_int_C {α : Type} (pay_within_1 : pay_within_1_T α) : List (FunSpec α) := [pay_within_1_sp pay_within_1]

noncomputable def slices_IndexFunc_int_int_q : FuncId → Bool := fun f => Nat.beq f 62

noncomputable def slices_IndexFunc_int_int_inl : FuncId → Bool := fun f => false

noncomputable def slices_IndexFunc_int_int_ann : FuncId → AnnT := fun f p => if f = 72 then (if p = [true, false, true] then ⟨[0, 1, 7, 8], [], [], [4], 0, [], [], none⟩ else ⟨[], [], [], [], 0, [], [], none⟩) else ⟨[], [], [], [], 0, [], [], none⟩

noncomputable def slices_IndexFunc_int_int_l0_t : List Sh := [.sl (.int .i64 (.nil)), .func (.func 62) [] [], .dead, .dead, .dead, .dead, .dead, .int .i64, .int .i64, .dead, .dead, .dead, .dead, .dead, .dead, .dead, .dead, .dead, .dead]
noncomputable def slices_IndexFunc_int_int_l0_s : List (List Sh) := []
noncomputable def slices_IndexFunc_int_int_l0_h : List BSh := []

noncomputable def slices_IndexFunc_int_int_l0_spec {α : Type} (pay_within_1 : pay_within_1_T α) : LoopSpec α := ⟨6, 72, [true, false, true], slices_IndexFunc_int_int_l0_t, slices_IndexFunc_int_int_l0_s, slices_IndexFunc_int_int_l0_h, fun ds k => slices_IndexFunc_int_int_l0_run pay_within_1 (fun y1 => k .ret (encSt [.dead, .dead, .dead, .dead, .int .i64, .dead, .dead, .dead, .dead, .dead, .dead, .dead, .dead, .dead, .dead, .dead, .dead, .dead, .dead] [] [] [.i y1])) (k (.exit 0) (encSt [.dead, .dead, .dead, .dead, .dead, .dead, .dead, .dead, .dead, .dead, .dead, .dead, .dead, .dead, .dead, .dead, .dead, .dead, .dead] [] [] [])) 1000 (hdQ (.int .i64 (.nil)) ds) (hdI ds.tail) (hdI ds.tail.tail)⟩

noncomputable def slices_IndexFunc_int_int_loops {α : Type} (pay_within_1 : pay_within_1_T α) : List (LoopSpec α) := [slices_IndexFunc_int_int_l0_spec pay_within_1]

noncomputable def slices_IndexFunc_int_int_l0_ev {α : Type} (pay_within_1 : pay_within_1_T α) (n : Nat) (st : St) (k : X → St → Option α) : Option α := loopN (evCode Go.Proofs.Try.prog (callD Go.Proofs.Try.prog (envOf (slices_IndexFunc_int_int_C pay_within_1) slices_IndexFunc_int_int_q slices_IndexFunc_int_int_inl 1000 slices_IndexFunc_int_int_ann false (slices_IndexFunc_int_int_loops pay_within_1) (fun _ => none)) 6) (((envOf (slices_IndexFunc_int_int_C pay_within_1) slices_IndexFunc_int_int_q slices_IndexFunc_int_int_inl 1000 slices_IndexFunc_int_int_ann false (slices_IndexFunc_int_int_loops pay_within_1) (fun _ => none)) : Env α).L 6 72) 1000 (slices_IndexFunc_int_int_ann 72) (false :: [true, false, true]) (loopC Go.Proofs.Try.prog 72 [true, false, true])) ((slices_IndexFunc_int_int_ann 72 [true, false, true]).head 0) ((slices_IndexFunc_int_int_ann 72 [true, false, true]).leave 0) n st k

theorem slices_IndexFunc_int_int_l0_eq {α : Type} (pay_within_1 : pay_within_1_T α) : ∀ (n : Nat) (s2 : Seq (Int × Unit)) (x3 : Int) (x4 : Int) (k : X → St → Option α), slices_IndexFunc_int_int_l0_ev pay_within_1 n (encSt slices_IndexFunc_int_int_l0_t slices_IndexFunc_int_int_l0_s slices_IndexFunc_int_int_l0_h [.q (.int .i64 (.nil)) s2, .i x3, .i x4]) k = slices_IndexFunc_int_int_l0_run pay_within_1 (fun y1 => k .ret (encSt [.dead, .dead, .dead, .dead, .int .i64, .dead, .dead, .dead, .dead, .dead, .dead, .dead, .dead, .dead, .dead, .dead, .dead, .dead, .dead] [] [] [.i y1])) (k (.exit 0) (encSt [.dead, .dead, .dead, .dead, .dead, .dead, .dead, .dead, .dead, .dead, .dead, .dead, .dead, .dead, .dead, .dead, .dead, .dead, .dead] [] [] [])) n s2 x3 x4 := by
  intro n
  induction n with
  | zero => intros; kernel_rfl
  | succ n ih =>
    intro s2 x3 x4 k
    have e : (fun (s2 : Seq (Int × Unit)) (x3 : Int) (x4 : Int) => slices_IndexFunc_int_int_l0_ev pay_within_1 n (encSt slices_IndexFunc_int_int_l0_t slices_IndexFunc_int_int_l0_s slices_IndexFunc_int_int_l0_h [.q (.int .i64 (.nil)) s2, .i x3, .i x4]) k) = (fun (s2 : Seq (Int × Unit)) (x3 : Int) (x4 : Int) => slices_IndexFunc_int_int_l0_run pay_within_1 (fun y1 => k .ret (encSt [.dead, .dead, .dead, .dead, .int .i64, .dead, .dead, .dead, .dead, .dead, .dead, .dead, .dead, .dead, .dead, .dead, .dead, .dead, .dead] [] [] [.i y1])) (k (.exit 0) (encSt [.dead, .dead, .dead, .dead, .dead, .dead, .dead, .dead, .dead, .dead, .dead, .dead, .dead, .dead, .dead, .dead, .dead, .dead, .dead] [] [] [])) n s2 x3 x4) := by
      funext s2 x3 x4
      exact ih s2 x3 x4 k
    have h1 : slices_IndexFunc_int_int_l0_ev pay_within_1 (n + 1) (encSt slices_IndexFunc_int_int_l0_t slices_IndexFunc_int_int_l0_s slices_IndexFunc_int_int_l0_h [.q (.int .i64 (.nil)) s2, .i x3, .i x4]) k = slices_IndexFunc_int_int_l0_step pay_within_1 (fun y1 => k .ret (encSt [.dead, .dead, .dead, .dead, .int .i64, .dead, .dead, .dead, .dead, .dead, .dead, .dead, .dead, .dead, .dead, .dead, .dead, .dead, .dead] [] [] [.i y1])) (k (.exit 0) (encSt [.dead, .dead, .dead, .dead, .dead, .dead, .dead, .dead, .dead, .dead, .dead, .dead, .dead, .dead, .dead, .dead, .dead, .dead, .dead] [] [] [])) (fun (s2 : Seq (Int × Unit)) (x3 : Int) (x4 : Int) => slices_IndexFunc_int_int_l0_ev pay_within_1 n (encSt slices_IndexFunc_int_int_l0_t slices_IndexFunc_int_int_l0_s slices_IndexFunc_int_int_l0_h [.q (.int .i64 (.nil)) s2, .i x3, .i x4]) k) s2 x3 x4 := by kernel_rfl
    have h2 := congrArg (fun r => slices_IndexFunc_int_int_l0_step pay_within_1 (fun y1 => k .ret (encSt [.dead, .dead, .dead, .dead, .int .i64, .dead, .dead, .dead, .dead, .dead, .dead, .dead, .dead, .dead, .dead, .dead, .dead, .dead, .dead] [] [] [.i y1])) (k (.exit 0) (encSt [.dead, .dead, .dead, .dead, .dead, .dead, .dead, .dead, .dead, .dead, .dead, .dead, .dead, .dead, .dead, .dead, .dead, .dead, .dead] [] [] [])) r s2 x3 x4) e
    have h3 : slices_IndexFunc_int_int_l0_step pay_within_1 (fun y1 => k .ret (encSt [.dead, .dead, .dead, .dead, .int .i64, .dead, .dead, .dead, .dead, .dead, .dead, .dead, .dead, .dead, .dead, .dead, .dead, .dead, .dead] [] [] [.i y1])) (k (.exit 0) (encSt [.dead, .dead, .dead, .dead, .dead, .dead, .dead, .dead, .dead, .dead, .dead, .dead, .dead, .dead, .dead, .dead, .dead, .dead, .dead] [] [] [])) (fun (s2 : Seq (Int × Unit)) (x3 : Int) (x4 : Int) => slices_IndexFunc_int_int_l0_run pay_within_1 (fun y1 => k .ret (encSt [.dead, .dead, .dead, .dead, .int .i64, .dead, .dead, .dead, .dead, .dead, .dead, .dead, .dead, .dead, .dead, .dead, .dead, .dead, .dead] [] [] [.i y1])) (k (.exit 0) (encSt [.dead, .dead, .dead, .dead, .dead, .dead, .dead, .dead, .dead, .dead, .dead, .dead, .dead, .dead, .dead, .dead, .dead, .dead, .dead] [] [] [])) n s2 x3 x4) s2 x3 x4 = slices_IndexFunc_int_int_l0_run pay_within_1 (fun y1 => k .ret (encSt [.dead, .dead, .dead, .dead, .int .i64, .dead, .dead, .dead, .dead, .dead, .dead, .dead, .dead, .dead, .dead, .dead, .dead, .dead, .dead] [] [] [.i y1])) (k (.exit 0) (encSt [.dead, .dead, .dead, .dead, .dead, .dead, .dead, .dead, .dead, .dead, .dead, .dead, .dead, .dead, .dead, .dead, .dead, .dead, .dead] [] [] [])) (n + 1) s2 x3 x4 := by kernel_rfl
    exact h1.trans (h2.trans h3)

theorem slices_IndexFunc_int_int_l0_ok {α : Type} (pay_within_1 : pay_within_1_T α) : (slices_IndexFunc_int_int_l0_spec pay_within_1 : LoopSpec α).ok Go.Proofs.Try.prog (envOf (slices_IndexFunc_int_int_C pay_within_1) slices_IndexFunc_int_int_q slices_IndexFunc_int_int_inl 1000 slices_IndexFunc_int_int_ann false (slices_IndexFunc_int_int_loops pay_within_1) (fun _ => none)) := by
  intro ds k
  have h1 : slices_IndexFunc_int_int_l0_ev pay_within_1 1000 (encSt slices_IndexFunc_int_int_l0_t slices_IndexFunc_int_int_l0_s slices_IndexFunc_int_int_l0_h ds) k = slices_IndexFunc_int_int_l0_ev pay_within_1 1000 (encSt slices_IndexFunc_int_int_l0_t slices_IndexFunc_int_int_l0_s slices_IndexFunc_int_int_l0_h [.q (.int .i64 (.nil)) (hdQ (.int .i64 (.nil)) ds), .i (hdI ds.tail), .i (hdI ds.tail.tail)]) k := by kernel_rfl
  have h2 := slices_IndexFunc_int_int_l0_eq pay_within_1 1000 (hdQ (.int .i64 (.nil)) ds) (hdI ds.tail) (hdI ds.tail.tail) k
  exact h1.trans h2

theorem slices_IndexFunc_int_int_ev {α : Type} (pay_within_1 : pay_within_1_T α) : EvOk (α := α) Go.Proofs.Try.prog (envOf (slices_IndexFunc_int_int_C pay_within_1) slices_IndexFunc_int_int_q slices_IndexFunc_int_int_inl 1000 slices_IndexFunc_int_int_ann false (slices_IndexFunc_int_int_loops pay_within_1) (fun _ => none)) 6 (slices_IndexFunc_int_int_sp (slices_IndexFunc_int_int_g pay_within_1)) := by intro ds k; kernel_rfl

theorem slices_IndexFunc_int_int_ok {α : Type} : (slices_IndexFunc_int_int_spec : FunSpec α).ok Go.Proofs.Try.prog :=
  FunSpec.ok_of (sp := slices_IndexFunc_int_int_spec) (C := slices_IndexFunc_int_int_C pay_within_1) (q := slices_IndexFunc_int_int_q) (inl := slices_IndexFunc_int_int_inl) (N := 1000) (ann := slices_IndexFunc_int_int_ann) (fr := false) (D := 6) (l := (slices_IndexFunc_int_int_loops pay_within_1)) (hk := (fun _ => none)) (okCons pay_within_1_ok okNil) (lokCons (slices_IndexFunc_int_int_l0_ok pay_within_1) lokNil) noHooks (slices_IndexFunc_int_int_ev pay_within_1)

end
end Go.Rv.Try

set_option linter.unusedVariables false
set_option maxRecDepth 100000
set_option maxHeartbeats 4000000
namespace Go.Rv.Try
open Go Go.Rv Go.RowKit
noncomputable section

-- slices.ContainsFunc[[]int,int]

abbrev slices_ContainsFunc_int_int_T (α : Type) : Type := (Seq (Int × Unit)) → (Bool → Option α) → Option α

noncomputable def slices_ContainsFunc_int_int_g {α : Type} (slices_IndexFunc_int_int : slices_IndexFunc_int_int_T α) (s1 : Seq (Int × Unit)) (k : Bool → Option α) : Option α :=
  (slices_IndexFunc_int_int s1 fun r2 =>
    (k (decide (r2 ≥ 0))))

noncomputable def slices_ContainsFunc_int_int {α : Type} : slices_ContainsFunc_int_int_T α := slices_ContainsFunc_int_int_g slices_IndexFunc_int_int

noncomputable def slices_ContainsFunc_int_int_sp {α : Type} (slices_ContainsFunc_int_int : slices_ContainsFunc_int_int_T α) : FunSpec α := ⟨61, [.sl (.int .i64 (.nil)), .func (.func 62) [] []], [], fun ds k => slices_ContainsFunc_int_int (hdQ (.int .i64 (.nil)) ds) (fun r1 => k (enc dep (.bool) [.b r1]).1 [])⟩

noncomputable def slices_ContainsFunc_int_int_spec {α : Type} : FunSpec α := slices_ContainsFunc_int_int_sp slices_ContainsFunc_int_int

noncomputable def slices_ContainsFunc_int_int_C {α : Type} (slices_IndexFunc_int_int : slices_IndexFunc_int_int_T α) : List (FunSpec α) := [slices_IndexFunc_int_int_sp slices_IndexFunc_int_int]

noncomputable def slices_ContainsFunc_int_int_q : FuncId → Bool := fun f => Nat.beq f 72

noncomputable def slices_ContainsFunc_int_int_inl : FuncId → Bool := fun f => false

noncomputable def slices_ContainsFunc_int_int_ann : FuncId → AnnT := fun f p => ⟨[], [], [], [], 0, [], [], none⟩

noncomputable def slices_ContainsFunc_int_int_loops {α : Type} (slices_IndexFunc_int_int : slices_IndexFunc_int_int_T α) : List (LoopSpec α) := []

theorem slices_ContainsFunc_int_int_ev {α : Type} (slices_IndexFunc_int_int : slices_IndexFunc_int_int_T α) : EvOk (α := α) Go.Proofs.Try.prog (envOf (slices_ContainsFunc_int_int_C slices_IndexFunc_int_int) slices_ContainsFunc_int_int_q slices_ContainsFunc_int_int_inl 1000 slices_ContainsFunc_int_int_ann false (slices_ContainsFunc_int_int_loops slices_IndexFunc_int_int) (fun _ => none)) 6 (slices_ContainsFunc_int_int_sp (slices_ContainsFunc_int_int_g slices_IndexFunc_int_int)) := by intro ds k; kernel_rfl

theorem slices_ContainsFunc_int_int_ok {α : Type} : (slices_ContainsFunc_int_int_spec : FunSpec α).ok Go.Proofs.Try.prog :=
  FunSpec.ok_of (sp := slices_ContainsFunc_int_int_spec) (C := slices_ContainsFunc_int_int_C slices_IndexFunc_int_int) (q := slices_ContainsFunc_int_int_q) (inl := slices_ContainsFunc_int_int_inl) (N := 1000) (ann := slices_ContainsFunc_int_int_ann) (fr := false) (D := 6) (l := (slices_ContainsFunc_int_int_loops slices_IndexFunc_int_int)) (hk := (fun _ => none)) (okCons slices_IndexFunc_int_int_ok okNil) lokNil noHooks (slices_ContainsFunc_int_int_ev slices_IndexFunc_int_int)

end
end Go.Rv.Try

set_option linter.unusedVariables false
set_option maxRecDepth 100000
set_option maxHeartbeats 4000000
namespace Go.Rv.Try
open Go Go.Rv Go.RowKit
noncomputable section

-- drayman/pay.within

abbrev pay_within_T (α : Type) : Type := ((Seq Z1) × Int × Int × Int × Unit) → (Bool → Option α) → Option α

noncomputable def pay_within_g {α : Type} (pay_Till_sums : pay_Till_sums_T α) (slices_ContainsFunc_int_int : slices_ContainsFunc_int_int_T α) (x1 : (Seq Z1) × Int × Int × Int × Unit) (k : Bool → Option α) : Option α :=
  (pay_Till_sums x1 fun r2 =>
    (slices_ContainsFunc_int_int r2 fun r3 =>
      (k (!r3))))

noncomputable def pay_within {α : Type} : pay_within_T α := pay_within_g pay_Till_sums slices_ContainsFunc_int_int

noncomputable def pay_within_sp {α : Type} (pay_within : pay_within_T α) : FunSpec α := ⟨37, [.iface 26 (.agg [.sl (.int .i64 (.int .i64 (.int .i64 (.int .i64 (.int .i64 (.int .i64 (.nil))))))), .int .i64, .int .i64, .int .i64])], [], fun ds k => pay_within (hdQ (.int .i64 (.int .i64 (.int .i64 (.int .i64 (.int .i64 (.int .i64 (.nil))))))) ds, hdI ds.tail, hdI ds.tail.tail, hdI ds.tail.tail.tail, ()) (fun r1 => k (enc dep (.bool) [.b r1]).1 [])⟩

noncomputable def pay_within_spec {α : Type} : FunSpec α := pay_within_sp pay_within

noncomputable def pay_within_C {α : Type} (pay_Till_sums : pay_Till_sums_T α) (slices_ContainsFunc_int_int : slices_ContainsFunc_int_int_T α) : List (FunSpec α) := [pay_Till_sums_sp pay_Till_sums, slices_ContainsFunc_int_int_sp slices_ContainsFunc_int_int]

noncomputable def pay_within_q : FuncId → Bool := fun f => Nat.beq f 61

noncomputable def pay_within_inl : FuncId → Bool := fun f => false

noncomputable def pay_within_ann : FuncId → AnnT := fun f p => ⟨[], [], [], [], 0, [], [], none⟩

noncomputable def pay_within_loops {α : Type} (pay_Till_sums : pay_Till_sums_T α) (slices_ContainsFunc_int_int : slices_ContainsFunc_int_int_T α) : List (LoopSpec α) := []

theorem pay_within_ev {α : Type} (pay_Till_sums : pay_Till_sums_T α) (slices_ContainsFunc_int_int : slices_ContainsFunc_int_int_T α) : EvOk (α := α) Go.Proofs.Try.prog (envOf (pay_within_C pay_Till_sums slices_ContainsFunc_int_int) pay_within_q pay_within_inl 1000 pay_within_ann false (pay_within_loops pay_Till_sums slices_ContainsFunc_int_int) (fun _ => none)) 6 (pay_within_sp (pay_within_g pay_Till_sums slices_ContainsFunc_int_int)) := by intro ds k; kernel_rfl

theorem pay_within_ok {α : Type} : (pay_within_spec : FunSpec α).ok Go.Proofs.Try.prog :=
  FunSpec.ok_of (sp := pay_within_spec) (C := pay_within_C pay_Till_sums slices_ContainsFunc_int_int) (q := pay_within_q) (inl := pay_within_inl) (N := 1000) (ann := pay_within_ann) (fr := false) (D := 6) (l := (pay_within_loops pay_Till_sums slices_ContainsFunc_int_int)) (hk := (fun _ => none)) (okCons pay_Till_sums_ok (okCons slices_ContainsFunc_int_int_ok okNil)) lokNil noHooks (pay_within_ev pay_Till_sums slices_ContainsFunc_int_int)

end
end Go.Rv.Try

set_option linter.unusedVariables false
set_option maxRecDepth 100000
set_option maxHeartbeats 4000000
namespace Go.Rv.Try
open Go Go.Rv Go.RowKit
noncomputable section

-- drayman/pay.Fit

abbrev pay_Fit_T (α : Type) : Type := ((Seq Z1) × Int × Int × Int × Unit) → (Bool → Option α) → Option α

noncomputable def pay_Fit_g {α : Type} (keyed_Fit : keyed_Fit_T α) (pay_within : pay_within_T α) (t1 : (Seq Z1) × Int × Int × Int × Unit) (k : Bool → Option α) : Option α :=
  (keyed_Fit t1.1 fun r2 =>
    (cond r2
      (cond (decide ((1 : Int) ≤ t1.2.1))
        (cond (decide (t1.2.1 ≤ 1099511627776))
          (pay_within t1 fun r3 =>
            (k r3))
          (k false))
        (k false))
      (k false)))

noncomputable def pay_Fit {α : Type} : pay_Fit_T α := pay_Fit_g keyed_Fit pay_within

noncomputable def pay_Fit_sp {α : Type} (pay_Fit : pay_Fit_T α) : FunSpec α := ⟨10, [.agg [.sl (.int .i64 (.int .i64 (.int .i64 (.int .i64 (.int .i64 (.int .i64 (.nil))))))), .int .i64, .int .i64, .int .i64]], [], fun ds k => pay_Fit (hdQ (.int .i64 (.int .i64 (.int .i64 (.int .i64 (.int .i64 (.int .i64 (.nil))))))) ds, hdI ds.tail, hdI ds.tail.tail, hdI ds.tail.tail.tail, ()) (fun r1 => k (enc dep (.bool) [.b r1]).1 [])⟩

noncomputable def pay_Fit_spec {α : Type} : FunSpec α := pay_Fit_sp pay_Fit

noncomputable def pay_Fit_C {α : Type} (keyed_Fit : keyed_Fit_T α) (pay_within : pay_within_T α) : List (FunSpec α) := [keyed_Fit_sp keyed_Fit, pay_within_sp pay_within]

noncomputable def pay_Fit_q : FuncId → Bool := fun f => Nat.beq f 37 || Nat.beq f 38

noncomputable def pay_Fit_inl : FuncId → Bool := fun f => false

noncomputable def pay_Fit_ann : FuncId → AnnT := fun f p => ⟨[], [], [], [], 0, [], [], none⟩

noncomputable def pay_Fit_loops {α : Type} (keyed_Fit : keyed_Fit_T α) (pay_within : pay_within_T α) : List (LoopSpec α) := []

theorem pay_Fit_ev {α : Type} (keyed_Fit : keyed_Fit_T α) (pay_within : pay_within_T α) : EvOk (α := α) Go.Proofs.Try.prog (envOf (pay_Fit_C keyed_Fit pay_within) pay_Fit_q pay_Fit_inl 1000 pay_Fit_ann false (pay_Fit_loops keyed_Fit pay_within) (fun _ => none)) 6 (pay_Fit_sp (pay_Fit_g keyed_Fit pay_within)) := by intro ds k; kernel_rfl

theorem pay_Fit_ok {α : Type} : (pay_Fit_spec : FunSpec α).ok Go.Proofs.Try.prog :=
  FunSpec.ok_of (sp := pay_Fit_spec) (C := pay_Fit_C keyed_Fit pay_within) (q := pay_Fit_q) (inl := pay_Fit_inl) (N := 1000) (ann := pay_Fit_ann) (fr := false) (D := 6) (l := (pay_Fit_loops keyed_Fit pay_within)) (hk := (fun _ => none)) (okCons keyed_Fit_ok (okCons pay_within_ok okNil)) lokNil noHooks (pay_Fit_ev keyed_Fit pay_within)

end
end Go.Rv.Try

set_option linter.unusedVariables false
set_option maxRecDepth 100000
set_option maxHeartbeats 4000000
namespace Go.Rv.Try
open Go Go.Rv Go.RowKit
noncomputable section

-- drayman/outbox.Service

abbrev outbox_Service_T (α : Type) : Type := Int → (Int → Option α) → Option α

noncomputable def outbox_Service {α : Type} (op1 : Int) (k : Int → Option α) : Option α :=
  (cond (op1 == 2)
    (cond (op1 == 2)
      (k 1)
      (cond (op1 == 4)
        (k 2)
        (k 0)))
    (cond (op1 == 6)
      (k 1)
      (cond (op1 == 4)
        (k 2)
        (k 0))))

noncomputable def outbox_Service_sp {α : Type} (outbox_Service : outbox_Service_T α) : FunSpec α := ⟨33, [.int .i64], [], fun ds k => outbox_Service (hdI ds) (fun r1 => k (enc dep (.int .i64) [.i r1]).1 [])⟩

noncomputable def outbox_Service_spec {α : Type} : FunSpec α := outbox_Service_sp outbox_Service

noncomputable def outbox_Service_C {α : Type} : List (FunSpec α) := []

noncomputable def outbox_Service_q : FuncId → Bool := fun f => false

noncomputable def outbox_Service_inl : FuncId → Bool := fun f => false

noncomputable def outbox_Service_ann : FuncId → AnnT := fun f p => ⟨[], [], [], [], 0, [], [], none⟩

noncomputable def outbox_Service_loops {α : Type} : List (LoopSpec α) := []

theorem outbox_Service_ev {α : Type} : EvOk (α := α) Go.Proofs.Try.prog (envOf (outbox_Service_C) outbox_Service_q outbox_Service_inl 1000 outbox_Service_ann false (outbox_Service_loops) (fun _ => none)) 6 (outbox_Service_sp (outbox_Service)) := by intro ds k; kernel_rfl

theorem outbox_Service_ok {α : Type} : (outbox_Service_spec : FunSpec α).ok Go.Proofs.Try.prog :=
  FunSpec.ok_of (sp := outbox_Service_spec) (C := outbox_Service_C) (q := outbox_Service_q) (inl := outbox_Service_inl) (N := 1000) (ann := outbox_Service_ann) (fr := false) (D := 6) (l := (outbox_Service_loops)) (hk := (fun _ => none)) okNil lokNil noHooks (outbox_Service_ev)

end
end Go.Rv.Try

set_option linter.unusedVariables false
set_option maxRecDepth 100000
set_option maxHeartbeats 4000000
namespace Go.Rv.Try
open Go Go.Rv Go.RowKit
noncomputable section

-- drayman/outbox.id

abbrev outbox_id_T (α : Type) : Type := Int → (Bool → Option α) → Option α

noncomputable def outbox_id {α : Type} (n1 : Int) (k : Bool → Option α) : Option α :=
  (cond (decide ((1 : Int) ≤ n1))
    (k (decide (n1 ≤ 1099511627776)))
    (k false))

noncomputable def outbox_id_sp {α : Type} (outbox_id : outbox_id_T α) : FunSpec α := ⟨78, [.int .i64], [], fun ds k => outbox_id (hdI ds) (fun r1 => k (enc dep (.bool) [.b r1]).1 [])⟩

noncomputable def outbox_id_spec {α : Type} : FunSpec α := outbox_id_sp outbox_id

noncomputable def outbox_id_C {α : Type} : List (FunSpec α) := []

noncomputable def outbox_id_q : FuncId → Bool := fun f => false

noncomputable def outbox_id_inl : FuncId → Bool := fun f => false

noncomputable def outbox_id_ann : FuncId → AnnT := fun f p => ⟨[], [], [], [], 0, [], [], none⟩

noncomputable def outbox_id_loops {α : Type} : List (LoopSpec α) := []

theorem outbox_id_ev {α : Type} : EvOk (α := α) Go.Proofs.Try.prog (envOf (outbox_id_C) outbox_id_q outbox_id_inl 1000 outbox_id_ann false (outbox_id_loops) (fun _ => none)) 6 (outbox_id_sp (outbox_id)) := by intro ds k; kernel_rfl

theorem outbox_id_ok {α : Type} : (outbox_id_spec : FunSpec α).ok Go.Proofs.Try.prog :=
  FunSpec.ok_of (sp := outbox_id_spec) (C := outbox_id_C) (q := outbox_id_q) (inl := outbox_id_inl) (N := 1000) (ann := outbox_id_ann) (fr := false) (D := 6) (l := (outbox_id_loops)) (hk := (fun _ => none)) okNil lokNil noHooks (outbox_id_ev)

end
end Go.Rv.Try

set_option linter.unusedVariables false
set_option maxRecDepth 100000
set_option maxHeartbeats 4000000
namespace Go.Rv.Try
open Go Go.Rv Go.RowKit
noncomputable section

-- drayman/outbox.one

abbrev outbox_one_T (α : Type) : Type := Z0 → (Bool → Option α) → Option α

noncomputable def outbox_one_g {α : Type} (outbox_id : outbox_id_T α) (outbox_Service : outbox_Service_T α) (num_Fit : num_Fit_T α) (x1 : Int × Int × Int × Bool × Int × Int × Bool × Unit) (k : Bool → Option α) : Option α :=
  (outbox_id x1.1 fun r2 =>
    (cond r2
      (outbox_id x1.2.1 fun r3 =>
        (cond r3
          (cond (decide ((0 : Int) ≤ x1.2.2.1))
            (cond (decide (x1.2.2.1 < 6))
              (outbox_Service x1.2.2.2.2.1 fun r4 =>
                (cond (r4 != 0)
                  (num_Fit x1.2.2.2.2.2.1 fun r5 =>
                    (k r5))
                  (k false)))
              (k false))
            (k false))
          (k false)))
      (k false)))

noncomputable def outbox_one {α : Type} : outbox_one_T α := outbox_one_g outbox_id outbox_Service num_Fit

noncomputable def outbox_one_sp {α : Type} (outbox_one : outbox_one_T α) : FunSpec α := ⟨70, [.agg [.int .i64, .int .i64, .int .i64, .bool, .int .i64, .int .i64, .bool]], [], fun ds k => outbox_one (hdI ds, hdI ds.tail, hdI ds.tail.tail, hdB ds.tail.tail.tail, hdI ds.tail.tail.tail.tail, hdI ds.tail.tail.tail.tail.tail, hdB ds.tail.tail.tail.tail.tail.tail, ()) (fun r1 => k (enc dep (.bool) [.b r1]).1 [])⟩

noncomputable def outbox_one_spec {α : Type} : FunSpec α := outbox_one_sp outbox_one

noncomputable def outbox_one_C {α : Type} (outbox_id : outbox_id_T α) (outbox_Service : outbox_Service_T α) (num_Fit : num_Fit_T α) : List (FunSpec α) := [outbox_id_sp outbox_id, outbox_Service_sp outbox_Service, num_Fit_sp num_Fit]

noncomputable def outbox_one_q : FuncId → Bool := fun f => Nat.beq f 33 || Nat.beq f 73 || Nat.beq f 78

noncomputable def outbox_one_inl : FuncId → Bool := fun f => false

noncomputable def outbox_one_ann : FuncId → AnnT := fun f p => ⟨[], [], [], [], 0, [], [], none⟩

noncomputable def outbox_one_loops {α : Type} (outbox_id : outbox_id_T α) (outbox_Service : outbox_Service_T α) (num_Fit : num_Fit_T α) : List (LoopSpec α) := []

theorem outbox_one_ev {α : Type} (outbox_id : outbox_id_T α) (outbox_Service : outbox_Service_T α) (num_Fit : num_Fit_T α) : EvOk (α := α) Go.Proofs.Try.prog (envOf (outbox_one_C outbox_id outbox_Service num_Fit) outbox_one_q outbox_one_inl 1000 outbox_one_ann false (outbox_one_loops outbox_id outbox_Service num_Fit) (fun _ => none)) 6 (outbox_one_sp (outbox_one_g outbox_id outbox_Service num_Fit)) := by intro ds k; kernel_rfl

theorem outbox_one_ok {α : Type} : (outbox_one_spec : FunSpec α).ok Go.Proofs.Try.prog :=
  FunSpec.ok_of (sp := outbox_one_spec) (C := outbox_one_C outbox_id outbox_Service num_Fit) (q := outbox_one_q) (inl := outbox_one_inl) (N := 1000) (ann := outbox_one_ann) (fr := false) (D := 6) (l := (outbox_one_loops outbox_id outbox_Service num_Fit)) (hk := (fun _ => none)) (okCons outbox_id_ok (okCons outbox_Service_ok (okCons num_Fit_ok okNil))) lokNil noHooks (outbox_one_ev outbox_id outbox_Service num_Fit)

end
end Go.Rv.Try

set_option linter.unusedVariables false
set_option maxRecDepth 100000
set_option maxHeartbeats 4000000
namespace Go.Rv.Try
open Go Go.Rv Go.RowKit
noncomputable section

-- drayman/outbox.Fit

abbrev outbox_Fit_T (α : Type) : Type := (Seq Z0) → (Bool → Option α) → Option α

noncomputable def outbox_Fit_l0_step {α : Type} (outbox_one : outbox_one_T α) (kr : (Bool) → (List ((Int × Unit) × (Bool × Unit))) → Option α) (k0 : (Seq Z0) → (List ((Int × Unit) × (Bool × Unit))) → Option α) (rec : (Seq Z0) → (Int) → (Seq Z0) → (Int) → (Int) → (List ((Int × Unit) × (Bool × Unit))) → Option α) (l2 : Seq Z0) (last3 : Int) (x4 : Seq Z0) (x5 : Int) (x6 : Int) (m7 : List ((Int × Unit) × (Bool × Unit))) : Option α :=
  (cond (decide (x6 < x5))
    (cond ((decide ((0 : Int) ≤ x6)) && (decide (x6 < (x4.n : Int))))
      (outbox_one (x4.g x6.toNat) fun r8 =>
        (cond (!(!r8))
          (cond (!(decide ((x4.g x6.toNat).1 ≤ last3)))
            (cond (mGetD (.int .i64 (.nil)) m7 ((x4.g x6.toNat).2.1, ()) (false, ())).1
              (kr false m7)
              (rec l2 ((x4.g x6.toNat).1) x4 x5 (IntKind.i64.wrap (x6 + 1)) (mPut (.int .i64 (.nil)) m7 ((x4.g x6.toNat).2.1, ()) (true, ()))))
            (kr false m7))
          (kr false m7)))
      none)
    (k0 l2 m7))

noncomputable def outbox_Fit_l0_run {α : Type} (outbox_one : outbox_one_T α) (kr : (Bool) → (List ((Int × Unit) × (Bool × Unit))) → Option α) (k0 : (Seq Z0) → (List ((Int × Unit) × (Bool × Unit))) → Option α) : Nat → (Seq Z0) → (Int) → (Seq Z0) → (Int) → (Int) → (List ((Int × Unit) × (Bool × Unit))) → Option α
  | 0, _, _, _, _, _, _ => none
  | n + 1, l2, last3, x4, x5, x6, m7 => outbox_Fit_l0_step outbox_one kr k0 (fun l2 last3 x4 x5 x6 m7 => outbox_Fit_l0_run outbox_one kr k0 n l2 last3 x4 x5 x6 m7) l2 last3 x4 x5 x6 m7

noncomputable def outbox_Fit_g {α : Type} (outbox_one : outbox_one_T α) (l1 : Seq Z0) (k : Bool → Option α) : Option α :=
  (outbox_Fit_l0_run outbox_one
    (fun x9 m10 =>
      (k x9))
    (fun x11 m12 =>
      (k (decide ((x11.n : Int) ≤ 16))))
    1000 l1 0 l1 (l1.n : Int) 0 ([] : List ((Int × Unit) × (Bool × Unit))))

noncomputable def outbox_Fit {α : Type} : outbox_Fit_T α := outbox_Fit_g outbox_one

noncomputable def outbox_Fit_sp {α : Type} (outbox_Fit : outbox_Fit_T α) : FunSpec α := ⟨55, [.sl (.int .i64 (.int .i64 (.int .i64 (.bool (.int .i64 (.int .i64 (.bool (.nil))))))))], [], fun ds k => outbox_Fit (hdQ (.int .i64 (.int .i64 (.int .i64 (.bool (.int .i64 (.int .i64 (.bool (.nil)))))))) ds) (fun r1 => k (enc dep (.bool) [.b r1]).1 [])⟩

noncomputable def outbox_Fit_spec {α : Type} : FunSpec α := outbox_Fit_sp outbox_Fit

noncomputable def outbox_Fit_C {α : Type} (outbox_one : outbox_one_T α) : List (FunSpec α) := [outbox_one_sp outbox_one]

noncomputable def outbox_Fit_q : FuncId → Bool := fun f => Nat.beq f 70

noncomputable def outbox_Fit_inl : FuncId → Bool := fun f => false

noncomputable def outbox_Fit_ann : FuncId → AnnT := fun f p => if f = 55 then (if p = [true, false, true, true, true] then ⟨[0, 3, 4, 8, 9, 10], [], [0], [2], 0, [], [], none⟩ else if p = [true, true, false, true, true, false, true, false, true, true, true] then ⟨[], [0], [], [], 2, [], [], none⟩ else ⟨[], [], [], [], 0, [], [], none⟩) else ⟨[], [], [], [], 0, [], [], none⟩

noncomputable def outbox_Fit_l0_t : List Sh := [.sl (.int .i64 (.int .i64 (.int .i64 (.bool (.int .i64 (.int .i64 (.bool (.nil)))))))), .dead, .dead, .int .i64, .mp 0, .dead, .dead, .dead, .sl (.int .i64 (.int .i64 (.int .i64 (.bool (.int .i64 (.int .i64 (.bool (.nil)))))))), .int .i64, .int .i64, .dead, .dead, .dead, .dead, .dead, .dead, .dead, .dead, .dead, .dead, .dead, .dead, .dead, .dead, .dead, .dead, .dead, .dead, .dead, .dead, .dead, .dead, .dead, .dead, .dead, .dead, .dead]
noncomputable def outbox_Fit_l0_s : List (List Sh) := []
noncomputable def outbox_Fit_l0_h : List BSh := [.mp false false (.int .i64 (.nil)) (.bool (.nil))]

noncomputable def outbox_Fit_l0_spec {α : Type} (outbox_one : outbox_one_T α) : LoopSpec α := ⟨6, 55, [true, false, true, true, true], outbox_Fit_l0_t, outbox_Fit_l0_s, outbox_Fit_l0_h, fun ds k => outbox_Fit_l0_run outbox_one (fun y1 y2 => k .ret (encSt [.dead, .dead, .bool, .dead, .dead, .dead, .dead, .dead, .dead, .dead, .dead, .dead, .dead, .dead, .dead, .dead, .dead, .dead, .dead, .dead, .dead, .dead, .dead, .dead, .dead, .dead, .dead, .dead, .dead, .dead, .dead, .dead, .dead, .dead, .dead, .dead, .dead, .dead] [] [.mp false false (.int .i64 (.nil)) (.bool (.nil))] [.b y1, .m (.int .i64 (.nil)) (.bool (.nil)) y2])) (fun y1 y2 => k (.exit 0) (encSt [.sl (.int .i64 (.int .i64 (.int .i64 (.bool (.int .i64 (.int .i64 (.bool (.nil)))))))), .dead, .dead, .dead, .dead, .dead, .dead, .dead, .dead, .dead, .dead, .dead, .dead, .dead, .dead, .dead, .dead, .dead, .dead, .dead, .dead, .dead, .dead, .dead, .dead, .dead, .dead, .dead, .dead, .dead, .dead, .dead, .dead, .dead, .dead, .dead, .dead, .dead] [] [.mp false false (.int .i64 (.nil)) (.bool (.nil))] [.q (.int .i64 (.int .i64 (.int .i64 (.bool (.int .i64 (.int .i64 (.bool (.nil)))))))) y1, .m (.int .i64 (.nil)) (.bool (.nil)) y2])) 1000 (hdQ (.int .i64 (.int .i64 (.int .i64 (.bool (.int .i64 (.int .i64 (.bool (.nil)))))))) ds) (hdI ds.tail) (hdQ (.int .i64 (.int .i64 (.int .i64 (.bool (.int .i64 (.int .i64 (.bool (.nil)))))))) ds.tail.tail) (hdI ds.tail.tail.tail) (hdI ds.tail.tail.tail.tail) (hdM (.int .i64 (.nil)) (.bool (.nil)) ds.tail.tail.tail.tail.tail)⟩

noncomputable def outbox_Fit_loops {α : Type} (outbox_one : outbox_one_T α) : List (LoopSpec α) := [outbox_Fit_l0_spec outbox_one]

noncomputable def outbox_Fit_l0_ev {α : Type} (outbox_one : outbox_one_T α) (n : Nat) (st : St) (k : X → St → Option α) : Option α := loopN (evCode Go.Proofs.Try.prog (callD Go.Proofs.Try.prog (envOf (outbox_Fit_C outbox_one) outbox_Fit_q outbox_Fit_inl 1000 outbox_Fit_ann false (outbox_Fit_loops outbox_one) (fun _ => none)) 6) (((envOf (outbox_Fit_C outbox_one) outbox_Fit_q outbox_Fit_inl 1000 outbox_Fit_ann false (outbox_Fit_loops outbox_one) (fun _ => none)) : Env α).L 6 55) 1000 (outbox_Fit_ann 55) (false :: [true, false, true, true, true]) (loopC Go.Proofs.Try.prog 55 [true, false, true, true, true])) ((outbox_Fit_ann 55 [true, false, true, true, true]).head 1) ((outbox_Fit_ann 55 [true, false, true, true, true]).leave 1) n st k

theorem outbox_Fit_l0_eq {α : Type} (outbox_one : outbox_one_T α) : ∀ (n : Nat) (l2 : Seq Z0) (last3 : Int) (x4 : Seq Z0) (x5 : Int) (x6 : Int) (m7 : List ((Int × Unit) × (Bool × Unit))) (k : X → St → Option α), outbox_Fit_l0_ev outbox_one n (encSt outbox_Fit_l0_t outbox_Fit_l0_s outbox_Fit_l0_h [.q (.int .i64 (.int .i64 (.int .i64 (.bool (.int .i64 (.int .i64 (.bool (.nil)))))))) l2, .i last3, .q (.int .i64 (.int .i64 (.int .i64 (.bool (.int .i64 (.int .i64 (.bool (.nil)))))))) x4, .i x5, .i x6, .m (.int .i64 (.nil)) (.bool (.nil)) m7]) k = outbox_Fit_l0_run outbox_one (fun y1 y2 => k .ret (encSt [.dead, .dead, .bool, .dead, .dead, .dead, .dead, .dead, .dead, .dead, .dead, .dead, .dead, .dead, .dead, .dead, .dead, .dead, .dead, .dead, .dead, .dead, .dead, .dead, .dead, .dead, .dead, .dead, .dead, .dead, .dead, .dead, .dead, .dead, .dead, .dead, .dead, .dead] [] [.mp false false (.int .i64 (.nil)) (.bool (.nil))] [.b y1, .m (.int .i64 (.nil)) (.bool (.nil)) y2])) (fun y1 y2 => k (.exit 0) (encSt [.sl (.int .i64 (.int .i64 (.int .i64 (.bool (.int .i64 (.int .i64 (.bool (.nil)))))))), .dead, .dead, .dead, .dead, .dead, .dead, .dead, .dead, .dead, .dead, .dead, .dead, .dead, .dead, .dead, .dead, .dead, .dead, .dead, .dead, .dead, .dead, .dead, .dead, .dead, .dead, .dead, .dead, .dead, .dead, .dead, .dead, .dead, .dead, .dead, .dead, .dead] [] [.mp false false (.int .i64 (.nil)) (.bool (.nil))] [.q (.int .i64 (.int .i64 (.int .i64 (.bool (.int .i64 (.int .i64 (.bool (.nil)))))))) y1, .m (.int .i64 (.nil)) (.bool (.nil)) y2])) n l2 last3 x4 x5 x6 m7 := by
  intro n
  induction n with
  | zero => intros; kernel_rfl
  | succ n ih =>
    intro l2 last3 x4 x5 x6 m7 k
    have e : (fun (l2 : Seq Z0) (last3 : Int) (x4 : Seq Z0) (x5 : Int) (x6 : Int) (m7 : List ((Int × Unit) × (Bool × Unit))) => outbox_Fit_l0_ev outbox_one n (encSt outbox_Fit_l0_t outbox_Fit_l0_s outbox_Fit_l0_h [.q (.int .i64 (.int .i64 (.int .i64 (.bool (.int .i64 (.int .i64 (.bool (.nil)))))))) l2, .i last3, .q (.int .i64 (.int .i64 (.int .i64 (.bool (.int .i64 (.int .i64 (.bool (.nil)))))))) x4, .i x5, .i x6, .m (.int .i64 (.nil)) (.bool (.nil)) m7]) k) = (fun (l2 : Seq Z0) (last3 : Int) (x4 : Seq Z0) (x5 : Int) (x6 : Int) (m7 : List ((Int × Unit) × (Bool × Unit))) => outbox_Fit_l0_run outbox_one (fun y1 y2 => k .ret (encSt [.dead, .dead, .bool, .dead, .dead, .dead, .dead, .dead, .dead, .dead, .dead, .dead, .dead, .dead, .dead, .dead, .dead, .dead, .dead, .dead, .dead, .dead, .dead, .dead, .dead, .dead, .dead, .dead, .dead, .dead, .dead, .dead, .dead, .dead, .dead, .dead, .dead, .dead] [] [.mp false false (.int .i64 (.nil)) (.bool (.nil))] [.b y1, .m (.int .i64 (.nil)) (.bool (.nil)) y2])) (fun y1 y2 => k (.exit 0) (encSt [.sl (.int .i64 (.int .i64 (.int .i64 (.bool (.int .i64 (.int .i64 (.bool (.nil)))))))), .dead, .dead, .dead, .dead, .dead, .dead, .dead, .dead, .dead, .dead, .dead, .dead, .dead, .dead, .dead, .dead, .dead, .dead, .dead, .dead, .dead, .dead, .dead, .dead, .dead, .dead, .dead, .dead, .dead, .dead, .dead, .dead, .dead, .dead, .dead, .dead, .dead] [] [.mp false false (.int .i64 (.nil)) (.bool (.nil))] [.q (.int .i64 (.int .i64 (.int .i64 (.bool (.int .i64 (.int .i64 (.bool (.nil)))))))) y1, .m (.int .i64 (.nil)) (.bool (.nil)) y2])) n l2 last3 x4 x5 x6 m7) := by
      funext l2 last3 x4 x5 x6 m7
      exact ih l2 last3 x4 x5 x6 m7 k
    have h1 : outbox_Fit_l0_ev outbox_one (n + 1) (encSt outbox_Fit_l0_t outbox_Fit_l0_s outbox_Fit_l0_h [.q (.int .i64 (.int .i64 (.int .i64 (.bool (.int .i64 (.int .i64 (.bool (.nil)))))))) l2, .i last3, .q (.int .i64 (.int .i64 (.int .i64 (.bool (.int .i64 (.int .i64 (.bool (.nil)))))))) x4, .i x5, .i x6, .m (.int .i64 (.nil)) (.bool (.nil)) m7]) k = outbox_Fit_l0_step outbox_one (fun y1 y2 => k .ret (encSt [.dead, .dead, .bool, .dead, .dead, .dead, .dead, .dead, .dead, .dead, .dead, .dead, .dead, .dead, .dead, .dead, .dead, .dead, .dead, .dead, .dead, .dead, .dead, .dead, .dead, .dead, .dead, .dead, .dead, .dead, .dead, .dead, .dead, .dead, .dead, .dead, .dead, .dead] [] [.mp false false (.int .i64 (.nil)) (.bool (.nil))] [.b y1, .m (.int .i64 (.nil)) (.bool (.nil)) y2])) (fun y1 y2 => k (.exit 0) (encSt [.sl (.int .i64 (.int .i64 (.int .i64 (.bool (.int .i64 (.int .i64 (.bool (.nil)))))))), .dead, .dead, .dead, .dead, .dead, .dead, .dead, .dead, .dead, .dead, .dead, .dead, .dead, .dead, .dead, .dead, .dead, .dead, .dead, .dead, .dead, .dead, .dead, .dead, .dead, .dead, .dead, .dead, .dead, .dead, .dead, .dead, .dead, .dead, .dead, .dead, .dead] [] [.mp false false (.int .i64 (.nil)) (.bool (.nil))] [.q (.int .i64 (.int .i64 (.int .i64 (.bool (.int .i64 (.int .i64 (.bool (.nil)))))))) y1, .m (.int .i64 (.nil)) (.bool (.nil)) y2])) (fun (l2 : Seq Z0) (last3 : Int) (x4 : Seq Z0) (x5 : Int) (x6 : Int) (m7 : List ((Int × Unit) × (Bool × Unit))) => outbox_Fit_l0_ev outbox_one n (encSt outbox_Fit_l0_t outbox_Fit_l0_s outbox_Fit_l0_h [.q (.int .i64 (.int .i64 (.int .i64 (.bool (.int .i64 (.int .i64 (.bool (.nil)))))))) l2, .i last3, .q (.int .i64 (.int .i64 (.int .i64 (.bool (.int .i64 (.int .i64 (.bool (.nil)))))))) x4, .i x5, .i x6, .m (.int .i64 (.nil)) (.bool (.nil)) m7]) k) l2 last3 x4 x5 x6 m7 := by kernel_rfl
    have h2 := congrArg (fun r => outbox_Fit_l0_step outbox_one (fun y1 y2 => k .ret (encSt [.dead, .dead, .bool, .dead, .dead, .dead, .dead, .dead, .dead, .dead, .dead, .dead, .dead, .dead, .dead, .dead, .dead, .dead, .dead, .dead, .dead, .dead, .dead, .dead, .dead, .dead, .dead, .dead, .dead, .dead, .dead, .dead, .dead, .dead, .dead, .dead, .dead, .dead] [] [.mp false false (.int .i64 (.nil)) (.bool (.nil))] [.b y1, .m (.int .i64 (.nil)) (.bool (.nil)) y2])) (fun y1 y2 => k (.exit 0) (encSt [.sl (.int .i64 (.int .i64 (.int .i64 (.bool (.int .i64 (.int .i64 (.bool (.nil)))))))), .dead, .dead, .dead, .dead, .dead, .dead, .dead, .dead, .dead, .dead, .dead, .dead, .dead, .dead, .dead, .dead, .dead, .dead, .dead, .dead, .dead, .dead, .dead, .dead, .dead, .dead, .dead, .dead, .dead, .dead, .dead, .dead, .dead, .dead, .dead, .dead, .dead] [] [.mp false false (.int .i64 (.nil)) (.bool (.nil))] [.q (.int .i64 (.int .i64 (.int .i64 (.bool (.int .i64 (.int .i64 (.bool (.nil)))))))) y1, .m (.int .i64 (.nil)) (.bool (.nil)) y2])) r l2 last3 x4 x5 x6 m7) e
    have h3 : outbox_Fit_l0_step outbox_one (fun y1 y2 => k .ret (encSt [.dead, .dead, .bool, .dead, .dead, .dead, .dead, .dead, .dead, .dead, .dead, .dead, .dead, .dead, .dead, .dead, .dead, .dead, .dead, .dead, .dead, .dead, .dead, .dead, .dead, .dead, .dead, .dead, .dead, .dead, .dead, .dead, .dead, .dead, .dead, .dead, .dead, .dead] [] [.mp false false (.int .i64 (.nil)) (.bool (.nil))] [.b y1, .m (.int .i64 (.nil)) (.bool (.nil)) y2])) (fun y1 y2 => k (.exit 0) (encSt [.sl (.int .i64 (.int .i64 (.int .i64 (.bool (.int .i64 (.int .i64 (.bool (.nil)))))))), .dead, .dead, .dead, .dead, .dead, .dead, .dead, .dead, .dead, .dead, .dead, .dead, .dead, .dead, .dead, .dead, .dead, .dead, .dead, .dead, .dead, .dead, .dead, .dead, .dead, .dead, .dead, .dead, .dead, .dead, .dead, .dead, .dead, .dead, .dead, .dead, .dead] [] [.mp false false (.int .i64 (.nil)) (.bool (.nil))] [.q (.int .i64 (.int .i64 (.int .i64 (.bool (.int .i64 (.int .i64 (.bool (.nil)))))))) y1, .m (.int .i64 (.nil)) (.bool (.nil)) y2])) (fun (l2 : Seq Z0) (last3 : Int) (x4 : Seq Z0) (x5 : Int) (x6 : Int) (m7 : List ((Int × Unit) × (Bool × Unit))) => outbox_Fit_l0_run outbox_one (fun y1 y2 => k .ret (encSt [.dead, .dead, .bool, .dead, .dead, .dead, .dead, .dead, .dead, .dead, .dead, .dead, .dead, .dead, .dead, .dead, .dead, .dead, .dead, .dead, .dead, .dead, .dead, .dead, .dead, .dead, .dead, .dead, .dead, .dead, .dead, .dead, .dead, .dead, .dead, .dead, .dead, .dead] [] [.mp false false (.int .i64 (.nil)) (.bool (.nil))] [.b y1, .m (.int .i64 (.nil)) (.bool (.nil)) y2])) (fun y1 y2 => k (.exit 0) (encSt [.sl (.int .i64 (.int .i64 (.int .i64 (.bool (.int .i64 (.int .i64 (.bool (.nil)))))))), .dead, .dead, .dead, .dead, .dead, .dead, .dead, .dead, .dead, .dead, .dead, .dead, .dead, .dead, .dead, .dead, .dead, .dead, .dead, .dead, .dead, .dead, .dead, .dead, .dead, .dead, .dead, .dead, .dead, .dead, .dead, .dead, .dead, .dead, .dead, .dead, .dead] [] [.mp false false (.int .i64 (.nil)) (.bool (.nil))] [.q (.int .i64 (.int .i64 (.int .i64 (.bool (.int .i64 (.int .i64 (.bool (.nil)))))))) y1, .m (.int .i64 (.nil)) (.bool (.nil)) y2])) n l2 last3 x4 x5 x6 m7) l2 last3 x4 x5 x6 m7 = outbox_Fit_l0_run outbox_one (fun y1 y2 => k .ret (encSt [.dead, .dead, .bool, .dead, .dead, .dead, .dead, .dead, .dead, .dead, .dead, .dead, .dead, .dead, .dead, .dead, .dead, .dead, .dead, .dead, .dead, .dead, .dead, .dead, .dead, .dead, .dead, .dead, .dead, .dead, .dead, .dead, .dead, .dead, .dead, .dead, .dead, .dead] [] [.mp false false (.int .i64 (.nil)) (.bool (.nil))] [.b y1, .m (.int .i64 (.nil)) (.bool (.nil)) y2])) (fun y1 y2 => k (.exit 0) (encSt [.sl (.int .i64 (.int .i64 (.int .i64 (.bool (.int .i64 (.int .i64 (.bool (.nil)))))))), .dead, .dead, .dead, .dead, .dead, .dead, .dead, .dead, .dead, .dead, .dead, .dead, .dead, .dead, .dead, .dead, .dead, .dead, .dead, .dead, .dead, .dead, .dead, .dead, .dead, .dead, .dead, .dead, .dead, .dead, .dead, .dead, .dead, .dead, .dead, .dead, .dead] [] [.mp false false (.int .i64 (.nil)) (.bool (.nil))] [.q (.int .i64 (.int .i64 (.int .i64 (.bool (.int .i64 (.int .i64 (.bool (.nil)))))))) y1, .m (.int .i64 (.nil)) (.bool (.nil)) y2])) (n + 1) l2 last3 x4 x5 x6 m7 := by kernel_rfl
    exact h1.trans (h2.trans h3)

theorem outbox_Fit_l0_ok {α : Type} (outbox_one : outbox_one_T α) : (outbox_Fit_l0_spec outbox_one : LoopSpec α).ok Go.Proofs.Try.prog (envOf (outbox_Fit_C outbox_one) outbox_Fit_q outbox_Fit_inl 1000 outbox_Fit_ann false (outbox_Fit_loops outbox_one) (fun _ => none)) := by
  intro ds k
  have h1 : outbox_Fit_l0_ev outbox_one 1000 (encSt outbox_Fit_l0_t outbox_Fit_l0_s outbox_Fit_l0_h ds) k = outbox_Fit_l0_ev outbox_one 1000 (encSt outbox_Fit_l0_t outbox_Fit_l0_s outbox_Fit_l0_h [.q (.int .i64 (.int .i64 (.int .i64 (.bool (.int .i64 (.int .i64 (.bool (.nil)))))))) (hdQ (.int .i64 (.int .i64 (.int .i64 (.bool (.int .i64 (.int .i64 (.bool (.nil)))))))) ds), .i (hdI ds.tail), .q (.int .i64 (.int .i64 (.int .i64 (.bool (.int .i64 (.int .i64 (.bool (.nil)))))))) (hdQ (.int .i64 (.int .i64 (.int .i64 (.bool (.int .i64 (.int .i64 (.bool (.nil)))))))) ds.tail.tail), .i (hdI ds.tail.tail.tail), .i (hdI ds.tail.tail.tail.tail), .m (.int .i64 (.nil)) (.bool (.nil)) (hdM (.int .i64 (.nil)) (.bool (.nil)) ds.tail.tail.tail.tail.tail)]) k := by kernel_rfl
  have h2 := outbox_Fit_l0_eq outbox_one 1000 (hdQ (.int .i64 (.int .i64 (.int .i64 (.bool (.int .i64 (.int .i64 (.bool (.nil)))))))) ds) (hdI ds.tail) (hdQ (.int .i64 (.int .i64 (.int .i64 (.bool (.int .i64 (.int .i64 (.bool (.nil)))))))) ds.tail.tail) (hdI ds.tail.tail.tail) (hdI ds.tail.tail.tail.tail) (hdM (.int .i64 (.nil)) (.bool (.nil)) ds.tail.tail.tail.tail.tail) k
  exact h1.trans h2

theorem outbox_Fit_ev {α : Type} (outbox_one : outbox_one_T α) : EvOk (α := α) Go.Proofs.Try.prog (envOf (outbox_Fit_C outbox_one) outbox_Fit_q outbox_Fit_inl 1000 outbox_Fit_ann false (outbox_Fit_loops outbox_one) (fun _ => none)) 6 (outbox_Fit_sp (outbox_Fit_g outbox_one)) := by intro ds k; kernel_rfl

theorem outbox_Fit_ok {α : Type} : (outbox_Fit_spec : FunSpec α).ok Go.Proofs.Try.prog :=
  FunSpec.ok_of (sp := outbox_Fit_spec) (C := outbox_Fit_C outbox_one) (q := outbox_Fit_q) (inl := outbox_Fit_inl) (N := 1000) (ann := outbox_Fit_ann) (fr := false) (D := 6) (l := (outbox_Fit_loops outbox_one)) (hk := (fun _ => none)) (okCons outbox_one_ok okNil) (lokCons (outbox_Fit_l0_ok outbox_one) lokNil) noHooks (outbox_Fit_ev outbox_one)

end
end Go.Rv.Try

set_option linter.unusedVariables false
set_option maxRecDepth 100000
set_option maxHeartbeats 4000000
namespace Go.Rv.Try
open Go Go.Rv Go.RowKit
noncomputable section

-- drayman/keyed.Find$1

abbrev keyed_Find_1_T (α : Type) : Type := Z1 → Int → Int → (Bool → Int → Int → Option α) → Option α

noncomputable def keyed_Find_1 {α : Type} (x1 : Int × Int × Int × Int × Int × Int × Unit) (x2 : Int) (x3 : Int) (k : Bool → Int → Int → Option α) : Option α :=
  (cond (x1.1 == x2)
    (k (x1.2.1 == x3) x2 x3)
    (k false x2 x3))

noncomputable def keyed_Find_1_sp {α : Type} (keyed_Find_1 : keyed_Find_1_T α) : FunSpec α := ⟨60, [.agg [.int .i64, .int .i64, .int .i64, .int .i64, .int .i64, .int .i64], .ref 0 0, .ref 1 0], [.box [.int .i64], .box [.int .i64]], fun ds k => keyed_Find_1 (hdI ds, hdI ds.tail, hdI ds.tail.tail, hdI ds.tail.tail.tail, hdI ds.tail.tail.tail.tail, hdI ds.tail.tail.tail.tail.tail, ()) (hdI ds.tail.tail.tail.tail.tail.tail) (hdI ds.tail.tail.tail.tail.tail.tail.tail) (fun r1 r2 r3 => k (enc dep (.bool) [.b r1]).1 (encBs [.box [.int .i64], .box [.int .i64]] [.i r2, .i r3]).1)⟩

noncomputable def keyed_Find_1_spec {α : Type} : FunSpec α := keyed_Find_1_sp keyed_Find_1

noncomputable def keyed_Find_1_C {α : Type} : List (FunSpec α) := []

noncomputable def keyed_Find_1_q : FuncId → Bool := fun f => false

noncomputable def keyed_Find_1_inl : FuncId → Bool := fun f => false

noncomputable def keyed_Find_1_ann : FuncId → AnnT := fun f p => ⟨[], [], [], [], 0, [], [], none⟩

noncomputable def keyed_Find_1_loops {α : Type} : List (LoopSpec α) := []

theorem keyed_Find_1_ev {α : Type} : EvOk (α := α) Go.Proofs.Try.prog (envOf (keyed_Find_1_C) keyed_Find_1_q keyed_Find_1_inl 1000 keyed_Find_1_ann false (keyed_Find_1_loops) (fun _ => none)) 6 (keyed_Find_1_sp (keyed_Find_1)) := by intro ds k; kernel_rfl

theorem keyed_Find_1_ok {α : Type} : (keyed_Find_1_spec : FunSpec α).ok Go.Proofs.Try.prog :=
  FunSpec.ok_of (sp := keyed_Find_1_spec) (C := keyed_Find_1_C) (q := keyed_Find_1_q) (inl := keyed_Find_1_inl) (N := 1000) (ann := keyed_Find_1_ann) (fr := false) (D := 6) (l := (keyed_Find_1_loops)) (hk := (fun _ => none)) okNil lokNil noHooks (keyed_Find_1_ev)

end
end Go.Rv.Try

set_option linter.unusedVariables false
set_option maxRecDepth 100000
set_option maxHeartbeats 4000000
namespace Go.Rv.Try
open Go Go.Rv Go.RowKit
noncomputable section

-- slices.IndexFunc[[]drayman/api.Key,drayman/api.Key]

abbrev slices_IndexFunc_api_Key_api_Key_T (α : Type) : Type := (Seq Z1) → Int → Int → (Int → Int → Int → Option α) → Option α

noncomputable def slices_IndexFunc_api_Key_api_Key_l0_step {α : Type} (keyed_Find_1 : keyed_Find_1_T α) (kr : (Int) → (Int) → (Int) → Option α) (k0 : (Int) → (Int) → Option α) (rec : (Seq Z1) → (Int) → (Int) → (Int) → (Int) → Option α) (s4 : Seq Z1) (x5 : Int) (x6 : Int) (x7 : Int) (x8 : Int) : Option α :=
  (cond (decide (x6 < x5))
    (cond ((decide ((0 : Int) ≤ x6)) && (decide (x6 < (s4.n : Int))))
      (keyed_Find_1 (s4.g x6.toNat) x7 x8 fun r9 x10 x11 =>
        (cond r9
          (kr x6 x10 x11)
          (rec s4 x5 (IntKind.i64.wrap (x6 + 1)) x10 x11)))
      none)
    (k0 x7 x8))

noncomputable def slices_IndexFunc_api_Key_api_Key_l0_run {α : Type} (keyed_Find_1 : keyed_Find_1_T α) (kr : (Int) → (Int) → (Int) → Option α) (k0 : (Int) → (Int) → Option α) : Nat → (Seq Z1) → (Int) → (Int) → (Int) → (Int) → Option α
  | 0, _, _, _, _, _ => none
  | n + 1, s4, x5, x6, x7, x8 => slices_IndexFunc_api_Key_api_Key_l0_step keyed_Find_1 kr k0 (fun s4 x5 x6 x7 x8 => slices_IndexFunc_api_Key_api_Key_l0_run keyed_Find_1 kr k0 n s4 x5 x6 x7 x8) s4 x5 x6 x7 x8

noncomputable def slices_IndexFunc_api_Key_api_Key_g {α : Type} (keyed_Find_1 : keyed_Find_1_T α) (s1 : Seq Z1) (x2 : Int) (x3 : Int) (k : Int → Int → Int → Option α) : Option α :=
  (slices_IndexFunc_api_Key_api_Key_l0_run keyed_Find_1
    (fun x12 x13 x14 =>
      (k x12 x13 x14))
    (fun x15 x16 =>
      (k (-1) x15 x16))
    1000 s1 (s1.n : Int) 0 x2 x3)

noncomputable def slices_IndexFunc_api_Key_api_Key {α : Type} : slices_IndexFunc_api_Key_api_Key_T α := slices_IndexFunc_api_Key_api_Key_g keyed_Find_1

noncomputable def slices_IndexFunc_api_Key_api_Key_sp {α : Type} (slices_IndexFunc_api_Key_api_Key : slices_IndexFunc_api_Key_api_Key_T α) : FunSpec α := ⟨59, [.sl (.int .i64 (.int .i64 (.int .i64 (.int .i64 (.int .i64 (.int .i64 (.nil))))))), .func (.func 60) [] [.ref 0 0, .ref 1 0]], [.box [.int .i64], .box [.int .i64]], fun ds k => slices_IndexFunc_api_Key_api_Key (hdQ (.int .i64 (.int .i64 (.int .i64 (.int .i64 (.int .i64 (.int .i64 (.nil))))))) ds) (hdI ds.tail) (hdI ds.tail.tail) (fun r1 r2 r3 => k (enc dep (.int .i64) [.i r1]).1 (encBs [.box [.int .i64], .box [.int .i64]] [.i r2, .i r3]).1)⟩

noncomputable def slices_IndexFunc_api_Key_api_Key_spec {α : Type} : FunSpec α := slices_IndexFunc_api_Key_api_Key_sp slices_IndexFunc_api_Key_api_Key

noncomputable def slices_IndexFunc_api_Key_api_Key_C {α : Type} (keyed_Find_1 : keyed_Find_1_T α) : List (FunSpec α) := [keyed_Find_1_sp keyed_Find_1]

noncomputable def slices_IndexFunc_api_Key_api_Key_q : FuncId → Bool := fun f => Nat.beq f 60

noncomputable def slices_IndexFunc_api_Key_api_Key_inl : FuncId → Bool := fun f => false

noncomputable def slices_IndexFunc_api_Key_api_Key_ann : FuncId → AnnT := fun f p => if f = 59 then (if p = [true, false, true] then ⟨[0, 1, 7, 8], [], [], [4], 0, [], [], none⟩ else ⟨[], [], [], [], 0, [], [], none⟩) else ⟨[], [], [], [], 0, [], [], none⟩

noncomputable def slices_IndexFunc_api_Key_api_Key_l0_t : List Sh := [.sl (.int .i64 (.int .i64 (.int .i64 (.int .i64 (.int .i64 (.int .i64 (.nil))))))), .func (.func 60) [] [.ref 0 0, .ref 1 0], .dead, .dead, .dead, .dead, .dead, .int .i64, .int .i64, .dead, .dead, .dead, .dead, .dead, .dead, .dead, .dead, .dead, .dead]
noncomputable def slices_IndexFunc_api_Key_api_Key_l0_s : List (List Sh) := []
noncomputable def slices_IndexFunc_api_Key_api_Key_l0_h : List BSh := [.box [.int .i64], .box [.int .i64]]

noncomputable def slices_IndexFunc_api_Key_api_Key_l0_spec {α : Type} (keyed_Find_1 : keyed_Find_1_T α) : LoopSpec α := ⟨6, 59, [true, false, true], slices_IndexFunc_api_Key_api_Key_l0_t, slices_IndexFunc_api_Key_api_Key_l0_s, slices_IndexFunc_api_Key_api_Key_l0_h, fun ds k => slices_IndexFunc_api_Key_api_Key_l0_run keyed_Find_1 (fun y1 y2 y3 => k .ret (encSt [.dead, .dead, .dead, .dead, .int .i64, .dead, .dead, .dead, .dead, .dead, .dead, .dead, .dead, .dead, .dead, .dead, .dead, .dead, .dead] [] [.box [.int .i64], .box [.int .i64]] [.i y1, .i y2, .i y3])) (fun y1 y2 => k (.exit 0) (encSt [.dead, .dead, .dead, .dead, .dead, .dead, .dead, .dead, .dead, .dead, .dead, .dead, .dead, .dead, .dead, .dead, .dead, .dead, .dead] [] [.box [.int .i64], .box [.int .i64]] [.i y1, .i y2])) 1000 (hdQ (.int .i64 (.int .i64 (.int .i64 (.int .i64 (.int .i64 (.int .i64 (.nil))))))) ds) (hdI ds.tail) (hdI ds.tail.tail) (hdI ds.tail.tail.tail) (hdI ds.tail.tail.tail.tail)⟩

noncomputable def slices_IndexFunc_api_Key_api_Key_loops {α : Type} (keyed_Find_1 : keyed_Find_1_T α) : List (LoopSpec α) := [slices_IndexFunc_api_Key_api_Key_l0_spec keyed_Find_1]

noncomputable def slices_IndexFunc_api_Key_api_Key_l0_ev {α : Type} (keyed_Find_1 : keyed_Find_1_T α) (n : Nat) (st : St) (k : X → St → Option α) : Option α := loopN (evCode Go.Proofs.Try.prog (callD Go.Proofs.Try.prog (envOf (slices_IndexFunc_api_Key_api_Key_C keyed_Find_1) slices_IndexFunc_api_Key_api_Key_q slices_IndexFunc_api_Key_api_Key_inl 1000 slices_IndexFunc_api_Key_api_Key_ann false (slices_IndexFunc_api_Key_api_Key_loops keyed_Find_1) (fun _ => none)) 6) (((envOf (slices_IndexFunc_api_Key_api_Key_C keyed_Find_1) slices_IndexFunc_api_Key_api_Key_q slices_IndexFunc_api_Key_api_Key_inl 1000 slices_IndexFunc_api_Key_api_Key_ann false (slices_IndexFunc_api_Key_api_Key_loops keyed_Find_1) (fun _ => none)) : Env α).L 6 59) 1000 (slices_IndexFunc_api_Key_api_Key_ann 59) (false :: [true, false, true]) (loopC Go.Proofs.Try.prog 59 [true, false, true])) ((slices_IndexFunc_api_Key_api_Key_ann 59 [true, false, true]).head 2) ((slices_IndexFunc_api_Key_api_Key_ann 59 [true, false, true]).leave 2) n st k

theorem slices_IndexFunc_api_Key_api_Key_l0_eq {α : Type} (keyed_Find_1 : keyed_Find_1_T α) : ∀ (n : Nat) (s4 : Seq Z1) (x5 : Int) (x6 : Int) (x7 : Int) (x8 : Int) (k : X → St → Option α), slices_IndexFunc_api_Key_api_Key_l0_ev keyed_Find_1 n (encSt slices_IndexFunc_api_Key_api_Key_l0_t slices_IndexFunc_api_Key_api_Key_l0_s slices_IndexFunc_api_Key_api_Key_l0_h [.q (.int .i64 (.int .i64 (.int .i64 (.int .i64 (.int .i64 (.int .i64 (.nil))))))) s4, .i x5, .i x6, .i x7, .i x8]) k = slices_IndexFunc_api_Key_api_Key_l0_run keyed_Find_1 (fun y1 y2 y3 => k .ret (encSt [.dead, .dead, .dead, .dead, .int .i64, .dead, .dead, .dead, .dead, .dead, .dead, .dead, .dead, .dead, .dead, .dead, .dead, .dead, .dead] [] [.box [.int .i64], .box [.int .i64]] [.i y1, .i y2, .i y3])) (fun y1 y2 => k (.exit 0) (encSt [.dead, .dead, .dead, .dead, .dead, .dead, .dead, .dead, .dead, .dead, .dead, .dead, .dead, .dead, .dead, .dead, .dead, .dead, .dead] [] [.box [.int .i64], .box [.int .i64]] [.i y1, .i y2])) n s4 x5 x6 x7 x8 := by
  intro n
  induction n with
  | zero => intros; kernel_rfl
  | succ n ih =>
    intro s4 x5 x6 x7 x8 k
    have e : (fun (s4 : Seq Z1) (x5 : Int) (x6 : Int) (x7 : Int) (x8 : Int) => slices_IndexFunc_api_Key_api_Key_l0_ev keyed_Find_1 n (encSt slices_IndexFunc_api_Key_api_Key_l0_t slices_IndexFunc_api_Key_api_Key_l0_s slices_IndexFunc_api_Key_api_Key_l0_h [.q (.int .i64 (.int .i64 (.int .i64 (.int .i64 (.int .i64 (.int .i64 (.nil))))))) s4, .i x5, .i x6, .i x7, .i x8]) k) = (fun (s4 : Seq Z1) (x5 : Int) (x6 : Int) (x7 : Int) (x8 : Int) => slices_IndexFunc_api_Key_api_Key_l0_run keyed_Find_1 (fun y1 y2 y3 => k .ret (encSt [.dead, .dead, .dead, .dead, .int .i64, .dead, .dead, .dead, .dead, .dead, .dead, .dead, .dead, .dead, .dead, .dead, .dead, .dead, .dead] [] [.box [.int .i64], .box [.int .i64]] [.i y1, .i y2, .i y3])) (fun y1 y2 => k (.exit 0) (encSt [.dead, .dead, .dead, .dead, .dead, .dead, .dead, .dead, .dead, .dead, .dead, .dead, .dead, .dead, .dead, .dead, .dead, .dead, .dead] [] [.box [.int .i64], .box [.int .i64]] [.i y1, .i y2])) n s4 x5 x6 x7 x8) := by
      funext s4 x5 x6 x7 x8
      exact ih s4 x5 x6 x7 x8 k
    have h1 : slices_IndexFunc_api_Key_api_Key_l0_ev keyed_Find_1 (n + 1) (encSt slices_IndexFunc_api_Key_api_Key_l0_t slices_IndexFunc_api_Key_api_Key_l0_s slices_IndexFunc_api_Key_api_Key_l0_h [.q (.int .i64 (.int .i64 (.int .i64 (.int .i64 (.int .i64 (.int .i64 (.nil))))))) s4, .i x5, .i x6, .i x7, .i x8]) k = slices_IndexFunc_api_Key_api_Key_l0_step keyed_Find_1 (fun y1 y2 y3 => k .ret (encSt [.dead, .dead, .dead, .dead, .int .i64, .dead, .dead, .dead, .dead, .dead, .dead, .dead, .dead, .dead, .dead, .dead, .dead, .dead, .dead] [] [.box [.int .i64], .box [.int .i64]] [.i y1, .i y2, .i y3])) (fun y1 y2 => k (.exit 0) (encSt [.dead, .dead, .dead, .dead, .dead, .dead, .dead, .dead, .dead, .dead, .dead, .dead, .dead, .dead, .dead, .dead, .dead, .dead, .dead] [] [.box [.int .i64], .box [.int .i64]] [.i y1, .i y2])) (fun (s4 : Seq Z1) (x5 : Int) (x6 : Int) (x7 : Int) (x8 : Int) => slices_IndexFunc_api_Key_api_Key_l0_ev keyed_Find_1 n (encSt slices_IndexFunc_api_Key_api_Key_l0_t slices_IndexFunc_api_Key_api_Key_l0_s slices_IndexFunc_api_Key_api_Key_l0_h [.q (.int .i64 (.int .i64 (.int .i64 (.int .i64 (.int .i64 (.int .i64 (.nil))))))) s4, .i x5, .i x6, .i x7, .i x8]) k) s4 x5 x6 x7 x8 := by kernel_rfl
    have h2 := congrArg (fun r => slices_IndexFunc_api_Key_api_Key_l0_step keyed_Find_1 (fun y1 y2 y3 => k .ret (encSt [.dead, .dead, .dead, .dead, .int .i64, .dead, .dead, .dead, .dead, .dead, .dead, .dead, .dead, .dead, .dead, .dead, .dead, .dead, .dead] [] [.box [.int .i64], .box [.int .i64]] [.i y1, .i y2, .i y3])) (fun y1 y2 => k (.exit 0) (encSt [.dead, .dead, .dead, .dead, .dead, .dead, .dead, .dead, .dead, .dead, .dead, .dead, .dead, .dead, .dead, .dead, .dead, .dead, .dead] [] [.box [.int .i64], .box [.int .i64]] [.i y1, .i y2])) r s4 x5 x6 x7 x8) e
    have h3 : slices_IndexFunc_api_Key_api_Key_l0_step keyed_Find_1 (fun y1 y2 y3 => k .ret (encSt [.dead, .dead, .dead, .dead, .int .i64, .dead, .dead, .dead, .dead, .dead, .dead, .dead, .dead, .dead, .dead, .dead, .dead, .dead, .dead] [] [.box [.int .i64], .box [.int .i64]] [.i y1, .i y2, .i y3])) (fun y1 y2 => k (.exit 0) (encSt [.dead, .dead, .dead, .dead, .dead, .dead, .dead, .dead, .dead, .dead, .dead, .dead, .dead, .dead, .dead, .dead, .dead, .dead, .dead] [] [.box [.int .i64], .box [.int .i64]] [.i y1, .i y2])) (fun (s4 : Seq Z1) (x5 : Int) (x6 : Int) (x7 : Int) (x8 : Int) => slices_IndexFunc_api_Key_api_Key_l0_run keyed_Find_1 (fun y1 y2 y3 => k .ret (encSt [.dead, .dead, .dead, .dead, .int .i64, .dead, .dead, .dead, .dead, .dead, .dead, .dead, .dead, .dead, .dead, .dead, .dead, .dead, .dead] [] [.box [.int .i64], .box [.int .i64]] [.i y1, .i y2, .i y3])) (fun y1 y2 => k (.exit 0) (encSt [.dead, .dead, .dead, .dead, .dead, .dead, .dead, .dead, .dead, .dead, .dead, .dead, .dead, .dead, .dead, .dead, .dead, .dead, .dead] [] [.box [.int .i64], .box [.int .i64]] [.i y1, .i y2])) n s4 x5 x6 x7 x8) s4 x5 x6 x7 x8 = slices_IndexFunc_api_Key_api_Key_l0_run keyed_Find_1 (fun y1 y2 y3 => k .ret (encSt [.dead, .dead, .dead, .dead, .int .i64, .dead, .dead, .dead, .dead, .dead, .dead, .dead, .dead, .dead, .dead, .dead, .dead, .dead, .dead] [] [.box [.int .i64], .box [.int .i64]] [.i y1, .i y2, .i y3])) (fun y1 y2 => k (.exit 0) (encSt [.dead, .dead, .dead, .dead, .dead, .dead, .dead, .dead, .dead, .dead, .dead, .dead, .dead, .dead, .dead, .dead, .dead, .dead, .dead] [] [.box [.int .i64], .box [.int .i64]] [.i y1, .i y2])) (n + 1) s4 x5 x6 x7 x8 := by kernel_rfl
    exact h1.trans (h2.trans h3)

theorem slices_IndexFunc_api_Key_api_Key_l0_ok {α : Type} (keyed_Find_1 : keyed_Find_1_T α) : (slices_IndexFunc_api_Key_api_Key_l0_spec keyed_Find_1 : LoopSpec α).ok Go.Proofs.Try.prog (envOf (slices_IndexFunc_api_Key_api_Key_C keyed_Find_1) slices_IndexFunc_api_Key_api_Key_q slices_IndexFunc_api_Key_api_Key_inl 1000 slices_IndexFunc_api_Key_api_Key_ann false (slices_IndexFunc_api_Key_api_Key_loops keyed_Find_1) (fun _ => none)) := by
  intro ds k
  have h1 : slices_IndexFunc_api_Key_api_Key_l0_ev keyed_Find_1 1000 (encSt slices_IndexFunc_api_Key_api_Key_l0_t slices_IndexFunc_api_Key_api_Key_l0_s slices_IndexFunc_api_Key_api_Key_l0_h ds) k = slices_IndexFunc_api_Key_api_Key_l0_ev keyed_Find_1 1000 (encSt slices_IndexFunc_api_Key_api_Key_l0_t slices_IndexFunc_api_Key_api_Key_l0_s slices_IndexFunc_api_Key_api_Key_l0_h [.q (.int .i64 (.int .i64 (.int .i64 (.int .i64 (.int .i64 (.int .i64 (.nil))))))) (hdQ (.int .i64 (.int .i64 (.int .i64 (.int .i64 (.int .i64 (.int .i64 (.nil))))))) ds), .i (hdI ds.tail), .i (hdI ds.tail.tail), .i (hdI ds.tail.tail.tail), .i (hdI ds.tail.tail.tail.tail)]) k := by kernel_rfl
  have h2 := slices_IndexFunc_api_Key_api_Key_l0_eq keyed_Find_1 1000 (hdQ (.int .i64 (.int .i64 (.int .i64 (.int .i64 (.int .i64 (.int .i64 (.nil))))))) ds) (hdI ds.tail) (hdI ds.tail.tail) (hdI ds.tail.tail.tail) (hdI ds.tail.tail.tail.tail) k
  exact h1.trans h2

theorem slices_IndexFunc_api_Key_api_Key_ev {α : Type} (keyed_Find_1 : keyed_Find_1_T α) : EvOk (α := α) Go.Proofs.Try.prog (envOf (slices_IndexFunc_api_Key_api_Key_C keyed_Find_1) slices_IndexFunc_api_Key_api_Key_q slices_IndexFunc_api_Key_api_Key_inl 1000 slices_IndexFunc_api_Key_api_Key_ann false (slices_IndexFunc_api_Key_api_Key_loops keyed_Find_1) (fun _ => none)) 6 (slices_IndexFunc_api_Key_api_Key_sp (slices_IndexFunc_api_Key_api_Key_g keyed_Find_1)) := by intro ds k; kernel_rfl

theorem slices_IndexFunc_api_Key_api_Key_ok {α : Type} : (slices_IndexFunc_api_Key_api_Key_spec : FunSpec α).ok Go.Proofs.Try.prog :=
  FunSpec.ok_of (sp := slices_IndexFunc_api_Key_api_Key_spec) (C := slices_IndexFunc_api_Key_api_Key_C keyed_Find_1) (q := slices_IndexFunc_api_Key_api_Key_q) (inl := slices_IndexFunc_api_Key_api_Key_inl) (N := 1000) (ann := slices_IndexFunc_api_Key_api_Key_ann) (fr := false) (D := 6) (l := (slices_IndexFunc_api_Key_api_Key_loops keyed_Find_1)) (hk := (fun _ => none)) (okCons keyed_Find_1_ok okNil) (lokCons (slices_IndexFunc_api_Key_api_Key_l0_ok keyed_Find_1) lokNil) noHooks (slices_IndexFunc_api_Key_api_Key_ev keyed_Find_1)

end
end Go.Rv.Try

set_option linter.unusedVariables false
set_option maxRecDepth 100000
set_option maxHeartbeats 4000000
namespace Go.Rv.Try
open Go Go.Rv Go.RowKit
noncomputable section

-- drayman/keyed.Find

abbrev keyed_Find_T (α : Type) : Type := (Seq Z1) → Int → Int → (Z1 → Bool → Option α) → Option α

noncomputable def keyed_Find_g {α : Type} (slices_IndexFunc_api_Key_api_Key : slices_IndexFunc_api_Key_api_Key_T α) (l1 : Seq Z1) (saga2 : Int) (step3 : Int) (k : Z1 → Bool → Option α) : Option α :=
  (slices_IndexFunc_api_Key_api_Key l1 saga2 step3 fun r4 x5 x6 =>
    (cond (decide (r4 < 0))
      (k (0, 0, 0, 0, 0, 0, ()) false)
      (cond ((decide ((0 : Int) ≤ r4)) && (decide (r4 < (l1.n : Int))))
        (k (l1.g r4.toNat) true)
        none)))

noncomputable def keyed_Find {α : Type} : keyed_Find_T α := keyed_Find_g slices_IndexFunc_api_Key_api_Key

noncomputable def keyed_Find_sp {α : Type} (keyed_Find : keyed_Find_T α) : FunSpec α := ⟨35, [.sl (.int .i64 (.int .i64 (.int .i64 (.int .i64 (.int .i64 (.int .i64 (.nil))))))), .int .i64, .int .i64], [], fun ds k => keyed_Find (hdQ (.int .i64 (.int .i64 (.int .i64 (.int .i64 (.int .i64 (.int .i64 (.nil))))))) ds) (hdI ds.tail) (hdI ds.tail.tail) (fun r1 r2 => k (enc dep (.tup [.agg [.int .i64, .int .i64, .int .i64, .int .i64, .int .i64, .int .i64], .bool]) [.i r1.1, .i r1.2.1, .i r1.2.2.1, .i r1.2.2.2.1, .i r1.2.2.2.2.1, .i r1.2.2.2.2.2.1, .b r2]).1 [])⟩

noncomputable def keyed_Find_spec {α : Type} : FunSpec α := keyed_Find_sp keyed_Find

noncomputable def keyed_Find_C {α : Type} (slices_IndexFunc_api_Key_api_Key : slices_IndexFunc_api_Key_api_Key_T α) : List (FunSpec α) := [slices_IndexFunc_api_Key_api_Key_sp slices_IndexFunc_api_Key_api_Key]

noncomputable def keyed_Find_q : FuncId → Bool := fun f => Nat.beq f 59

noncomputable def keyed_Find_inl : FuncId → Bool := fun f => false

noncomputable def keyed_Find_ann : FuncId → AnnT := fun f p => ⟨[], [], [], [], 0, [], [], none⟩

noncomputable def keyed_Find_loops {α : Type} (slices_IndexFunc_api_Key_api_Key : slices_IndexFunc_api_Key_api_Key_T α) : List (LoopSpec α) := []

theorem keyed_Find_ev {α : Type} (slices_IndexFunc_api_Key_api_Key : slices_IndexFunc_api_Key_api_Key_T α) : EvOk (α := α) Go.Proofs.Try.prog (envOf (keyed_Find_C slices_IndexFunc_api_Key_api_Key) keyed_Find_q keyed_Find_inl 1000 keyed_Find_ann false (keyed_Find_loops slices_IndexFunc_api_Key_api_Key) (fun _ => none)) 6 (keyed_Find_sp (keyed_Find_g slices_IndexFunc_api_Key_api_Key)) := by intro ds k; kernel_rfl

theorem keyed_Find_ok {α : Type} : (keyed_Find_spec : FunSpec α).ok Go.Proofs.Try.prog :=
  FunSpec.ok_of (sp := keyed_Find_spec) (C := keyed_Find_C slices_IndexFunc_api_Key_api_Key) (q := keyed_Find_q) (inl := keyed_Find_inl) (N := 1000) (ann := keyed_Find_ann) (fr := false) (D := 6) (l := (keyed_Find_loops slices_IndexFunc_api_Key_api_Key)) (hk := (fun _ => none)) (okCons slices_IndexFunc_api_Key_api_Key_ok okNil) lokNil noHooks (keyed_Find_ev slices_IndexFunc_api_Key_api_Key)

end
end Go.Rv.Try

set_option linter.unusedVariables false
set_option maxRecDepth 100000
set_option maxHeartbeats 4000000
namespace Go.Rv.Try
open Go Go.Rv Go.RowKit
noncomputable section

-- slices.BinarySearchFunc[[]drayman/api.Key,drayman/api.Key,drayman/api.Key]

abbrev slices_BinarySearchFunc_api_Key_api_Key_api_Key_T (α : Type) : Type := (Seq Z1) → Z1 → (Int → Bool → Option α) → Option α

noncomputable def slices_BinarySearchFunc_api_Key_api_Key_api_Key_l0_step {α : Type} (keyed_rank : keyed_rank_T α) (k0 : (Seq Z1) → (Int) → (Int) → Z1 → Option α) (rec : (Seq Z1) → (Int) → (Int) → (Int) → Z1 → Option α) (x3 : Seq Z1) (n4 : Int) (i5 : Int) (j6 : Int) (x7 : Int × Int × Int × Int × Int × Int × Unit) : Option α :=
  (cond (decide (i5 < j6))
    (cond ((decide ((0 : Int) ≤ (IntKind.i64.wrap (Int.fdiv (IntKind.u64.wrap (IntKind.i64.wrap (i5 + j6))) (2 ^ (min 1 IntKind.u64.bits)))))) && (decide ((IntKind.i64.wrap (Int.fdiv (IntKind.u64.wrap (IntKind.i64.wrap (i5 + j6))) (2 ^ (min 1 IntKind.u64.bits)))) < (x3.n : Int))))
      (keyed_rank (x3.g (IntKind.i64.wrap (Int.fdiv (IntKind.u64.wrap (IntKind.i64.wrap (i5 + j6))) (2 ^ (min 1 IntKind.u64.bits)))).toNat) x7 fun r8 =>
        (cond (decide (r8 < 0))
          (rec x3 n4 (IntKind.i64.wrap ((IntKind.i64.wrap (Int.fdiv (IntKind.u64.wrap (IntKind.i64.wrap (i5 + j6))) (2 ^ (min 1 IntKind.u64.bits)))) + 1)) j6 x7)
          (rec x3 n4 i5 (IntKind.i64.wrap (Int.fdiv (IntKind.u64.wrap (IntKind.i64.wrap (i5 + j6))) (2 ^ (min 1 IntKind.u64.bits)))) x7)))
      none)
    (k0 x3 n4 i5 x7))

noncomputable def slices_BinarySearchFunc_api_Key_api_Key_api_Key_l0_run {α : Type} (keyed_rank : keyed_rank_T α) (k0 : (Seq Z1) → (Int) → (Int) → Z1 → Option α) : Nat → (Seq Z1) → (Int) → (Int) → (Int) → Z1 → Option α
  | 0, _, _, _, _, _ => none
  | n + 1, x3, n4, i5, j6, x7 => slices_BinarySearchFunc_api_Key_api_Key_api_Key_l0_step keyed_rank k0 (fun x3 n4 i5 j6 x7 => slices_BinarySearchFunc_api_Key_api_Key_api_Key_l0_run keyed_rank k0 n x3 n4 i5 j6 x7) x3 n4 i5 j6 x7

noncomputable def slices_BinarySearchFunc_api_Key_api_Key_api_Key_g {α : Type} (keyed_rank : keyed_rank_T α) (x1 : Seq Z1) (target2 : Int × Int × Int × Int × Int × Int × Unit) (k : Int → Bool → Option α) : Option α :=
  (slices_BinarySearchFunc_api_Key_api_Key_api_Key_l0_run keyed_rank
    (fun x9 x10 x11 x12 =>
      (cond (decide (x11 < x10))
        (cond ((decide ((0 : Int) ≤ x11)) && (decide (x11 < (x9.n : Int))))
          (keyed_rank (x9.g x11.toNat) x12 fun r13 =>
            (k x11 (r13 == 0)))
          none)
        (k x11 false)))
    1000 x1 (x1.n : Int) 0 (x1.n : Int) target2)

noncomputable def slices_BinarySearchFunc_api_Key_api_Key_api_Key {α : Type} : slices_BinarySearchFunc_api_Key_api_Key_api_Key_T α := slices_BinarySearchFunc_api_Key_api_Key_api_Key_g keyed_rank

noncomputable def slices_BinarySearchFunc_api_Key_api_Key_api_Key_sp {α : Type} (slices_BinarySearchFunc_api_Key_api_Key_api_Key : slices_BinarySearchFunc_api_Key_api_Key_api_Key_T α) : FunSpec α := ⟨81, [.sl (.int .i64 (.int .i64 (.int .i64 (.int .i64 (.int .i64 (.int .i64 (.nil))))))), .agg [.int .i64, .int .i64, .int .i64, .int .i64, .int .i64, .int .i64], .func (.func 64) [] []], [], fun ds k => slices_BinarySearchFunc_api_Key_api_Key_api_Key (hdQ (.int .i64 (.int .i64 (.int .i64 (.int .i64 (.int .i64 (.int .i64 (.nil))))))) ds) (hdI ds.tail, hdI ds.tail.tail, hdI ds.tail.tail.tail, hdI ds.tail.tail.tail.tail, hdI ds.tail.tail.tail.tail.tail, hdI ds.tail.tail.tail.tail.tail.tail, ()) (fun r1 r2 => k (enc dep (.tup [.int .i64, .bool]) [.i r1, .b r2]).1 [])⟩

noncomputable def slices_BinarySearchFunc_api_Key_api_Key_api_Key_spec {α : Type} : FunSpec α := slices_BinarySearchFunc_api_Key_api_Key_api_Key_sp slices_BinarySearchFunc_api_Key_api_Key_api_Key

noncomputable def slices_BinarySearchFunc_api_Key_api_Key_api_Key_C {α : Type} (keyed_rank : keyed_rank_T α) : List (FunSpec α) := [keyed_rank_sp keyed_rank]

noncomputable def slices_BinarySearchFunc_api_Key_api_Key_api_Key_q : FuncId → Bool := fun f => Nat.beq f 64

noncomputable def slices_BinarySearchFunc_api_Key_api_Key_api_Key_inl : FuncId → Bool := fun f => false

noncomputable def slices_BinarySearchFunc_api_Key_api_Key_api_Key_ann : FuncId → AnnT := fun f p => if f = 81 then (if p = [false, true, true, true, true] then ⟨[], [], [], [], 2, [], [], none⟩ else if p = [false, true, true, true] then ⟨[0, 2, 4, 8, 9, 10], [], [0, 2, 4, 8, 9], [6, 7], 0, [], [], none⟩ else if p = [false, true, true, false, false, true, true, true] then ⟨[], [], [], [], 2, [], [], none⟩ else ⟨[], [], [], [], 0, [], [], none⟩) else ⟨[], [], [], [], 0, [], [], none⟩

noncomputable def slices_BinarySearchFunc_api_Key_api_Key_api_Key_l0_t : List Sh := [.sl (.int .i64 (.int .i64 (.int .i64 (.int .i64 (.int .i64 (.int .i64 (.nil))))))), .dead, .func (.func 64) [] [], .dead, .ref 0 0, .dead, .dead, .dead, .int .i64, .int .i64, .int .i64, .dead, .dead, .dead, .dead, .dead, .dead, .dead, .dead, .dead, .dead, .dead, .dead, .dead, .dead, .dead, .dead, .dead, .dead, .dead, .dead, .dead, .dead, .dead, .dead, .dead, .dead, .dead, .dead, .dead, .dead, .dead, .dead, .dead, .dead, .dead, .dead, .dead, .dead]
noncomputable def slices_BinarySearchFunc_api_Key_api_Key_api_Key_l0_s : List (List Sh) := []
noncomputable def slices_BinarySearchFunc_api_Key_api_Key_api_Key_l0_h : List BSh := [.box [.int .i64, .int .i64, .int .i64, .int .i64, .int .i64, .int .i64]]

noncomputable def slices_BinarySearchFunc_api_Key_api_Key_api_Key_l0_spec {α : Type} (keyed_rank : keyed_rank_T α) : LoopSpec α := ⟨6, 81, [false, true, true, true], slices_BinarySearchFunc_api_Key_api_Key_api_Key_l0_t, slices_BinarySearchFunc_api_Key_api_Key_api_Key_l0_s, slices_BinarySearchFunc_api_Key_api_Key_api_Key_l0_h, fun ds k => slices_BinarySearchFunc_api_Key_api_Key_api_Key_l0_run keyed_rank (fun y1 y2 y3 y4 => k (.exit 0) (encSt [.sl (.int .i64 (.int .i64 (.int .i64 (.int .i64 (.int .i64 (.int .i64 (.nil))))))), .dead, .func (.func 64) [] [], .dead, .ref 0 0, .dead, .dead, .dead, .int .i64, .int .i64, .dead, .dead, .dead, .dead, .dead, .dead, .dead, .dead, .dead, .dead, .dead, .dead, .dead, .dead, .dead, .dead, .dead, .dead, .dead, .dead, .dead, .dead, .dead, .dead, .dead, .dead, .dead, .dead, .dead, .dead, .dead, .dead, .dead, .dead, .dead, .dead, .dead, .dead, .dead] [] [.box [.int .i64, .int .i64, .int .i64, .int .i64, .int .i64, .int .i64]] [.q (.int .i64 (.int .i64 (.int .i64 (.int .i64 (.int .i64 (.int .i64 (.nil))))))) y1, .i y2, .i y3, .i y4.1, .i y4.2.1, .i y4.2.2.1, .i y4.2.2.2.1, .i y4.2.2.2.2.1, .i y4.2.2.2.2.2.1])) 1000 (hdQ (.int .i64 (.int .i64 (.int .i64 (.int .i64 (.int .i64 (.int .i64 (.nil))))))) ds) (hdI ds.tail) (hdI ds.tail.tail) (hdI ds.tail.tail.tail) (hdI ds.tail.tail.tail.tail, hdI ds.tail.tail.tail.tail.tail, hdI ds.tail.tail.tail.tail.tail.tail, hdI ds.tail.tail.tail.tail.tail.tail.tail, hdI ds.tail.tail.tail.tail.tail.tail.tail.tail, hdI ds.tail.tail.tail.tail.tail.tail.tail.tail.tail, ())⟩

noncomputable def slices_BinarySearchFunc_api_Key_api_Key_api_Key_loops {α : Type} (keyed_rank : keyed_rank_T α) : List (LoopSpec α) := [slices_BinarySearchFunc_api_Key_api_Key_api_Key_l0_spec keyed_rank]

noncomputable def slices_BinarySearchFunc_api_Key_api_Key_api_Key_l0_ev {α : Type} (keyed_rank : keyed_rank_T α) (n : Nat) (st : St) (k : X → St → Option α) : Option α := loopN (evCode Go.Proofs.Try.prog (callD Go.Proofs.Try.prog (envOf (slices_BinarySearchFunc_api_Key_api_Key_api_Key_C keyed_rank) slices_BinarySearchFunc_api_Key_api_Key_api_Key_q slices_BinarySearchFunc_api_Key_api_Key_api_Key_inl 1000 slices_BinarySearchFunc_api_Key_api_Key_api_Key_ann false (slices_BinarySearchFunc_api_Key_api_Key_api_Key_loops keyed_rank) (fun _ => none)) 6) (((envOf (slices_BinarySearchFunc_api_Key_api_Key_api_Key_C keyed_rank) slices_BinarySearchFunc_api_Key_api_Key_api_Key_q slices_BinarySearchFunc_api_Key_api_Key_api_Key_inl 1000 slices_BinarySearchFunc_api_Key_api_Key_api_Key_ann false (slices_BinarySearchFunc_api_Key_api_Key_api_Key_loops keyed_rank) (fun _ => none)) : Env α).L 6 81) 1000 (slices_BinarySearchFunc_api_Key_api_Key_api_Key_ann 81) (false :: [false, true, true, true]) (loopC Go.Proofs.Try.prog 81 [false, true, true, true])) ((slices_BinarySearchFunc_api_Key_api_Key_api_Key_ann 81 [false, true, true, true]).head 1) ((slices_BinarySearchFunc_api_Key_api_Key_api_Key_ann 81 [false, true, true, true]).leave 1) n st k

theorem slices_BinarySearchFunc_api_Key_api_Key_api_Key_l0_eq {α : Type} (keyed_rank : keyed_rank_T α) : ∀ (n : Nat) (x3 : Seq Z1) (n4 : Int) (i5 : Int) (j6 : Int) (x7 : Int × Int × Int × Int × Int × Int × Unit) (k : X → St → Option α), slices_BinarySearchFunc_api_Key_api_Key_api_Key_l0_ev keyed_rank n (encSt slices_BinarySearchFunc_api_Key_api_Key_api_Key_l0_t slices_BinarySearchFunc_api_Key_api_Key_api_Key_l0_s slices_BinarySearchFunc_api_Key_api_Key_api_Key_l0_h [.q (.int .i64 (.int .i64 (.int .i64 (.int .i64 (.int .i64 (.int .i64 (.nil))))))) x3, .i n4, .i i5, .i j6, .i x7.1, .i x7.2.1, .i x7.2.2.1, .i x7.2.2.2.1, .i x7.2.2.2.2.1, .i x7.2.2.2.2.2.1]) k = slices_BinarySearchFunc_api_Key_api_Key_api_Key_l0_run keyed_rank (fun y1 y2 y3 y4 => k (.exit 0) (encSt [.sl (.int .i64 (.int .i64 (.int .i64 (.int .i64 (.int .i64 (.int .i64 (.nil))))))), .dead, .func (.func 64) [] [], .dead, .ref 0 0, .dead, .dead, .dead, .int .i64, .int .i64, .dead, .dead, .dead, .dead, .dead, .dead, .dead, .dead, .dead, .dead, .dead, .dead, .dead, .dead, .dead, .dead, .dead, .dead, .dead, .dead, .dead, .dead, .dead, .dead, .dead, .dead, .dead, .dead, .dead, .dead, .dead, .dead, .dead, .dead, .dead, .dead, .dead, .dead, .dead] [] [.box [.int .i64, .int .i64, .int .i64, .int .i64, .int .i64, .int .i64]] [.q (.int .i64 (.int .i64 (.int .i64 (.int .i64 (.int .i64 (.int .i64 (.nil))))))) y1, .i y2, .i y3, .i y4.1, .i y4.2.1, .i y4.2.2.1, .i y4.2.2.2.1, .i y4.2.2.2.2.1, .i y4.2.2.2.2.2.1])) n x3 n4 i5 j6 x7 := by
  intro n
  induction n with
  | zero => intros; kernel_rfl
  | succ n ih =>
    intro x3 n4 i5 j6 x7 k
    have e : (fun (x3 : Seq Z1) (n4 : Int) (i5 : Int) (j6 : Int) (x7 : Int × Int × Int × Int × Int × Int × Unit) => slices_BinarySearchFunc_api_Key_api_Key_api_Key_l0_ev keyed_rank n (encSt slices_BinarySearchFunc_api_Key_api_Key_api_Key_l0_t slices_BinarySearchFunc_api_Key_api_Key_api_Key_l0_s slices_BinarySearchFunc_api_Key_api_Key_api_Key_l0_h [.q (.int .i64 (.int .i64 (.int .i64 (.int .i64 (.int .i64 (.int .i64 (.nil))))))) x3, .i n4, .i i5, .i j6, .i x7.1, .i x7.2.1, .i x7.2.2.1, .i x7.2.2.2.1, .i x7.2.2.2.2.1, .i x7.2.2.2.2.2.1]) k) = (fun (x3 : Seq Z1) (n4 : Int) (i5 : Int) (j6 : Int) (x7 : Int × Int × Int × Int × Int × Int × Unit) => slices_BinarySearchFunc_api_Key_api_Key_api_Key_l0_run keyed_rank (fun y1 y2 y3 y4 => k (.exit 0) (encSt [.sl (.int .i64 (.int .i64 (.int .i64 (.int .i64 (.int .i64 (.int .i64 (.nil))))))), .dead, .func (.func 64) [] [], .dead, .ref 0 0, .dead, .dead, .dead, .int .i64, .int .i64, .dead, .dead, .dead, .dead, .dead, .dead, .dead, .dead, .dead, .dead, .dead, .dead, .dead, .dead, .dead, .dead, .dead, .dead, .dead, .dead, .dead, .dead, .dead, .dead, .dead, .dead, .dead, .dead, .dead, .dead, .dead, .dead, .dead, .dead, .dead, .dead, .dead, .dead, .dead] [] [.box [.int .i64, .int .i64, .int .i64, .int .i64, .int .i64, .int .i64]] [.q (.int .i64 (.int .i64 (.int .i64 (.int .i64 (.int .i64 (.int .i64 (.nil))))))) y1, .i y2, .i y3, .i y4.1, .i y4.2.1, .i y4.2.2.1, .i y4.2.2.2.1, .i y4.2.2.2.2.1, .i y4.2.2.2.2.2.1])) n x3 n4 i5 j6 x7) := by
      funext x3 n4 i5 j6 x7
      exact ih x3 n4 i5 j6 x7 k
    have h1 : slices_BinarySearchFunc_api_Key_api_Key_api_Key_l0_ev keyed_rank (n + 1) (encSt slices_BinarySearchFunc_api_Key_api_Key_api_Key_l0_t slices_BinarySearchFunc_api_Key_api_Key_api_Key_l0_s slices_BinarySearchFunc_api_Key_api_Key_api_Key_l0_h [.q (.int .i64 (.int .i64 (.int .i64 (.int .i64 (.int .i64 (.int .i64 (.nil))))))) x3, .i n4, .i i5, .i j6, .i x7.1, .i x7.2.1, .i x7.2.2.1, .i x7.2.2.2.1, .i x7.2.2.2.2.1, .i x7.2.2.2.2.2.1]) k = slices_BinarySearchFunc_api_Key_api_Key_api_Key_l0_step keyed_rank (fun y1 y2 y3 y4 => k (.exit 0) (encSt [.sl (.int .i64 (.int .i64 (.int .i64 (.int .i64 (.int .i64 (.int .i64 (.nil))))))), .dead, .func (.func 64) [] [], .dead, .ref 0 0, .dead, .dead, .dead, .int .i64, .int .i64, .dead, .dead, .dead, .dead, .dead, .dead, .dead, .dead, .dead, .dead, .dead, .dead, .dead, .dead, .dead, .dead, .dead, .dead, .dead, .dead, .dead, .dead, .dead, .dead, .dead, .dead, .dead, .dead, .dead, .dead, .dead, .dead, .dead, .dead, .dead, .dead, .dead, .dead, .dead] [] [.box [.int .i64, .int .i64, .int .i64, .int .i64, .int .i64, .int .i64]] [.q (.int .i64 (.int .i64 (.int .i64 (.int .i64 (.int .i64 (.int .i64 (.nil))))))) y1, .i y2, .i y3, .i y4.1, .i y4.2.1, .i y4.2.2.1, .i y4.2.2.2.1, .i y4.2.2.2.2.1, .i y4.2.2.2.2.2.1])) (fun (x3 : Seq Z1) (n4 : Int) (i5 : Int) (j6 : Int) (x7 : Int × Int × Int × Int × Int × Int × Unit) => slices_BinarySearchFunc_api_Key_api_Key_api_Key_l0_ev keyed_rank n (encSt slices_BinarySearchFunc_api_Key_api_Key_api_Key_l0_t slices_BinarySearchFunc_api_Key_api_Key_api_Key_l0_s slices_BinarySearchFunc_api_Key_api_Key_api_Key_l0_h [.q (.int .i64 (.int .i64 (.int .i64 (.int .i64 (.int .i64 (.int .i64 (.nil))))))) x3, .i n4, .i i5, .i j6, .i x7.1, .i x7.2.1, .i x7.2.2.1, .i x7.2.2.2.1, .i x7.2.2.2.2.1, .i x7.2.2.2.2.2.1]) k) x3 n4 i5 j6 x7 := by kernel_rfl
    have h2 := congrArg (fun r => slices_BinarySearchFunc_api_Key_api_Key_api_Key_l0_step keyed_rank (fun y1 y2 y3 y4 => k (.exit 0) (encSt [.sl (.int .i64 (.int .i64 (.int .i64 (.int .i64 (.int .i64 (.int .i64 (.nil))))))), .dead, .func (.func 64) [] [], .dead, .ref 0 0, .dead, .dead, .dead, .int .i64, .int .i64, .dead, .dead, .dead, .dead, .dead, .dead, .dead, .dead, .dead, .dead, .dead, .dead, .dead, .dead, .dead, .dead, .dead, .dead, .dead, .dead, .dead, .dead, .dead, .dead, .dead, .dead, .dead, .dead, .dead, .dead, .dead, .dead, .dead, .dead, .dead, .dead, .dead, .dead, .dead] [] [.box [.int .i64, .int .i64, .int .i64, .int .i64, .int .i64, .int .i64]] [.q (.int .i64 (.int .i64 (.int .i64 (.int .i64 (.int .i64 (.int .i64 (.nil))))))) y1, .i y2, .i y3, .i y4.1, .i y4.2.1, .i y4.2.2.1, .i y4.2.2.2.1, .i y4.2.2.2.2.1, .i y4.2.2.2.2.2.1])) r x3 n4 i5 j6 x7) e
    have h3 : slices_BinarySearchFunc_api_Key_api_Key_api_Key_l0_step keyed_rank (fun y1 y2 y3 y4 => k (.exit 0) (encSt [.sl (.int .i64 (.int .i64 (.int .i64 (.int .i64 (.int .i64 (.int .i64 (.nil))))))), .dead, .func (.func 64) [] [], .dead, .ref 0 0, .dead, .dead, .dead, .int .i64, .int .i64, .dead, .dead, .dead, .dead, .dead, .dead, .dead, .dead, .dead, .dead, .dead, .dead, .dead, .dead, .dead, .dead, .dead, .dead, .dead, .dead, .dead, .dead, .dead, .dead, .dead, .dead, .dead, .dead, .dead, .dead, .dead, .dead, .dead, .dead, .dead, .dead, .dead, .dead, .dead] [] [.box [.int .i64, .int .i64, .int .i64, .int .i64, .int .i64, .int .i64]] [.q (.int .i64 (.int .i64 (.int .i64 (.int .i64 (.int .i64 (.int .i64 (.nil))))))) y1, .i y2, .i y3, .i y4.1, .i y4.2.1, .i y4.2.2.1, .i y4.2.2.2.1, .i y4.2.2.2.2.1, .i y4.2.2.2.2.2.1])) (fun (x3 : Seq Z1) (n4 : Int) (i5 : Int) (j6 : Int) (x7 : Int × Int × Int × Int × Int × Int × Unit) => slices_BinarySearchFunc_api_Key_api_Key_api_Key_l0_run keyed_rank (fun y1 y2 y3 y4 => k (.exit 0) (encSt [.sl (.int .i64 (.int .i64 (.int .i64 (.int .i64 (.int .i64 (.int .i64 (.nil))))))), .dead, .func (.func 64) [] [], .dead, .ref 0 0, .dead, .dead, .dead, .int .i64, .int .i64, .dead, .dead, .dead, .dead, .dead, .dead, .dead, .dead, .dead, .dead, .dead, .dead, .dead, .dead, .dead, .dead, .dead, .dead, .dead, .dead, .dead, .dead, .dead, .dead, .dead, .dead, .dead, .dead, .dead, .dead, .dead, .dead, .dead, .dead, .dead, .dead, .dead, .dead, .dead] [] [.box [.int .i64, .int .i64, .int .i64, .int .i64, .int .i64, .int .i64]] [.q (.int .i64 (.int .i64 (.int .i64 (.int .i64 (.int .i64 (.int .i64 (.nil))))))) y1, .i y2, .i y3, .i y4.1, .i y4.2.1, .i y4.2.2.1, .i y4.2.2.2.1, .i y4.2.2.2.2.1, .i y4.2.2.2.2.2.1])) n x3 n4 i5 j6 x7) x3 n4 i5 j6 x7 = slices_BinarySearchFunc_api_Key_api_Key_api_Key_l0_run keyed_rank (fun y1 y2 y3 y4 => k (.exit 0) (encSt [.sl (.int .i64 (.int .i64 (.int .i64 (.int .i64 (.int .i64 (.int .i64 (.nil))))))), .dead, .func (.func 64) [] [], .dead, .ref 0 0, .dead, .dead, .dead, .int .i64, .int .i64, .dead, .dead, .dead, .dead, .dead, .dead, .dead, .dead, .dead, .dead, .dead, .dead, .dead, .dead, .dead, .dead, .dead, .dead, .dead, .dead, .dead, .dead, .dead, .dead, .dead, .dead, .dead, .dead, .dead, .dead, .dead, .dead, .dead, .dead, .dead, .dead, .dead, .dead, .dead] [] [.box [.int .i64, .int .i64, .int .i64, .int .i64, .int .i64, .int .i64]] [.q (.int .i64 (.int .i64 (.int .i64 (.int .i64 (.int .i64 (.int .i64 (.nil))))))) y1, .i y2, .i y3, .i y4.1, .i y4.2.1, .i y4.2.2.1, .i y4.2.2.2.1, .i y4.2.2.2.2.1, .i y4.2.2.2.2.2.1])) (n + 1) x3 n4 i5 j6 x7 := by kernel_rfl
    exact h1.trans (h2.trans h3)

theorem slices_BinarySearchFunc_api_Key_api_Key_api_Key_l0_ok {α : Type} (keyed_rank : keyed_rank_T α) : (slices_BinarySearchFunc_api_Key_api_Key_api_Key_l0_spec keyed_rank : LoopSpec α).ok Go.Proofs.Try.prog (envOf (slices_BinarySearchFunc_api_Key_api_Key_api_Key_C keyed_rank) slices_BinarySearchFunc_api_Key_api_Key_api_Key_q slices_BinarySearchFunc_api_Key_api_Key_api_Key_inl 1000 slices_BinarySearchFunc_api_Key_api_Key_api_Key_ann false (slices_BinarySearchFunc_api_Key_api_Key_api_Key_loops keyed_rank) (fun _ => none)) := by
  intro ds k
  have h1 : slices_BinarySearchFunc_api_Key_api_Key_api_Key_l0_ev keyed_rank 1000 (encSt slices_BinarySearchFunc_api_Key_api_Key_api_Key_l0_t slices_BinarySearchFunc_api_Key_api_Key_api_Key_l0_s slices_BinarySearchFunc_api_Key_api_Key_api_Key_l0_h ds) k = slices_BinarySearchFunc_api_Key_api_Key_api_Key_l0_ev keyed_rank 1000 (encSt slices_BinarySearchFunc_api_Key_api_Key_api_Key_l0_t slices_BinarySearchFunc_api_Key_api_Key_api_Key_l0_s slices_BinarySearchFunc_api_Key_api_Key_api_Key_l0_h [.q (.int .i64 (.int .i64 (.int .i64 (.int .i64 (.int .i64 (.int .i64 (.nil))))))) (hdQ (.int .i64 (.int .i64 (.int .i64 (.int .i64 (.int .i64 (.int .i64 (.nil))))))) ds), .i (hdI ds.tail), .i (hdI ds.tail.tail), .i (hdI ds.tail.tail.tail), .i ((hdI ds.tail.tail.tail.tail, hdI ds.tail.tail.tail.tail.tail, hdI ds.tail.tail.tail.tail.tail.tail, hdI ds.tail.tail.tail.tail.tail.tail.tail, hdI ds.tail.tail.tail.tail.tail.tail.tail.tail, hdI ds.tail.tail.tail.tail.tail.tail.tail.tail.tail, ()).1), .i ((hdI ds.tail.tail.tail.tail, hdI ds.tail.tail.tail.tail.tail, hdI ds.tail.tail.tail.tail.tail.tail, hdI ds.tail.tail.tail.tail.tail.tail.tail, hdI ds.tail.tail.tail.tail.tail.tail.tail.tail, hdI ds.tail.tail.tail.tail.tail.tail.tail.tail.tail, ()).2.1), .i ((hdI ds.tail.tail.tail.tail, hdI ds.tail.tail.tail.tail.tail, hdI ds.tail.tail.tail.tail.tail.tail, hdI ds.tail.tail.tail.tail.tail.tail.tail, hdI ds.tail.tail.tail.tail.tail.tail.tail.tail, hdI ds.tail.tail.tail.tail.tail.tail.tail.tail.tail, ()).2.2.1), .i ((hdI ds.tail.tail.tail.tail, hdI ds.tail.tail.tail.tail.tail, hdI ds.tail.tail.tail.tail.tail.tail, hdI ds.tail.tail.tail.tail.tail.tail.tail, hdI ds.tail.tail.tail.tail.tail.tail.tail.tail, hdI ds.tail.tail.tail.tail.tail.tail.tail.tail.tail, ()).2.2.2.1), .i ((hdI ds.tail.tail.tail.tail, hdI ds.tail.tail.tail.tail.tail, hdI ds.tail.tail.tail.tail.tail.tail, hdI ds.tail.tail.tail.tail.tail.tail.tail, hdI ds.tail.tail.tail.tail.tail.tail.tail.tail, hdI ds.tail.tail.tail.tail.tail.tail.tail.tail.tail, ()).2.2.2.2.1), .i ((hdI ds.tail.tail.tail.tail, hdI ds.tail.tail.tail.tail.tail, hdI ds.tail.tail.tail.tail.tail.tail, hdI ds.tail.tail.tail.tail.tail.tail.tail, hdI ds.tail.tail.tail.tail.tail.tail.tail.tail, hdI ds.tail.tail.tail.tail.tail.tail.tail.tail.tail, ()).2.2.2.2.2.1)]) k := by kernel_rfl
  have h2 := slices_BinarySearchFunc_api_Key_api_Key_api_Key_l0_eq keyed_rank 1000 (hdQ (.int .i64 (.int .i64 (.int .i64 (.int .i64 (.int .i64 (.int .i64 (.nil))))))) ds) (hdI ds.tail) (hdI ds.tail.tail) (hdI ds.tail.tail.tail) (hdI ds.tail.tail.tail.tail, hdI ds.tail.tail.tail.tail.tail, hdI ds.tail.tail.tail.tail.tail.tail, hdI ds.tail.tail.tail.tail.tail.tail.tail, hdI ds.tail.tail.tail.tail.tail.tail.tail.tail, hdI ds.tail.tail.tail.tail.tail.tail.tail.tail.tail, ()) k
  exact h1.trans h2

theorem slices_BinarySearchFunc_api_Key_api_Key_api_Key_ev {α : Type} (keyed_rank : keyed_rank_T α) : EvOk (α := α) Go.Proofs.Try.prog (envOf (slices_BinarySearchFunc_api_Key_api_Key_api_Key_C keyed_rank) slices_BinarySearchFunc_api_Key_api_Key_api_Key_q slices_BinarySearchFunc_api_Key_api_Key_api_Key_inl 1000 slices_BinarySearchFunc_api_Key_api_Key_api_Key_ann false (slices_BinarySearchFunc_api_Key_api_Key_api_Key_loops keyed_rank) (fun _ => none)) 6 (slices_BinarySearchFunc_api_Key_api_Key_api_Key_sp (slices_BinarySearchFunc_api_Key_api_Key_api_Key_g keyed_rank)) := by intro ds k; kernel_rfl

theorem slices_BinarySearchFunc_api_Key_api_Key_api_Key_ok {α : Type} : (slices_BinarySearchFunc_api_Key_api_Key_api_Key_spec : FunSpec α).ok Go.Proofs.Try.prog :=
  FunSpec.ok_of (sp := slices_BinarySearchFunc_api_Key_api_Key_api_Key_spec) (C := slices_BinarySearchFunc_api_Key_api_Key_api_Key_C keyed_rank) (q := slices_BinarySearchFunc_api_Key_api_Key_api_Key_q) (inl := slices_BinarySearchFunc_api_Key_api_Key_api_Key_inl) (N := 1000) (ann := slices_BinarySearchFunc_api_Key_api_Key_api_Key_ann) (fr := false) (D := 6) (l := (slices_BinarySearchFunc_api_Key_api_Key_api_Key_loops keyed_rank)) (hk := (fun _ => none)) (okCons keyed_rank_ok okNil) (lokCons (slices_BinarySearchFunc_api_Key_api_Key_api_Key_l0_ok keyed_rank) lokNil) noHooks (slices_BinarySearchFunc_api_Key_api_Key_api_Key_ev keyed_rank)

end
end Go.Rv.Try
