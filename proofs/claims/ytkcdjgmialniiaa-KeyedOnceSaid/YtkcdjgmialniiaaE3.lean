/- What the functions of the program compute, each with the proof that its code computes it. Written by a program (rvp2.py). -/
import Derived.Test.YtkcdjgmialniiaaProg
import Derived.Test.YtkcdjgmialniiaaRvP
import Derived.Test.YtkcdjgmialniiaaE2

set_option linter.unusedVariables false
set_option maxRecDepth 100000
set_option maxHeartbeats 4000000
namespace Go.Rv.Try
open Go Go.Rv Go.RowKit
noncomputable section

-- drayman/draymanref01.Fit

abbrev draymanref01_Fit_T (α : Type) : Type := Int → (Bool → Option α) → Option α

noncomputable def draymanref01_Fit {α : Type} (n1 : Int) (k : Bool → Option α) : Option α :=
  (cond (decide (n1 ≥ 0))
    (k (decide (n1 ≤ 1099511627776)))
    (k false))

noncomputable def draymanref01_Fit_sp {α : Type} (draymanref01_Fit : draymanref01_Fit_T α) : FunSpec α := ⟨97, [.int .i64], [], fun ds k => draymanref01_Fit (hdI ds) (fun r1 => k (enc dep (.bool) [.b r1]).1 [])⟩

noncomputable def draymanref01_Fit_spec {α : Type} : FunSpec α := draymanref01_Fit_sp draymanref01_Fit

noncomputable def draymanref01_Fit_C {α : Type} : List (FunSpec α) := []

noncomputable def draymanref01_Fit_q : FuncId → Bool := fun f => false

noncomputable def draymanref01_Fit_inl : FuncId → Bool := fun f => false

noncomputable def draymanref01_Fit_ann : FuncId → AnnT := fun f p => ⟨[], [], [], [], 0, [], []⟩

noncomputable def draymanref01_Fit_loops {α : Type} : List (LoopSpec α) := []

theorem draymanref01_Fit_ev {α : Type} : EvOk (α := α) Go.Proofs.Try.prog (envOf (draymanref01_Fit_C) draymanref01_Fit_q draymanref01_Fit_inl 1000 draymanref01_Fit_ann false (draymanref01_Fit_loops) (fun _ => none)) 6 (draymanref01_Fit_sp (draymanref01_Fit)) := by intro ds k; kernel_rfl

theorem draymanref01_Fit_ok {α : Type} : (draymanref01_Fit_spec : FunSpec α).ok Go.Proofs.Try.prog :=
  FunSpec.ok_of (sp := draymanref01_Fit_spec) (C := draymanref01_Fit_C) (q := draymanref01_Fit_q) (inl := draymanref01_Fit_inl) (N := 1000) (ann := draymanref01_Fit_ann) (fr := false) (D := 6) (l := (draymanref01_Fit_loops)) (hk := (fun _ => none)) okNil lokNil noHooks (draymanref01_Fit_ev)

end
end Go.Rv.Try

set_option linter.unusedVariables false
set_option maxRecDepth 100000
set_option maxHeartbeats 4000000
namespace Go.Rv.Try
open Go Go.Rv Go.RowKit
noncomputable section

-- drayman/draymanref31.One

abbrev draymanref31_One_T (α : Type) : Type := Z2 → (Bool → Option α) → Option α

noncomputable def draymanref31_One_g {α : Type} (draymanref01_Fit : draymanref01_Fit_T α) (x1 : Int × Int × Int × Int × Int × Int × Unit) (k : Bool → Option α) : Option α :=
  (cond (!(decide (x1.1 < 1)))
    (cond (!(decide (x1.1 > 1099511627776)))
      (cond (!(decide (x1.2.1 < 0)))
        (cond (!(decide (x1.2.1 ≥ 6)))
          (draymanref01_Fit x1.2.2.2.2.2.1 fun r2 =>
            (cond (!r2)
              (k false)
              (cond (x1.2.2.1 == 2)
                (cond (x1.2.2.2.1 == 1)
                  (k (x1.2.2.2.2.1 == 0))
                  (k false))
                (cond (x1.2.2.1 == 4)
                  (cond (x1.2.2.2.1 == 1)
                    (k (x1.2.2.2.2.1 == 1))
                    (k false))
                  (cond (x1.2.2.1 == 5)
                    (cond (x1.2.2.1 == 5)
                      (cond (x1.2.2.2.1 == 0)
                        (k (x1.2.2.2.2.1 == 0))
                        (k false))
                      (k false))
                    (cond (x1.2.2.1 == 3)
                      (cond (x1.2.2.2.1 == 0)
                        (k (x1.2.2.2.2.1 == 0))
                        (k false))
                      (k false)))))))
          (k false))
        (k false))
      (k false))
    (k false))

noncomputable def draymanref31_One {α : Type} : draymanref31_One_T α := draymanref31_One_g draymanref01_Fit

noncomputable def draymanref31_One_sp {α : Type} (draymanref31_One : draymanref31_One_T α) : FunSpec α := ⟨121, [.agg [.int .i64, .int .i64, .int .i64, .int .i64, .int .i64, .int .i64]], [], fun ds k => draymanref31_One (hdI ds, hdI ds.tail, hdI ds.tail.tail, hdI ds.tail.tail.tail, hdI ds.tail.tail.tail.tail, hdI ds.tail.tail.tail.tail.tail, ()) (fun r1 => k (enc dep (.bool) [.b r1]).1 [])⟩

noncomputable def draymanref31_One_spec {α : Type} : FunSpec α := draymanref31_One_sp draymanref31_One

noncomputable def draymanref31_One_C {α : Type} (draymanref01_Fit : draymanref01_Fit_T α) : List (FunSpec α) := [draymanref01_Fit_sp draymanref01_Fit]

noncomputable def draymanref31_One_q : FuncId → Bool := fun f => Nat.beq f 97

noncomputable def draymanref31_One_inl : FuncId → Bool := fun f => false

noncomputable def draymanref31_One_ann : FuncId → AnnT := fun f p => ⟨[], [], [], [], 0, [], []⟩

noncomputable def draymanref31_One_loops {α : Type} (draymanref01_Fit : draymanref01_Fit_T α) : List (LoopSpec α) := []

theorem draymanref31_One_ev {α : Type} (draymanref01_Fit : draymanref01_Fit_T α) : EvOk (α := α) Go.Proofs.Try.prog (envOf (draymanref31_One_C draymanref01_Fit) draymanref31_One_q draymanref31_One_inl 1000 draymanref31_One_ann false (draymanref31_One_loops draymanref01_Fit) (fun _ => none)) 6 (draymanref31_One_sp (draymanref31_One_g draymanref01_Fit)) := by intro ds k; kernel_rfl

theorem draymanref31_One_ok {α : Type} : (draymanref31_One_spec : FunSpec α).ok Go.Proofs.Try.prog :=
  FunSpec.ok_of (sp := draymanref31_One_spec) (C := draymanref31_One_C draymanref01_Fit) (q := draymanref31_One_q) (inl := draymanref31_One_inl) (N := 1000) (ann := draymanref31_One_ann) (fr := false) (D := 6) (l := (draymanref31_One_loops draymanref01_Fit)) (hk := (fun _ => none)) (okCons draymanref01_Fit_ok okNil) lokNil noHooks (draymanref31_One_ev draymanref01_Fit)

end
end Go.Rv.Try

set_option linter.unusedVariables false
set_option maxRecDepth 100000
set_option maxHeartbeats 4000000
namespace Go.Rv.Try
open Go Go.Rv Go.RowKit
noncomputable section

-- drayman/draymanref31.ahead

abbrev draymanref31_ahead_T (α : Type) : Type := Z2 → Z2 → (Bool → Option α) → Option α

noncomputable def draymanref31_ahead {α : Type} (a1 : Int × Int × Int × Int × Int × Int × Unit) (b2 : Int × Int × Int × Int × Int × Int × Unit) (k : Bool → Option α) : Option α :=
  (cond (!(decide (a1.1 < b2.1)))
    (cond (a1.1 == b2.1)
      (k (decide (a1.2.1 < b2.2.1)))
      (k false))
    (k true))

noncomputable def draymanref31_ahead_sp {α : Type} (draymanref31_ahead : draymanref31_ahead_T α) : FunSpec α := ⟨122, [.agg [.int .i64, .int .i64, .int .i64, .int .i64, .int .i64, .int .i64], .agg [.int .i64, .int .i64, .int .i64, .int .i64, .int .i64, .int .i64]], [], fun ds k => draymanref31_ahead (hdI ds, hdI ds.tail, hdI ds.tail.tail, hdI ds.tail.tail.tail, hdI ds.tail.tail.tail.tail, hdI ds.tail.tail.tail.tail.tail, ()) (hdI ds.tail.tail.tail.tail.tail.tail, hdI ds.tail.tail.tail.tail.tail.tail.tail, hdI ds.tail.tail.tail.tail.tail.tail.tail.tail, hdI ds.tail.tail.tail.tail.tail.tail.tail.tail.tail, hdI ds.tail.tail.tail.tail.tail.tail.tail.tail.tail.tail, hdI ds.tail.tail.tail.tail.tail.tail.tail.tail.tail.tail.tail, ()) (fun r1 => k (enc dep (.bool) [.b r1]).1 [])⟩

noncomputable def draymanref31_ahead_spec {α : Type} : FunSpec α := draymanref31_ahead_sp draymanref31_ahead

noncomputable def draymanref31_ahead_C {α : Type} : List (FunSpec α) := []

noncomputable def draymanref31_ahead_q : FuncId → Bool := fun f => false

noncomputable def draymanref31_ahead_inl : FuncId → Bool := fun f => false

noncomputable def draymanref31_ahead_ann : FuncId → AnnT := fun f p => ⟨[], [], [], [], 0, [], []⟩

noncomputable def draymanref31_ahead_loops {α : Type} : List (LoopSpec α) := []

theorem draymanref31_ahead_ev {α : Type} : EvOk (α := α) Go.Proofs.Try.prog (envOf (draymanref31_ahead_C) draymanref31_ahead_q draymanref31_ahead_inl 1000 draymanref31_ahead_ann false (draymanref31_ahead_loops) (fun _ => none)) 6 (draymanref31_ahead_sp (draymanref31_ahead)) := by intro ds k; kernel_rfl

theorem draymanref31_ahead_ok {α : Type} : (draymanref31_ahead_spec : FunSpec α).ok Go.Proofs.Try.prog :=
  FunSpec.ok_of (sp := draymanref31_ahead_spec) (C := draymanref31_ahead_C) (q := draymanref31_ahead_q) (inl := draymanref31_ahead_inl) (N := 1000) (ann := draymanref31_ahead_ann) (fr := false) (D := 6) (l := (draymanref31_ahead_loops)) (hk := (fun _ => none)) okNil lokNil noHooks (draymanref31_ahead_ev)

end
end Go.Rv.Try

set_option linter.unusedVariables false
set_option maxRecDepth 100000
set_option maxHeartbeats 4000000
namespace Go.Rv.Try
open Go Go.Rv Go.RowKit
noncomputable section

-- drayman/draymanref31.Fit

abbrev draymanref31_Fit_T (α : Type) : Type := (Seq Z2) → (Bool → Option α) → Option α

noncomputable def draymanref31_Fit_l0_step {α : Type} (draymanref31_One : draymanref31_One_T α) (draymanref31_ahead : draymanref31_ahead_T α) (kr : (Bool) → Option α) (k0 : Option α) (rec : (Seq Z2) → (Int) → Option α) (l2 : Seq Z2) (i3 : Int) : Option α :=
  (cond (decide (i3 < (l2.n : Int)))
    (cond (((decide ((0 : Int) ≤ i3)) && (decide (i3 < (l2.n : Int)))) && ((decide ((0 : Int) ≤ i3)) && (decide (i3 < (l2.n : Int)))))
      (draymanref31_One (l2.g i3.toNat) fun r4 =>
        (cond (!(!r4))
          (cond (decide (i3 > 0))
            (cond (((decide ((0 : Int) ≤ (IntKind.i64.wrap (i3 - 1)))) && (decide ((IntKind.i64.wrap (i3 - 1)) < (l2.n : Int)))) && ((decide ((0 : Int) ≤ (IntKind.i64.wrap (i3 - 1)))) && (decide ((IntKind.i64.wrap (i3 - 1)) < (l2.n : Int)))))
              (cond (((decide ((0 : Int) ≤ i3)) && (decide (i3 < (l2.n : Int)))) && ((decide ((0 : Int) ≤ i3)) && (decide (i3 < (l2.n : Int)))))
                (draymanref31_ahead (l2.g (IntKind.i64.wrap (i3 - 1)).toNat) (l2.g i3.toNat) fun r5 =>
                  (cond (!r5)
                    (kr false)
                    (rec l2 (IntKind.i64.wrap (i3 + 1)))))
                none)
              none)
            (rec l2 (IntKind.i64.wrap (i3 + 1))))
          (kr false)))
      none)
    (k0))

noncomputable def draymanref31_Fit_l0_run {α : Type} (draymanref31_One : draymanref31_One_T α) (draymanref31_ahead : draymanref31_ahead_T α) (kr : (Bool) → Option α) (k0 : Option α) : Nat → (Seq Z2) → (Int) → Option α
  | 0, _, _ => none
  | n + 1, l2, i3 => draymanref31_Fit_l0_step draymanref31_One draymanref31_ahead kr k0 (fun l2 i3 => draymanref31_Fit_l0_run draymanref31_One draymanref31_ahead kr k0 n l2 i3) l2 i3

noncomputable def draymanref31_Fit_g {α : Type} (draymanref31_One : draymanref31_One_T α) (draymanref31_ahead : draymanref31_ahead_T α) (l1 : Seq Z2) (k : Bool → Option α) : Option α :=
  (draymanref31_Fit_l0_run draymanref31_One draymanref31_ahead
    (fun x6 =>
      (k x6))
    ((k true))
    1000 l1 0)

noncomputable def draymanref31_Fit {α : Type} : draymanref31_Fit_T α := draymanref31_Fit_g draymanref31_One draymanref31_ahead

noncomputable def draymanref31_Fit_sp {α : Type} (draymanref31_Fit : draymanref31_Fit_T α) : FunSpec α := ⟨78, [.sl (.int .i64 (.int .i64 (.int .i64 (.int .i64 (.int .i64 (.int .i64 (.nil)))))))], [], fun ds k => draymanref31_Fit (hdQ (.int .i64 (.int .i64 (.int .i64 (.int .i64 (.int .i64 (.int .i64 (.nil))))))) ds) (fun r1 => k (enc dep (.bool) [.b r1]).1 [])⟩

noncomputable def draymanref31_Fit_spec {α : Type} : FunSpec α := draymanref31_Fit_sp draymanref31_Fit

noncomputable def draymanref31_Fit_C {α : Type} (draymanref31_One : draymanref31_One_T α) (draymanref31_ahead : draymanref31_ahead_T α) : List (FunSpec α) := [draymanref31_One_sp draymanref31_One, draymanref31_ahead_sp draymanref31_ahead]

noncomputable def draymanref31_Fit_q : FuncId → Bool := fun f => Nat.beq f 121 || Nat.beq f 122

noncomputable def draymanref31_Fit_inl : FuncId → Bool := fun f => false

noncomputable def draymanref31_Fit_ann : FuncId → AnnT := fun f p => if f = 78 then (if p = [true, false, true] then ⟨[0, 3], [], [], [2], 0, [], []⟩ else ⟨[], [], [], [], 0, [], []⟩) else ⟨[], [], [], [], 0, [], []⟩

noncomputable def draymanref31_Fit_l0_t : List Sh := [.sl (.int .i64 (.int .i64 (.int .i64 (.int .i64 (.int .i64 (.int .i64 (.nil))))))), .dead, .dead, .int .i64, .dead, .dead, .dead, .dead, .dead, .dead, .dead, .dead, .dead, .dead, .dead, .dead, .dead, .dead, .dead, .dead, .dead, .dead, .dead, .dead, .dead, .dead, .dead, .dead, .dead, .dead, .dead, .dead, .dead]
noncomputable def draymanref31_Fit_l0_s : List (List Sh) := []
noncomputable def draymanref31_Fit_l0_h : List BSh := []

noncomputable def draymanref31_Fit_l0_spec {α : Type} (draymanref31_One : draymanref31_One_T α) (draymanref31_ahead : draymanref31_ahead_T α) : LoopSpec α := ⟨6, 78, [true, false, true], draymanref31_Fit_l0_t, draymanref31_Fit_l0_s, draymanref31_Fit_l0_h, fun ds k => draymanref31_Fit_l0_run draymanref31_One draymanref31_ahead (fun y1 => k .ret (encSt [.dead, .dead, .bool, .dead, .dead, .dead, .dead, .dead, .dead, .dead, .dead, .dead, .dead, .dead, .dead, .dead, .dead, .dead, .dead, .dead, .dead, .dead, .dead, .dead, .dead, .dead, .dead, .dead, .dead, .dead, .dead, .dead, .dead] [] [] [.b y1])) (k (.exit 0) (encSt [.dead, .dead, .dead, .dead, .dead, .dead, .dead, .dead, .dead, .dead, .dead, .dead, .dead, .dead, .dead, .dead, .dead, .dead, .dead, .dead, .dead, .dead, .dead, .dead, .dead, .dead, .dead, .dead, .dead, .dead, .dead, .dead, .dead] [] [] [])) 1000 (hdQ (.int .i64 (.int .i64 (.int .i64 (.int .i64 (.int .i64 (.int .i64 (.nil))))))) ds) (hdI ds.tail)⟩

noncomputable def draymanref31_Fit_loops {α : Type} (draymanref31_One : draymanref31_One_T α) (draymanref31_ahead : draymanref31_ahead_T α) : List (LoopSpec α) := [draymanref31_Fit_l0_spec draymanref31_One draymanref31_ahead]

noncomputable def draymanref31_Fit_l0_ev {α : Type} (draymanref31_One : draymanref31_One_T α) (draymanref31_ahead : draymanref31_ahead_T α) (n : Nat) (st : St) (k : X → St → Option α) : Option α := loopN (evCode Go.Proofs.Try.prog (callD Go.Proofs.Try.prog (envOf (draymanref31_Fit_C draymanref31_One draymanref31_ahead) draymanref31_Fit_q draymanref31_Fit_inl 1000 draymanref31_Fit_ann false (draymanref31_Fit_loops draymanref31_One draymanref31_ahead) (fun _ => none)) 6) (((envOf (draymanref31_Fit_C draymanref31_One draymanref31_ahead) draymanref31_Fit_q draymanref31_Fit_inl 1000 draymanref31_Fit_ann false (draymanref31_Fit_loops draymanref31_One draymanref31_ahead) (fun _ => none)) : Env α).L 6 78) 1000 (draymanref31_Fit_ann 78) (false :: [true, false, true]) (loopC Go.Proofs.Try.prog 78 [true, false, true])) ((draymanref31_Fit_ann 78 [true, false, true]).head 0) ((draymanref31_Fit_ann 78 [true, false, true]).leave 0) n st k

theorem draymanref31_Fit_l0_eq {α : Type} (draymanref31_One : draymanref31_One_T α) (draymanref31_ahead : draymanref31_ahead_T α) : ∀ (n : Nat) (l2 : Seq Z2) (i3 : Int) (k : X → St → Option α), draymanref31_Fit_l0_ev draymanref31_One draymanref31_ahead n (encSt draymanref31_Fit_l0_t draymanref31_Fit_l0_s draymanref31_Fit_l0_h [.q (.int .i64 (.int .i64 (.int .i64 (.int .i64 (.int .i64 (.int .i64 (.nil))))))) l2, .i i3]) k = draymanref31_Fit_l0_run draymanref31_One draymanref31_ahead (fun y1 => k .ret (encSt [.dead, .dead, .bool, .dead, .dead, .dead, .dead, .dead, .dead, .dead, .dead, .dead, .dead, .dead, .dead, .dead, .dead, .dead, .dead, .dead, .dead, .dead, .dead, .dead, .dead, .dead, .dead, .dead, .dead, .dead, .dead, .dead, .dead] [] [] [.b y1])) (k (.exit 0) (encSt [.dead, .dead, .dead, .dead, .dead, .dead, .dead, .dead, .dead, .dead, .dead, .dead, .dead, .dead, .dead, .dead, .dead, .dead, .dead, .dead, .dead, .dead, .dead, .dead, .dead, .dead, .dead, .dead, .dead, .dead, .dead, .dead, .dead] [] [] [])) n l2 i3 := by
  intro n
  induction n with
  | zero => intros; kernel_rfl
  | succ n ih =>
    intro l2 i3 k
    have e : (fun (l2 : Seq Z2) (i3 : Int) => draymanref31_Fit_l0_ev draymanref31_One draymanref31_ahead n (encSt draymanref31_Fit_l0_t draymanref31_Fit_l0_s draymanref31_Fit_l0_h [.q (.int .i64 (.int .i64 (.int .i64 (.int .i64 (.int .i64 (.int .i64 (.nil))))))) l2, .i i3]) k) = (fun (l2 : Seq Z2) (i3 : Int) => draymanref31_Fit_l0_run draymanref31_One draymanref31_ahead (fun y1 => k .ret (encSt [.dead, .dead, .bool, .dead, .dead, .dead, .dead, .dead, .dead, .dead, .dead, .dead, .dead, .dead, .dead, .dead, .dead, .dead, .dead, .dead, .dead, .dead, .dead, .dead, .dead, .dead, .dead, .dead, .dead, .dead, .dead, .dead, .dead] [] [] [.b y1])) (k (.exit 0) (encSt [.dead, .dead, .dead, .dead, .dead, .dead, .dead, .dead, .dead, .dead, .dead, .dead, .dead, .dead, .dead, .dead, .dead, .dead, .dead, .dead, .dead, .dead, .dead, .dead, .dead, .dead, .dead, .dead, .dead, .dead, .dead, .dead, .dead] [] [] [])) n l2 i3) := by
      funext l2 i3
      exact ih l2 i3 k
    have h1 : draymanref31_Fit_l0_ev draymanref31_One draymanref31_ahead (n + 1) (encSt draymanref31_Fit_l0_t draymanref31_Fit_l0_s draymanref31_Fit_l0_h [.q (.int .i64 (.int .i64 (.int .i64 (.int .i64 (.int .i64 (.int .i64 (.nil))))))) l2, .i i3]) k = draymanref31_Fit_l0_step draymanref31_One draymanref31_ahead (fun y1 => k .ret (encSt [.dead, .dead, .bool, .dead, .dead, .dead, .dead, .dead, .dead, .dead, .dead, .dead, .dead, .dead, .dead, .dead, .dead, .dead, .dead, .dead, .dead, .dead, .dead, .dead, .dead, .dead, .dead, .dead, .dead, .dead, .dead, .dead, .dead] [] [] [.b y1])) (k (.exit 0) (encSt [.dead, .dead, .dead, .dead, .dead, .dead, .dead, .dead, .dead, .dead, .dead, .dead, .dead, .dead, .dead, .dead, .dead, .dead, .dead, .dead, .dead, .dead, .dead, .dead, .dead, .dead, .dead, .dead, .dead, .dead, .dead, .dead, .dead] [] [] [])) (fun (l2 : Seq Z2) (i3 : Int) => draymanref31_Fit_l0_ev draymanref31_One draymanref31_ahead n (encSt draymanref31_Fit_l0_t draymanref31_Fit_l0_s draymanref31_Fit_l0_h [.q (.int .i64 (.int .i64 (.int .i64 (.int .i64 (.int .i64 (.int .i64 (.nil))))))) l2, .i i3]) k) l2 i3 := by kernel_rfl
    have h2 := congrArg (fun r => draymanref31_Fit_l0_step draymanref31_One draymanref31_ahead (fun y1 => k .ret (encSt [.dead, .dead, .bool, .dead, .dead, .dead, .dead, .dead, .dead, .dead, .dead, .dead, .dead, .dead, .dead, .dead, .dead, .dead, .dead, .dead, .dead, .dead, .dead, .dead, .dead, .dead, .dead, .dead, .dead, .dead, .dead, .dead, .dead] [] [] [.b y1])) (k (.exit 0) (encSt [.dead, .dead, .dead, .dead, .dead, .dead, .dead, .dead, .dead, .dead, .dead, .dead, .dead, .dead, .dead, .dead, .dead, .dead, .dead, .dead, .dead, .dead, .dead, .dead, .dead, .dead, .dead, .dead, .dead, .dead, .dead, .dead, .dead] [] [] [])) r l2 i3) e
    have h3 : draymanref31_Fit_l0_step draymanref31_One draymanref31_ahead (fun y1 => k .ret (encSt [.dead, .dead, .bool, .dead, .dead, .dead, .dead, .dead, .dead, .dead, .dead, .dead, .dead, .dead, .dead, .dead, .dead, .dead, .dead, .dead, .dead, .dead, .dead, .dead, .dead, .dead, .dead, .dead, .dead, .dead, .dead, .dead, .dead] [] [] [.b y1])) (k (.exit 0) (encSt [.dead, .dead, .dead, .dead, .dead, .dead, .dead, .dead, .dead, .dead, .dead, .dead, .dead, .dead, .dead, .dead, .dead, .dead, .dead, .dead, .dead, .dead, .dead, .dead, .dead, .dead, .dead, .dead, .dead, .dead, .dead, .dead, .dead] [] [] [])) (fun (l2 : Seq Z2) (i3 : Int) => draymanref31_Fit_l0_run draymanref31_One draymanref31_ahead (fun y1 => k .ret (encSt [.dead, .dead, .bool, .dead, .dead, .dead, .dead, .dead, .dead, .dead, .dead, .dead, .dead, .dead, .dead, .dead, .dead, .dead, .dead, .dead, .dead, .dead, .dead, .dead, .dead, .dead, .dead, .dead, .dead, .dead, .dead, .dead, .dead] [] [] [.b y1])) (k (.exit 0) (encSt [.dead, .dead, .dead, .dead, .dead, .dead, .dead, .dead, .dead, .dead, .dead, .dead, .dead, .dead, .dead, .dead, .dead, .dead, .dead, .dead, .dead, .dead, .dead, .dead, .dead, .dead, .dead, .dead, .dead, .dead, .dead, .dead, .dead] [] [] [])) n l2 i3) l2 i3 = draymanref31_Fit_l0_run draymanref31_One draymanref31_ahead (fun y1 => k .ret (encSt [.dead, .dead, .bool, .dead, .dead, .dead, .dead, .dead, .dead, .dead, .dead, .dead, .dead, .dead, .dead, .dead, .dead, .dead, .dead, .dead, .dead, .dead, .dead, .dead, .dead, .dead, .dead, .dead, .dead, .dead, .dead, .dead, .dead] [] [] [.b y1])) (k (.exit 0) (encSt [.dead, .dead, .dead, .dead, .dead, .dead, .dead, .dead, .dead, .dead, .dead, .dead, .dead, .dead, .dead, .dead, .dead, .dead, .dead, .dead, .dead, .dead, .dead, .dead, .dead, .dead, .dead, .dead, .dead, .dead, .dead, .dead, .dead] [] [] [])) (n + 1) l2 i3 := by kernel_rfl
    exact h1.trans (h2.trans h3)

theorem draymanref31_Fit_l0_ok {α : Type} (draymanref31_One : draymanref31_One_T α) (draymanref31_ahead : draymanref31_ahead_T α) : (draymanref31_Fit_l0_spec draymanref31_One draymanref31_ahead : LoopSpec α).ok Go.Proofs.Try.prog (envOf (draymanref31_Fit_C draymanref31_One draymanref31_ahead) draymanref31_Fit_q draymanref31_Fit_inl 1000 draymanref31_Fit_ann false (draymanref31_Fit_loops draymanref31_One draymanref31_ahead) (fun _ => none)) := by
  intro ds k
  have h1 : draymanref31_Fit_l0_ev draymanref31_One draymanref31_ahead 1000 (encSt draymanref31_Fit_l0_t draymanref31_Fit_l0_s draymanref31_Fit_l0_h ds) k = draymanref31_Fit_l0_ev draymanref31_One draymanref31_ahead 1000 (encSt draymanref31_Fit_l0_t draymanref31_Fit_l0_s draymanref31_Fit_l0_h [.q (.int .i64 (.int .i64 (.int .i64 (.int .i64 (.int .i64 (.int .i64 (.nil))))))) (hdQ (.int .i64 (.int .i64 (.int .i64 (.int .i64 (.int .i64 (.int .i64 (.nil))))))) ds), .i (hdI ds.tail)]) k := by kernel_rfl
  have h2 := draymanref31_Fit_l0_eq draymanref31_One draymanref31_ahead 1000 (hdQ (.int .i64 (.int .i64 (.int .i64 (.int .i64 (.int .i64 (.int .i64 (.nil))))))) ds) (hdI ds.tail) k
  exact h1.trans h2

theorem draymanref31_Fit_ev {α : Type} (draymanref31_One : draymanref31_One_T α) (draymanref31_ahead : draymanref31_ahead_T α) : EvOk (α := α) Go.Proofs.Try.prog (envOf (draymanref31_Fit_C draymanref31_One draymanref31_ahead) draymanref31_Fit_q draymanref31_Fit_inl 1000 draymanref31_Fit_ann false (draymanref31_Fit_loops draymanref31_One draymanref31_ahead) (fun _ => none)) 6 (draymanref31_Fit_sp (draymanref31_Fit_g draymanref31_One draymanref31_ahead)) := by intro ds k; kernel_rfl

theorem draymanref31_Fit_ok {α : Type} : (draymanref31_Fit_spec : FunSpec α).ok Go.Proofs.Try.prog :=
  FunSpec.ok_of (sp := draymanref31_Fit_spec) (C := draymanref31_Fit_C draymanref31_One draymanref31_ahead) (q := draymanref31_Fit_q) (inl := draymanref31_Fit_inl) (N := 1000) (ann := draymanref31_Fit_ann) (fr := false) (D := 6) (l := (draymanref31_Fit_loops draymanref31_One draymanref31_ahead)) (hk := (fun _ => none)) (okCons draymanref31_One_ok (okCons draymanref31_ahead_ok okNil)) (lokCons (draymanref31_Fit_l0_ok draymanref31_One draymanref31_ahead) lokNil) noHooks (draymanref31_Fit_ev draymanref31_One draymanref31_ahead)

end
end Go.Rv.Try

set_option linter.unusedVariables false
set_option maxRecDepth 100000
set_option maxHeartbeats 4000000
namespace Go.Rv.Try
open Go Go.Rv Go.RowKit
noncomputable section

-- drayman/draymanref17.Service

abbrev draymanref17_Service_T (α : Type) : Type := Int → (Int → Option α) → Option α

noncomputable def draymanref17_Service {α : Type} (op1 : Int) (k : Int → Option α) : Option α :=
  (cond (op1 == 2)
    (cond (op1 == 2)
      (k 1)
      (cond (op1 == 4)
        (k 2)
        (k 0)))
    (cond (op1 == 6)
      (k 1)
      (cond (op1 == 4)
        (k 2)
        (k 0))))

noncomputable def draymanref17_Service_sp {α : Type} (draymanref17_Service : draymanref17_Service_T α) : FunSpec α := ⟨87, [.int .i64], [], fun ds k => draymanref17_Service (hdI ds) (fun r1 => k (enc dep (.int .i64) [.i r1]).1 [])⟩

noncomputable def draymanref17_Service_spec {α : Type} : FunSpec α := draymanref17_Service_sp draymanref17_Service

noncomputable def draymanref17_Service_C {α : Type} : List (FunSpec α) := []

noncomputable def draymanref17_Service_q : FuncId → Bool := fun f => false

noncomputable def draymanref17_Service_inl : FuncId → Bool := fun f => false

noncomputable def draymanref17_Service_ann : FuncId → AnnT := fun f p => ⟨[], [], [], [], 0, [], []⟩

noncomputable def draymanref17_Service_loops {α : Type} : List (LoopSpec α) := []

theorem draymanref17_Service_ev {α : Type} : EvOk (α := α) Go.Proofs.Try.prog (envOf (draymanref17_Service_C) draymanref17_Service_q draymanref17_Service_inl 1000 draymanref17_Service_ann false (draymanref17_Service_loops) (fun _ => none)) 6 (draymanref17_Service_sp (draymanref17_Service)) := by intro ds k; kernel_rfl

theorem draymanref17_Service_ok {α : Type} : (draymanref17_Service_spec : FunSpec α).ok Go.Proofs.Try.prog :=
  FunSpec.ok_of (sp := draymanref17_Service_spec) (C := draymanref17_Service_C) (q := draymanref17_Service_q) (inl := draymanref17_Service_inl) (N := 1000) (ann := draymanref17_Service_ann) (fr := false) (D := 6) (l := (draymanref17_Service_loops)) (hk := (fun _ => none)) okNil lokNil noHooks (draymanref17_Service_ev)

end
end Go.Rv.Try

set_option linter.unusedVariables false
set_option maxRecDepth 100000
set_option maxHeartbeats 4000000
namespace Go.Rv.Try
open Go Go.Rv Go.RowKit
noncomputable section

-- drayman/draymanref17.One

abbrev draymanref17_One_T (α : Type) : Type := Z1 → (Bool → Option α) → Option α

noncomputable def draymanref17_One_g {α : Type} (draymanref17_Service : draymanref17_Service_T α) (draymanref01_Fit : draymanref01_Fit_T α) (x1 : Int × Int × Int × Bool × Int × Int × Bool × Unit) (k : Bool → Option α) : Option α :=
  (cond (decide (x1.1 ≥ 1))
    (cond (decide (x1.1 ≤ 1099511627776))
      (cond (decide (x1.2.1 ≥ 1))
        (cond (decide (x1.2.1 ≤ 1099511627776))
          (cond (decide (x1.2.2.1 ≥ 0))
            (cond (decide (x1.2.2.1 < 6))
              (draymanref17_Service x1.2.2.2.2.1 fun r2 =>
                (cond (r2 != 0)
                  (draymanref01_Fit x1.2.2.2.2.2.1 fun r3 =>
                    (k r3))
                  (k false)))
              (k false))
            (k false))
          (k false))
        (k false))
      (k false))
    (k false))

noncomputable def draymanref17_One {α : Type} : draymanref17_One_T α := draymanref17_One_g draymanref17_Service draymanref01_Fit

noncomputable def draymanref17_One_sp {α : Type} (draymanref17_One : draymanref17_One_T α) : FunSpec α := ⟨104, [.agg [.int .i64, .int .i64, .int .i64, .bool, .int .i64, .int .i64, .bool]], [], fun ds k => draymanref17_One (hdI ds, hdI ds.tail, hdI ds.tail.tail, hdB ds.tail.tail.tail, hdI ds.tail.tail.tail.tail, hdI ds.tail.tail.tail.tail.tail, hdB ds.tail.tail.tail.tail.tail.tail, ()) (fun r1 => k (enc dep (.bool) [.b r1]).1 [])⟩

noncomputable def draymanref17_One_spec {α : Type} : FunSpec α := draymanref17_One_sp draymanref17_One

noncomputable def draymanref17_One_C {α : Type} (draymanref17_Service : draymanref17_Service_T α) (draymanref01_Fit : draymanref01_Fit_T α) : List (FunSpec α) := [draymanref17_Service_sp draymanref17_Service, draymanref01_Fit_sp draymanref01_Fit]

noncomputable def draymanref17_One_q : FuncId → Bool := fun f => Nat.beq f 87 || Nat.beq f 97

noncomputable def draymanref17_One_inl : FuncId → Bool := fun f => false

noncomputable def draymanref17_One_ann : FuncId → AnnT := fun f p => ⟨[], [], [], [], 0, [], []⟩

noncomputable def draymanref17_One_loops {α : Type} (draymanref17_Service : draymanref17_Service_T α) (draymanref01_Fit : draymanref01_Fit_T α) : List (LoopSpec α) := []

theorem draymanref17_One_ev {α : Type} (draymanref17_Service : draymanref17_Service_T α) (draymanref01_Fit : draymanref01_Fit_T α) : EvOk (α := α) Go.Proofs.Try.prog (envOf (draymanref17_One_C draymanref17_Service draymanref01_Fit) draymanref17_One_q draymanref17_One_inl 1000 draymanref17_One_ann false (draymanref17_One_loops draymanref17_Service draymanref01_Fit) (fun _ => none)) 6 (draymanref17_One_sp (draymanref17_One_g draymanref17_Service draymanref01_Fit)) := by intro ds k; kernel_rfl

theorem draymanref17_One_ok {α : Type} : (draymanref17_One_spec : FunSpec α).ok Go.Proofs.Try.prog :=
  FunSpec.ok_of (sp := draymanref17_One_spec) (C := draymanref17_One_C draymanref17_Service draymanref01_Fit) (q := draymanref17_One_q) (inl := draymanref17_One_inl) (N := 1000) (ann := draymanref17_One_ann) (fr := false) (D := 6) (l := (draymanref17_One_loops draymanref17_Service draymanref01_Fit)) (hk := (fun _ => none)) (okCons draymanref17_Service_ok (okCons draymanref01_Fit_ok okNil)) lokNil noHooks (draymanref17_One_ev draymanref17_Service draymanref01_Fit)

end
end Go.Rv.Try

set_option linter.unusedVariables false
set_option maxRecDepth 100000
set_option maxHeartbeats 4000000
namespace Go.Rv.Try
open Go Go.Rv Go.RowKit
noncomputable section

-- drayman/draymanref31.Find

abbrev draymanref31_Find_T (α : Type) : Type := (Seq Z2) → Int → Int → (Z2 → Bool → Option α) → Option α

noncomputable def draymanref31_Find_l0_step {α : Type} (kr : (Bool) → Z2 → Option α) (k0 : Z2 → Option α) (rec : (Seq Z2) → (Int) → (Int) → (Int) → Z2 → Option α) (l4 : Seq Z2) (saga5 : Int) (step6 : Int) (i7 : Int) (x8 : Int × Int × Int × Int × Int × Int × Unit) : Option α :=
  (cond (decide (i7 < (l4.n : Int)))
    (cond ((decide ((0 : Int) ≤ i7)) && (decide (i7 < (l4.n : Int))))
      (cond ((l4.g i7.toNat).1 == saga5)
        (cond ((decide ((0 : Int) ≤ i7)) && (decide (i7 < (l4.n : Int))))
          (cond ((l4.g i7.toNat).2.1 == step6)
            (cond ((decide ((0 : Int) ≤ i7)) && (decide (i7 < (l4.n : Int))))
              (kr true (l4.g i7.toNat))
              none)
            (rec l4 saga5 step6 (IntKind.i64.wrap (i7 + 1)) x8))
          none)
        (rec l4 saga5 step6 (IntKind.i64.wrap (i7 + 1)) x8))
      none)
    (k0 x8))

noncomputable def draymanref31_Find_l0_run {α : Type} (kr : (Bool) → Z2 → Option α) (k0 : Z2 → Option α) : Nat → (Seq Z2) → (Int) → (Int) → (Int) → Z2 → Option α
  | 0, _, _, _, _, _ => none
  | n + 1, l4, saga5, step6, i7, x8 => draymanref31_Find_l0_step kr k0 (fun l4 saga5 step6 i7 x8 => draymanref31_Find_l0_run kr k0 n l4 saga5 step6 i7 x8) l4 saga5 step6 i7 x8

noncomputable def draymanref31_Find {α : Type} (l1 : Seq Z2) (saga2 : Int) (step3 : Int) (k : Z2 → Bool → Option α) : Option α :=
  (draymanref31_Find_l0_run
    (fun x9 x10 =>
      (k x10 x9))
    (fun x11 =>
      (k (0, 0, 0, 0, 0, 0, ()) false))
    1000 l1 saga2 step3 0 (0, 0, 0, 0, 0, 0, ()))

noncomputable def draymanref31_Find_sp {α : Type} (draymanref31_Find : draymanref31_Find_T α) : FunSpec α := ⟨74, [.sl (.int .i64 (.int .i64 (.int .i64 (.int .i64 (.int .i64 (.int .i64 (.nil))))))), .int .i64, .int .i64], [], fun ds k => draymanref31_Find (hdQ (.int .i64 (.int .i64 (.int .i64 (.int .i64 (.int .i64 (.int .i64 (.nil))))))) ds) (hdI ds.tail) (hdI ds.tail.tail) (fun r1 r2 => k (enc dep (.tup [.agg [.int .i64, .int .i64, .int .i64, .int .i64, .int .i64, .int .i64], .bool]) [.i r1.1, .i r1.2.1, .i r1.2.2.1, .i r1.2.2.2.1, .i r1.2.2.2.2.1, .i r1.2.2.2.2.2.1, .b r2]).1 [])⟩

noncomputable def draymanref31_Find_spec {α : Type} : FunSpec α := draymanref31_Find_sp draymanref31_Find

noncomputable def draymanref31_Find_C {α : Type} : List (FunSpec α) := []

noncomputable def draymanref31_Find_q : FuncId → Bool := fun f => false

noncomputable def draymanref31_Find_inl : FuncId → Bool := fun f => false

noncomputable def draymanref31_Find_ann : FuncId → AnnT := fun f p => if f = 74 then (if p = [true, false, true] then ⟨[0, 1, 2, 6, 8], [], [6], [6, 7], 0, [], []⟩ else ⟨[], [], [], [], 0, [], []⟩) else ⟨[], [], [], [], 0, [], []⟩

noncomputable def draymanref31_Find_l0_t : List Sh := [.sl (.int .i64 (.int .i64 (.int .i64 (.int .i64 (.int .i64 (.int .i64 (.nil))))))), .int .i64, .int .i64, .dead, .dead, .dead, .ref 0 0, .dead, .int .i64, .dead, .dead, .dead, .dead, .dead, .dead, .dead, .dead, .dead, .dead, .dead, .dead, .dead, .dead, .dead, .dead, .dead, .dead, .dead, .dead, .dead, .dead, .dead, .dead, .dead, .dead, .dead]
noncomputable def draymanref31_Find_l0_s : List (List Sh) := []
noncomputable def draymanref31_Find_l0_h : List BSh := [.box [.int .i64, .int .i64, .int .i64, .int .i64, .int .i64, .int .i64]]

noncomputable def draymanref31_Find_l0_spec {α : Type} : LoopSpec α := ⟨6, 74, [true, false, true], draymanref31_Find_l0_t, draymanref31_Find_l0_s, draymanref31_Find_l0_h, fun ds k => draymanref31_Find_l0_run (fun y1 y2 => k .ret (encSt [.dead, .dead, .dead, .dead, .dead, .dead, .ref 0 0, .bool, .dead, .dead, .dead, .dead, .dead, .dead, .dead, .dead, .dead, .dead, .dead, .dead, .dead, .dead, .dead, .dead, .dead, .dead, .dead, .dead, .dead, .dead, .dead, .dead, .dead, .dead, .dead, .dead] [] [.box [.int .i64, .int .i64, .int .i64, .int .i64, .int .i64, .int .i64]] [.b y1, .i y2.1, .i y2.2.1, .i y2.2.2.1, .i y2.2.2.2.1, .i y2.2.2.2.2.1, .i y2.2.2.2.2.2.1])) (fun y1 => k (.exit 0) (encSt [.dead, .dead, .dead, .dead, .dead, .dead, .ref 0 0, .dead, .dead, .dead, .dead, .dead, .dead, .dead, .dead, .dead, .dead, .dead, .dead, .dead, .dead, .dead, .dead, .dead, .dead, .dead, .dead, .dead, .dead, .dead, .dead, .dead, .dead, .dead, .dead, .dead] [] [.box [.int .i64, .int .i64, .int .i64, .int .i64, .int .i64, .int .i64]] [.i y1.1, .i y1.2.1, .i y1.2.2.1, .i y1.2.2.2.1, .i y1.2.2.2.2.1, .i y1.2.2.2.2.2.1])) 1000 (hdQ (.int .i64 (.int .i64 (.int .i64 (.int .i64 (.int .i64 (.int .i64 (.nil))))))) ds) (hdI ds.tail) (hdI ds.tail.tail) (hdI ds.tail.tail.tail) (hdI ds.tail.tail.tail.tail, hdI ds.tail.tail.tail.tail.tail, hdI ds.tail.tail.tail.tail.tail.tail, hdI ds.tail.tail.tail.tail.tail.tail.tail, hdI ds.tail.tail.tail.tail.tail.tail.tail.tail, hdI ds.tail.tail.tail.tail.tail.tail.tail.tail.tail, ())⟩

noncomputable def draymanref31_Find_loops {α : Type} : List (LoopSpec α) := [draymanref31_Find_l0_spec]

noncomputable def draymanref31_Find_l0_ev {α : Type} (n : Nat) (st : St) (k : X → St → Option α) : Option α := loopN (evCode Go.Proofs.Try.prog (callD Go.Proofs.Try.prog (envOf (draymanref31_Find_C) draymanref31_Find_q draymanref31_Find_inl 1000 draymanref31_Find_ann false (draymanref31_Find_loops) (fun _ => none)) 6) (((envOf (draymanref31_Find_C) draymanref31_Find_q draymanref31_Find_inl 1000 draymanref31_Find_ann false (draymanref31_Find_loops) (fun _ => none)) : Env α).L 6 74) 1000 (draymanref31_Find_ann 74) (false :: [true, false, true]) (loopC Go.Proofs.Try.prog 74 [true, false, true])) ((draymanref31_Find_ann 74 [true, false, true]).head 1) ((draymanref31_Find_ann 74 [true, false, true]).leave 1) n st k

theorem draymanref31_Find_l0_eq {α : Type} : ∀ (n : Nat) (l4 : Seq Z2) (saga5 : Int) (step6 : Int) (i7 : Int) (x8 : Int × Int × Int × Int × Int × Int × Unit) (k : X → St → Option α), draymanref31_Find_l0_ev n (encSt draymanref31_Find_l0_t draymanref31_Find_l0_s draymanref31_Find_l0_h [.q (.int .i64 (.int .i64 (.int .i64 (.int .i64 (.int .i64 (.int .i64 (.nil))))))) l4, .i saga5, .i step6, .i i7, .i x8.1, .i x8.2.1, .i x8.2.2.1, .i x8.2.2.2.1, .i x8.2.2.2.2.1, .i x8.2.2.2.2.2.1]) k = draymanref31_Find_l0_run (fun y1 y2 => k .ret (encSt [.dead, .dead, .dead, .dead, .dead, .dead, .ref 0 0, .bool, .dead, .dead, .dead, .dead, .dead, .dead, .dead, .dead, .dead, .dead, .dead, .dead, .dead, .dead, .dead, .dead, .dead, .dead, .dead, .dead, .dead, .dead, .dead, .dead, .dead, .dead, .dead, .dead] [] [.box [.int .i64, .int .i64, .int .i64, .int .i64, .int .i64, .int .i64]] [.b y1, .i y2.1, .i y2.2.1, .i y2.2.2.1, .i y2.2.2.2.1, .i y2.2.2.2.2.1, .i y2.2.2.2.2.2.1])) (fun y1 => k (.exit 0) (encSt [.dead, .dead, .dead, .dead, .dead, .dead, .ref 0 0, .dead, .dead, .dead, .dead, .dead, .dead, .dead, .dead, .dead, .dead, .dead, .dead, .dead, .dead, .dead, .dead, .dead, .dead, .dead, .dead, .dead, .dead, .dead, .dead, .dead, .dead, .dead, .dead, .dead] [] [.box [.int .i64, .int .i64, .int .i64, .int .i64, .int .i64, .int .i64]] [.i y1.1, .i y1.2.1, .i y1.2.2.1, .i y1.2.2.2.1, .i y1.2.2.2.2.1, .i y1.2.2.2.2.2.1])) n l4 saga5 step6 i7 x8 := by
  intro n
  induction n with
  | zero => intros; kernel_rfl
  | succ n ih =>
    intro l4 saga5 step6 i7 x8 k
    have e : (fun (l4 : Seq Z2) (saga5 : Int) (step6 : Int) (i7 : Int) (x8 : Int × Int × Int × Int × Int × Int × Unit) => draymanref31_Find_l0_ev n (encSt draymanref31_Find_l0_t draymanref31_Find_l0_s draymanref31_Find_l0_h [.q (.int .i64 (.int .i64 (.int .i64 (.int .i64 (.int .i64 (.int .i64 (.nil))))))) l4, .i saga5, .i step6, .i i7, .i x8.1, .i x8.2.1, .i x8.2.2.1, .i x8.2.2.2.1, .i x8.2.2.2.2.1, .i x8.2.2.2.2.2.1]) k) = (fun (l4 : Seq Z2) (saga5 : Int) (step6 : Int) (i7 : Int) (x8 : Int × Int × Int × Int × Int × Int × Unit) => draymanref31_Find_l0_run (fun y1 y2 => k .ret (encSt [.dead, .dead, .dead, .dead, .dead, .dead, .ref 0 0, .bool, .dead, .dead, .dead, .dead, .dead, .dead, .dead, .dead, .dead, .dead, .dead, .dead, .dead, .dead, .dead, .dead, .dead, .dead, .dead, .dead, .dead, .dead, .dead, .dead, .dead, .dead, .dead, .dead] [] [.box [.int .i64, .int .i64, .int .i64, .int .i64, .int .i64, .int .i64]] [.b y1, .i y2.1, .i y2.2.1, .i y2.2.2.1, .i y2.2.2.2.1, .i y2.2.2.2.2.1, .i y2.2.2.2.2.2.1])) (fun y1 => k (.exit 0) (encSt [.dead, .dead, .dead, .dead, .dead, .dead, .ref 0 0, .dead, .dead, .dead, .dead, .dead, .dead, .dead, .dead, .dead, .dead, .dead, .dead, .dead, .dead, .dead, .dead, .dead, .dead, .dead, .dead, .dead, .dead, .dead, .dead, .dead, .dead, .dead, .dead, .dead] [] [.box [.int .i64, .int .i64, .int .i64, .int .i64, .int .i64, .int .i64]] [.i y1.1, .i y1.2.1, .i y1.2.2.1, .i y1.2.2.2.1, .i y1.2.2.2.2.1, .i y1.2.2.2.2.2.1])) n l4 saga5 step6 i7 x8) := by
      funext l4 saga5 step6 i7 x8
      exact ih l4 saga5 step6 i7 x8 k
    have h1 : draymanref31_Find_l0_ev (n + 1) (encSt draymanref31_Find_l0_t draymanref31_Find_l0_s draymanref31_Find_l0_h [.q (.int .i64 (.int .i64 (.int .i64 (.int .i64 (.int .i64 (.int .i64 (.nil))))))) l4, .i saga5, .i step6, .i i7, .i x8.1, .i x8.2.1, .i x8.2.2.1, .i x8.2.2.2.1, .i x8.2.2.2.2.1, .i x8.2.2.2.2.2.1]) k = draymanref31_Find_l0_step (fun y1 y2 => k .ret (encSt [.dead, .dead, .dead, .dead, .dead, .dead, .ref 0 0, .bool, .dead, .dead, .dead, .dead, .dead, .dead, .dead, .dead, .dead, .dead, .dead, .dead, .dead, .dead, .dead, .dead, .dead, .dead, .dead, .dead, .dead, .dead, .dead, .dead, .dead, .dead, .dead, .dead] [] [.box [.int .i64, .int .i64, .int .i64, .int .i64, .int .i64, .int .i64]] [.b y1, .i y2.1, .i y2.2.1, .i y2.2.2.1, .i y2.2.2.2.1, .i y2.2.2.2.2.1, .i y2.2.2.2.2.2.1])) (fun y1 => k (.exit 0) (encSt [.dead, .dead, .dead, .dead, .dead, .dead, .ref 0 0, .dead, .dead, .dead, .dead, .dead, .dead, .dead, .dead, .dead, .dead, .dead, .dead, .dead, .dead, .dead, .dead, .dead, .dead, .dead, .dead, .dead, .dead, .dead, .dead, .dead, .dead, .dead, .dead, .dead] [] [.box [.int .i64, .int .i64, .int .i64, .int .i64, .int .i64, .int .i64]] [.i y1.1, .i y1.2.1, .i y1.2.2.1, .i y1.2.2.2.1, .i y1.2.2.2.2.1, .i y1.2.2.2.2.2.1])) (fun (l4 : Seq Z2) (saga5 : Int) (step6 : Int) (i7 : Int) (x8 : Int × Int × Int × Int × Int × Int × Unit) => draymanref31_Find_l0_ev n (encSt draymanref31_Find_l0_t draymanref31_Find_l0_s draymanref31_Find_l0_h [.q (.int .i64 (.int .i64 (.int .i64 (.int .i64 (.int .i64 (.int .i64 (.nil))))))) l4, .i saga5, .i step6, .i i7, .i x8.1, .i x8.2.1, .i x8.2.2.1, .i x8.2.2.2.1, .i x8.2.2.2.2.1, .i x8.2.2.2.2.2.1]) k) l4 saga5 step6 i7 x8 := by kernel_rfl
    have h2 := congrArg (fun r => draymanref31_Find_l0_step (fun y1 y2 => k .ret (encSt [.dead, .dead, .dead, .dead, .dead, .dead, .ref 0 0, .bool, .dead, .dead, .dead, .dead, .dead, .dead, .dead, .dead, .dead, .dead, .dead, .dead, .dead, .dead, .dead, .dead, .dead, .dead, .dead, .dead, .dead, .dead, .dead, .dead, .dead, .dead, .dead, .dead] [] [.box [.int .i64, .int .i64, .int .i64, .int .i64, .int .i64, .int .i64]] [.b y1, .i y2.1, .i y2.2.1, .i y2.2.2.1, .i y2.2.2.2.1, .i y2.2.2.2.2.1, .i y2.2.2.2.2.2.1])) (fun y1 => k (.exit 0) (encSt [.dead, .dead, .dead, .dead, .dead, .dead, .ref 0 0, .dead, .dead, .dead, .dead, .dead, .dead, .dead, .dead, .dead, .dead, .dead, .dead, .dead, .dead, .dead, .dead, .dead, .dead, .dead, .dead, .dead, .dead, .dead, .dead, .dead, .dead, .dead, .dead, .dead] [] [.box [.int .i64, .int .i64, .int .i64, .int .i64, .int .i64, .int .i64]] [.i y1.1, .i y1.2.1, .i y1.2.2.1, .i y1.2.2.2.1, .i y1.2.2.2.2.1, .i y1.2.2.2.2.2.1])) r l4 saga5 step6 i7 x8) e
    have h3 : draymanref31_Find_l0_step (fun y1 y2 => k .ret (encSt [.dead, .dead, .dead, .dead, .dead, .dead, .ref 0 0, .bool, .dead, .dead, .dead, .dead, .dead, .dead, .dead, .dead, .dead, .dead, .dead, .dead, .dead, .dead, .dead, .dead, .dead, .dead, .dead, .dead, .dead, .dead, .dead, .dead, .dead, .dead, .dead, .dead] [] [.box [.int .i64, .int .i64, .int .i64, .int .i64, .int .i64, .int .i64]] [.b y1, .i y2.1, .i y2.2.1, .i y2.2.2.1, .i y2.2.2.2.1, .i y2.2.2.2.2.1, .i y2.2.2.2.2.2.1])) (fun y1 => k (.exit 0) (encSt [.dead, .dead, .dead, .dead, .dead, .dead, .ref 0 0, .dead, .dead, .dead, .dead, .dead, .dead, .dead, .dead, .dead, .dead, .dead, .dead, .dead, .dead, .dead, .dead, .dead, .dead, .dead, .dead, .dead, .dead, .dead, .dead, .dead, .dead, .dead, .dead, .dead] [] [.box [.int .i64, .int .i64, .int .i64, .int .i64, .int .i64, .int .i64]] [.i y1.1, .i y1.2.1, .i y1.2.2.1, .i y1.2.2.2.1, .i y1.2.2.2.2.1, .i y1.2.2.2.2.2.1])) (fun (l4 : Seq Z2) (saga5 : Int) (step6 : Int) (i7 : Int) (x8 : Int × Int × Int × Int × Int × Int × Unit) => draymanref31_Find_l0_run (fun y1 y2 => k .ret (encSt [.dead, .dead, .dead, .dead, .dead, .dead, .ref 0 0, .bool, .dead, .dead, .dead, .dead, .dead, .dead, .dead, .dead, .dead, .dead, .dead, .dead, .dead, .dead, .dead, .dead, .dead, .dead, .dead, .dead, .dead, .dead, .dead, .dead, .dead, .dead, .dead, .dead] [] [.box [.int .i64, .int .i64, .int .i64, .int .i64, .int .i64, .int .i64]] [.b y1, .i y2.1, .i y2.2.1, .i y2.2.2.1, .i y2.2.2.2.1, .i y2.2.2.2.2.1, .i y2.2.2.2.2.2.1])) (fun y1 => k (.exit 0) (encSt [.dead, .dead, .dead, .dead, .dead, .dead, .ref 0 0, .dead, .dead, .dead, .dead, .dead, .dead, .dead, .dead, .dead, .dead, .dead, .dead, .dead, .dead, .dead, .dead, .dead, .dead, .dead, .dead, .dead, .dead, .dead, .dead, .dead, .dead, .dead, .dead, .dead] [] [.box [.int .i64, .int .i64, .int .i64, .int .i64, .int .i64, .int .i64]] [.i y1.1, .i y1.2.1, .i y1.2.2.1, .i y1.2.2.2.1, .i y1.2.2.2.2.1, .i y1.2.2.2.2.2.1])) n l4 saga5 step6 i7 x8) l4 saga5 step6 i7 x8 = draymanref31_Find_l0_run (fun y1 y2 => k .ret (encSt [.dead, .dead, .dead, .dead, .dead, .dead, .ref 0 0, .bool, .dead, .dead, .dead, .dead, .dead, .dead, .dead, .dead, .dead, .dead, .dead, .dead, .dead, .dead, .dead, .dead, .dead, .dead, .dead, .dead, .dead, .dead, .dead, .dead, .dead, .dead, .dead, .dead] [] [.box [.int .i64, .int .i64, .int .i64, .int .i64, .int .i64, .int .i64]] [.b y1, .i y2.1, .i y2.2.1, .i y2.2.2.1, .i y2.2.2.2.1, .i y2.2.2.2.2.1, .i y2.2.2.2.2.2.1])) (fun y1 => k (.exit 0) (encSt [.dead, .dead, .dead, .dead, .dead, .dead, .ref 0 0, .dead, .dead, .dead, .dead, .dead, .dead, .dead, .dead, .dead, .dead, .dead, .dead, .dead, .dead, .dead, .dead, .dead, .dead, .dead, .dead, .dead, .dead, .dead, .dead, .dead, .dead, .dead, .dead, .dead] [] [.box [.int .i64, .int .i64, .int .i64, .int .i64, .int .i64, .int .i64]] [.i y1.1, .i y1.2.1, .i y1.2.2.1, .i y1.2.2.2.1, .i y1.2.2.2.2.1, .i y1.2.2.2.2.2.1])) (n + 1) l4 saga5 step6 i7 x8 := by kernel_rfl
    exact h1.trans (h2.trans h3)

theorem draymanref31_Find_l0_ok {α : Type} : (draymanref31_Find_l0_spec : LoopSpec α).ok Go.Proofs.Try.prog (envOf (draymanref31_Find_C) draymanref31_Find_q draymanref31_Find_inl 1000 draymanref31_Find_ann false (draymanref31_Find_loops) (fun _ => none)) := by
  intro ds k
  have h1 : draymanref31_Find_l0_ev 1000 (encSt draymanref31_Find_l0_t draymanref31_Find_l0_s draymanref31_Find_l0_h ds) k = draymanref31_Find_l0_ev 1000 (encSt draymanref31_Find_l0_t draymanref31_Find_l0_s draymanref31_Find_l0_h [.q (.int .i64 (.int .i64 (.int .i64 (.int .i64 (.int .i64 (.int .i64 (.nil))))))) (hdQ (.int .i64 (.int .i64 (.int .i64 (.int .i64 (.int .i64 (.int .i64 (.nil))))))) ds), .i (hdI ds.tail), .i (hdI ds.tail.tail), .i (hdI ds.tail.tail.tail), .i ((hdI ds.tail.tail.tail.tail, hdI ds.tail.tail.tail.tail.tail, hdI ds.tail.tail.tail.tail.tail.tail, hdI ds.tail.tail.tail.tail.tail.tail.tail, hdI ds.tail.tail.tail.tail.tail.tail.tail.tail, hdI ds.tail.tail.tail.tail.tail.tail.tail.tail.tail, ()).1), .i ((hdI ds.tail.tail.tail.tail, hdI ds.tail.tail.tail.tail.tail, hdI ds.tail.tail.tail.tail.tail.tail, hdI ds.tail.tail.tail.tail.tail.tail.tail, hdI ds.tail.tail.tail.tail.tail.tail.tail.tail, hdI ds.tail.tail.tail.tail.tail.tail.tail.tail.tail, ()).2.1), .i ((hdI ds.tail.tail.tail.tail, hdI ds.tail.tail.tail.tail.tail, hdI ds.tail.tail.tail.tail.tail.tail, hdI ds.tail.tail.tail.tail.tail.tail.tail, hdI ds.tail.tail.tail.tail.tail.tail.tail.tail, hdI ds.tail.tail.tail.tail.tail.tail.tail.tail.tail, ()).2.2.1), .i ((hdI ds.tail.tail.tail.tail, hdI ds.tail.tail.tail.tail.tail, hdI ds.tail.tail.tail.tail.tail.tail, hdI ds.tail.tail.tail.tail.tail.tail.tail, hdI ds.tail.tail.tail.tail.tail.tail.tail.tail, hdI ds.tail.tail.tail.tail.tail.tail.tail.tail.tail, ()).2.2.2.1), .i ((hdI ds.tail.tail.tail.tail, hdI ds.tail.tail.tail.tail.tail, hdI ds.tail.tail.tail.tail.tail.tail, hdI ds.tail.tail.tail.tail.tail.tail.tail, hdI ds.tail.tail.tail.tail.tail.tail.tail.tail, hdI ds.tail.tail.tail.tail.tail.tail.tail.tail.tail, ()).2.2.2.2.1), .i ((hdI ds.tail.tail.tail.tail, hdI ds.tail.tail.tail.tail.tail, hdI ds.tail.tail.tail.tail.tail.tail, hdI ds.tail.tail.tail.tail.tail.tail.tail, hdI ds.tail.tail.tail.tail.tail.tail.tail.tail, hdI ds.tail.tail.tail.tail.tail.tail.tail.tail.tail, ()).2.2.2.2.2.1)]) k := by kernel_rfl
  have h2 := draymanref31_Find_l0_eq 1000 (hdQ (.int .i64 (.int .i64 (.int .i64 (.int .i64 (.int .i64 (.int .i64 (.nil))))))) ds) (hdI ds.tail) (hdI ds.tail.tail) (hdI ds.tail.tail.tail) (hdI ds.tail.tail.tail.tail, hdI ds.tail.tail.tail.tail.tail, hdI ds.tail.tail.tail.tail.tail.tail, hdI ds.tail.tail.tail.tail.tail.tail.tail, hdI ds.tail.tail.tail.tail.tail.tail.tail.tail, hdI ds.tail.tail.tail.tail.tail.tail.tail.tail.tail, ()) k
  exact h1.trans h2

theorem draymanref31_Find_ev {α : Type} : EvOk (α := α) Go.Proofs.Try.prog (envOf (draymanref31_Find_C) draymanref31_Find_q draymanref31_Find_inl 1000 draymanref31_Find_ann false (draymanref31_Find_loops) (fun _ => none)) 6 (draymanref31_Find_sp (draymanref31_Find)) := by intro ds k; kernel_rfl

theorem draymanref31_Find_ok {α : Type} : (draymanref31_Find_spec : FunSpec α).ok Go.Proofs.Try.prog :=
  FunSpec.ok_of (sp := draymanref31_Find_spec) (C := draymanref31_Find_C) (q := draymanref31_Find_q) (inl := draymanref31_Find_inl) (N := 1000) (ann := draymanref31_Find_ann) (fr := false) (D := 6) (l := (draymanref31_Find_loops)) (hk := (fun _ => none)) okNil (lokCons (draymanref31_Find_l0_ok) lokNil) noHooks (draymanref31_Find_ev)

end
end Go.Rv.Try

set_option linter.unusedVariables false
set_option maxRecDepth 100000
set_option maxHeartbeats 4000000
namespace Go.Rv.Try
open Go Go.Rv Go.RowKit
noncomputable section

-- drayman/draymanref31.with

abbrev draymanref31_with_T (α : Type) : Type := (Seq Z2) → Z2 → ((Seq Z2) → Option α) → Option α

noncomputable def draymanref31_with_l0_step {α : Type} (draymanref31_ahead : draymanref31_ahead_T α) (k0 : (Bool) → Z2 → (Seq Z2) → (Seq Z2) → Option α) (rec : (Seq Z2) → (Bool) → (Int) → Z2 → (Seq Z2) → (Seq Z2) → Option α) (l3 : Seq Z2) (done4 : Bool) (i5 : Int) (x6 : Int × Int × Int × Int × Int × Int × Unit) (q7 : Seq Z2) (q8 : Seq Z2) : Option α :=
  (cond (decide (i5 < (l3.n : Int)))
    (cond (!done4)
      (cond ((decide ((0 : Int) ≤ i5)) && (decide (i5 < (l3.n : Int))))
        (draymanref31_ahead (l3.g i5.toNat) x6 fun r9 =>
          (cond (!r9)
            (cond (decide (((q8.n + 1)) * 48 ≤ 140737488355328))
              (cond ((decide ((0 : Int) ≤ i5)) && (decide (i5 < (l3.n : Int))))
                (draymanref31_ahead (l3.g i5.toNat) x6 fun r10 =>
                  (cond (!r10)
                    (cond ((decide ((0 : Int) ≤ i5)) && (decide (i5 < (l3.n : Int))))
                      (draymanref31_ahead x6 (l3.g i5.toNat) fun r11 =>
                        (cond r11
                          (cond ((decide ((0 : Int) ≤ i5)) && (decide (i5 < (l3.n : Int))))
                            (cond (decide ((((q8.n + 1) + 1)) * 48 ≤ 140737488355328))
                              (rec l3 true (IntKind.i64.wrap (i5 + 1)) x6 q7 (⟨((q8.nl && false) && false), ((q8.n + 1) + 1), (tApp (q8.n + 1) (tApp q8.n q8.g (fun _ => x6)) (fun _ => (l3.g i5.toNat)))⟩ : Seq Z2))
                              none)
                            none)
                          (rec l3 true (IntKind.i64.wrap (i5 + 1)) x6 q7 (⟨(q8.nl && false), (q8.n + 1), (tApp q8.n q8.g (fun _ => x6))⟩ : Seq Z2))))
                      none)
                    (cond ((decide ((0 : Int) ≤ i5)) && (decide (i5 < (l3.n : Int))))
                      (cond (decide ((((q8.n + 1) + 1)) * 48 ≤ 140737488355328))
                        (rec l3 true (IntKind.i64.wrap (i5 + 1)) x6 q7 (⟨((q8.nl && false) && false), ((q8.n + 1) + 1), (tApp (q8.n + 1) (tApp q8.n q8.g (fun _ => x6)) (fun _ => (l3.g i5.toNat)))⟩ : Seq Z2))
                        none)
                      none)))
                none)
              none)
            (cond ((decide ((0 : Int) ≤ i5)) && (decide (i5 < (l3.n : Int))))
              (draymanref31_ahead (l3.g i5.toNat) x6 fun r12 =>
                (cond (!r12)
                  (cond ((decide ((0 : Int) ≤ i5)) && (decide (i5 < (l3.n : Int))))
                    (draymanref31_ahead x6 (l3.g i5.toNat) fun r13 =>
                      (cond r13
                        (cond ((decide ((0 : Int) ≤ i5)) && (decide (i5 < (l3.n : Int))))
                          (cond (decide (((q8.n + 1)) * 48 ≤ 140737488355328))
                            (rec l3 done4 (IntKind.i64.wrap (i5 + 1)) x6 q7 (⟨(q8.nl && false), (q8.n + 1), (tApp q8.n q8.g (fun _ => (l3.g i5.toNat)))⟩ : Seq Z2))
                            none)
                          none)
                        (rec l3 done4 (IntKind.i64.wrap (i5 + 1)) x6 q7 q8)))
                    none)
                  (cond ((decide ((0 : Int) ≤ i5)) && (decide (i5 < (l3.n : Int))))
                    (cond (decide (((q8.n + 1)) * 48 ≤ 140737488355328))
                      (rec l3 done4 (IntKind.i64.wrap (i5 + 1)) x6 q7 (⟨(q8.nl && false), (q8.n + 1), (tApp q8.n q8.g (fun _ => (l3.g i5.toNat)))⟩ : Seq Z2))
                      none)
                    none)))
              none)))
        none)
      (cond ((decide ((0 : Int) ≤ i5)) && (decide (i5 < (l3.n : Int))))
        (draymanref31_ahead (l3.g i5.toNat) x6 fun r14 =>
          (cond (!r14)
            (cond ((decide ((0 : Int) ≤ i5)) && (decide (i5 < (l3.n : Int))))
              (draymanref31_ahead x6 (l3.g i5.toNat) fun r15 =>
                (cond r15
                  (cond ((decide ((0 : Int) ≤ i5)) && (decide (i5 < (l3.n : Int))))
                    (cond (decide (((q8.n + 1)) * 48 ≤ 140737488355328))
                      (rec l3 done4 (IntKind.i64.wrap (i5 + 1)) x6 q7 (⟨(q8.nl && false), (q8.n + 1), (tApp q8.n q8.g (fun _ => (l3.g i5.toNat)))⟩ : Seq Z2))
                      none)
                    none)
                  (rec l3 done4 (IntKind.i64.wrap (i5 + 1)) x6 q7 q8)))
              none)
            (cond ((decide ((0 : Int) ≤ i5)) && (decide (i5 < (l3.n : Int))))
              (cond (decide (((q8.n + 1)) * 48 ≤ 140737488355328))
                (rec l3 done4 (IntKind.i64.wrap (i5 + 1)) x6 q7 (⟨(q8.nl && false), (q8.n + 1), (tApp q8.n q8.g (fun _ => (l3.g i5.toNat)))⟩ : Seq Z2))
                none)
              none)))
        none))
    (k0 done4 x6 q7 q8))

noncomputable def draymanref31_with_l0_run {α : Type} (draymanref31_ahead : draymanref31_ahead_T α) (k0 : (Bool) → Z2 → (Seq Z2) → (Seq Z2) → Option α) : Nat → (Seq Z2) → (Bool) → (Int) → Z2 → (Seq Z2) → (Seq Z2) → Option α
  | 0, _, _, _, _, _, _ => none
  | n + 1, l3, done4, i5, x6, q7, q8 => draymanref31_with_l0_step draymanref31_ahead k0 (fun l3 done4 i5 x6 q7 q8 => draymanref31_with_l0_run draymanref31_ahead k0 n l3 done4 i5 x6 q7 q8) l3 done4 i5 x6 q7 q8

noncomputable def draymanref31_with_g {α : Type} (draymanref31_ahead : draymanref31_ahead_T α) (l1 : Seq Z2) (x2 : Int × Int × Int × Int × Int × Int × Unit) (k : (Seq Z2) → Option α) : Option α :=
  (draymanref31_with_l0_run draymanref31_ahead
    (fun x16 x17 q18 q19 =>
      (cond (!x16)
        (cond (decide (((q19.n + 1)) * 48 ≤ 140737488355328))
          (k (⟨(q19.nl && false), (q19.n + 1), (tApp q19.n q19.g (fun _ => x17))⟩ : Seq Z2))
          none)
        (k q19)))
    1000 l1 false 0 x2 (⟨true, 0, (fun _ => (0, 0, 0, 0, 0, 0, ()))⟩ : Seq Z2) (⟨true, 0, (fun _ => (0, 0, 0, 0, 0, 0, ()))⟩ : Seq Z2))

noncomputable def draymanref31_with {α : Type} : draymanref31_with_T α := draymanref31_with_g draymanref31_ahead

noncomputable def draymanref31_with_sp {α : Type} (draymanref31_with : draymanref31_with_T α) : FunSpec α := ⟨140, [.sl (.int .i64 (.int .i64 (.int .i64 (.int .i64 (.int .i64 (.int .i64 (.nil))))))), .agg [.int .i64, .int .i64, .int .i64, .int .i64, .int .i64, .int .i64]], [], fun ds k => draymanref31_with (hdQ (.int .i64 (.int .i64 (.int .i64 (.int .i64 (.int .i64 (.int .i64 (.nil))))))) ds) (hdI ds.tail, hdI ds.tail.tail, hdI ds.tail.tail.tail, hdI ds.tail.tail.tail.tail, hdI ds.tail.tail.tail.tail.tail, hdI ds.tail.tail.tail.tail.tail.tail, ()) (fun q1 => k (enc dep (.own 0) []).1 (encBs [.row true (.int .i64 (.int .i64 (.int .i64 (.int .i64 (.int .i64 (.int .i64 (.nil)))))))] [.q (.int .i64 (.int .i64 (.int .i64 (.int .i64 (.int .i64 (.int .i64 (.nil))))))) q1]).1)⟩

noncomputable def draymanref31_with_spec {α : Type} : FunSpec α := draymanref31_with_sp draymanref31_with

noncomputable def draymanref31_with_C {α : Type} (draymanref31_ahead : draymanref31_ahead_T α) : List (FunSpec α) := [draymanref31_ahead_sp draymanref31_ahead]

noncomputable def draymanref31_with_q : FuncId → Bool := fun f => Nat.beq f 122

noncomputable def draymanref31_with_inl : FuncId → Bool := fun f => false

noncomputable def draymanref31_with_ann : FuncId → AnnT := fun f p => if f = 140 then (if p = [true, false, true, true, true] then ⟨[0, 3, 5, 6, 7], [1, 2], [3, 5, 6], [4], 0, [], []⟩ else if p = [false, true, false, true, false, true, false, true, true, true] then ⟨[], [], [], [], 2, [], []⟩ else if p = [false, false, false, true, false, true, false, true, true, true] then ⟨[], [], [], [], 2, [], []⟩ else ⟨[], [], [], [], 0, [], []⟩) else ⟨[], [], [], [], 0, [], []⟩

noncomputable def draymanref31_with_l0_t : List Sh := [.sl (.int .i64 (.int .i64 (.int .i64 (.int .i64 (.int .i64 (.int .i64 (.nil))))))), .dead, .dead, .ref 0 0, .dead, .own 2, .bool, .int .i64, .dead, .dead, .dead, .dead, .dead, .dead, .dead, .dead, .dead, .dead, .dead, .dead, .dead, .dead, .dead, .dead, .dead, .dead, .dead, .dead, .dead, .dead, .dead, .dead, .dead, .dead, .dead, .dead, .dead, .dead, .dead, .dead, .dead, .dead, .dead, .dead, .dead, .dead, .dead, .dead, .dead, .dead, .dead, .dead, .dead, .dead, .dead, .dead, .dead]
noncomputable def draymanref31_with_l0_s : List (List Sh) := []
noncomputable def draymanref31_with_l0_h : List BSh := [.box [.int .i64, .int .i64, .int .i64, .int .i64, .int .i64, .int .i64], .row true (.int .i64 (.int .i64 (.int .i64 (.int .i64 (.int .i64 (.int .i64 (.nil))))))), .row true (.int .i64 (.int .i64 (.int .i64 (.int .i64 (.int .i64 (.int .i64 (.nil)))))))]

noncomputable def draymanref31_with_l0_spec {α : Type} (draymanref31_ahead : draymanref31_ahead_T α) : LoopSpec α := ⟨6, 140, [true, false, true, true, true], draymanref31_with_l0_t, draymanref31_with_l0_s, draymanref31_with_l0_h, fun ds k => draymanref31_with_l0_run draymanref31_ahead (fun y1 y2 y3 y4 => k (.exit 0) (encSt [.dead, .dead, .dead, .ref 0 0, .dead, .own 2, .bool, .dead, .dead, .dead, .dead, .dead, .dead, .dead, .dead, .dead, .dead, .dead, .dead, .dead, .dead, .dead, .dead, .dead, .dead, .dead, .dead, .dead, .dead, .dead, .dead, .dead, .dead, .dead, .dead, .dead, .dead, .dead, .dead, .dead, .dead, .dead, .dead, .dead, .dead, .dead, .dead, .dead, .dead, .dead, .dead, .dead, .dead, .dead, .dead, .dead, .dead] [] [.box [.int .i64, .int .i64, .int .i64, .int .i64, .int .i64, .int .i64], .row true (.int .i64 (.int .i64 (.int .i64 (.int .i64 (.int .i64 (.int .i64 (.nil))))))), .row true (.int .i64 (.int .i64 (.int .i64 (.int .i64 (.int .i64 (.int .i64 (.nil)))))))] [.b y1, .i y2.1, .i y2.2.1, .i y2.2.2.1, .i y2.2.2.2.1, .i y2.2.2.2.2.1, .i y2.2.2.2.2.2.1, .q (.int .i64 (.int .i64 (.int .i64 (.int .i64 (.int .i64 (.int .i64 (.nil))))))) y3, .q (.int .i64 (.int .i64 (.int .i64 (.int .i64 (.int .i64 (.int .i64 (.nil))))))) y4])) 1000 (hdQ (.int .i64 (.int .i64 (.int .i64 (.int .i64 (.int .i64 (.int .i64 (.nil))))))) ds) (hdB ds.tail) (hdI ds.tail.tail) (hdI ds.tail.tail.tail, hdI ds.tail.tail.tail.tail, hdI ds.tail.tail.tail.tail.tail, hdI ds.tail.tail.tail.tail.tail.tail, hdI ds.tail.tail.tail.tail.tail.tail.tail, hdI ds.tail.tail.tail.tail.tail.tail.tail.tail, ()) (hdQ (.int .i64 (.int .i64 (.int .i64 (.int .i64 (.int .i64 (.int .i64 (.nil))))))) ds.tail.tail.tail.tail.tail.tail.tail.tail.tail) (hdQ (.int .i64 (.int .i64 (.int .i64 (.int .i64 (.int .i64 (.int .i64 (.nil))))))) ds.tail.tail.tail.tail.tail.tail.tail.tail.tail.tail)⟩

noncomputable def draymanref31_with_loops {α : Type} (draymanref31_ahead : draymanref31_ahead_T α) : List (LoopSpec α) := [draymanref31_with_l0_spec draymanref31_ahead]

noncomputable def draymanref31_with_l0_ev {α : Type} (draymanref31_ahead : draymanref31_ahead_T α) (n : Nat) (st : St) (k : X → St → Option α) : Option α := loopN (evCode Go.Proofs.Try.prog (callD Go.Proofs.Try.prog (envOf (draymanref31_with_C draymanref31_ahead) draymanref31_with_q draymanref31_with_inl 1000 draymanref31_with_ann false (draymanref31_with_loops draymanref31_ahead) (fun _ => none)) 6) (((envOf (draymanref31_with_C draymanref31_ahead) draymanref31_with_q draymanref31_with_inl 1000 draymanref31_with_ann false (draymanref31_with_loops draymanref31_ahead) (fun _ => none)) : Env α).L 6 140) 1000 (draymanref31_with_ann 140) (false :: [true, false, true, true, true]) (loopC Go.Proofs.Try.prog 140 [true, false, true, true, true])) ((draymanref31_with_ann 140 [true, false, true, true, true]).head 3) ((draymanref31_with_ann 140 [true, false, true, true, true]).leave 3) n st k

theorem draymanref31_with_l0_eq {α : Type} (draymanref31_ahead : draymanref31_ahead_T α) : ∀ (n : Nat) (l3 : Seq Z2) (done4 : Bool) (i5 : Int) (x6 : Int × Int × Int × Int × Int × Int × Unit) (q7 : Seq Z2) (q8 : Seq Z2) (k : X → St → Option α), draymanref31_with_l0_ev draymanref31_ahead n (encSt draymanref31_with_l0_t draymanref31_with_l0_s draymanref31_with_l0_h [.q (.int .i64 (.int .i64 (.int .i64 (.int .i64 (.int .i64 (.int .i64 (.nil))))))) l3, .b done4, .i i5, .i x6.1, .i x6.2.1, .i x6.2.2.1, .i x6.2.2.2.1, .i x6.2.2.2.2.1, .i x6.2.2.2.2.2.1, .q (.int .i64 (.int .i64 (.int .i64 (.int .i64 (.int .i64 (.int .i64 (.nil))))))) q7, .q (.int .i64 (.int .i64 (.int .i64 (.int .i64 (.int .i64 (.int .i64 (.nil))))))) q8]) k = draymanref31_with_l0_run draymanref31_ahead (fun y1 y2 y3 y4 => k (.exit 0) (encSt [.dead, .dead, .dead, .ref 0 0, .dead, .own 2, .bool, .dead, .dead, .dead, .dead, .dead, .dead, .dead, .dead, .dead, .dead, .dead, .dead, .dead, .dead, .dead, .dead, .dead, .dead, .dead, .dead, .dead, .dead, .dead, .dead, .dead, .dead, .dead, .dead, .dead, .dead, .dead, .dead, .dead, .dead, .dead, .dead, .dead, .dead, .dead, .dead, .dead, .dead, .dead, .dead, .dead, .dead, .dead, .dead, .dead, .dead] [] [.box [.int .i64, .int .i64, .int .i64, .int .i64, .int .i64, .int .i64], .row true (.int .i64 (.int .i64 (.int .i64 (.int .i64 (.int .i64 (.int .i64 (.nil))))))), .row true (.int .i64 (.int .i64 (.int .i64 (.int .i64 (.int .i64 (.int .i64 (.nil)))))))] [.b y1, .i y2.1, .i y2.2.1, .i y2.2.2.1, .i y2.2.2.2.1, .i y2.2.2.2.2.1, .i y2.2.2.2.2.2.1, .q (.int .i64 (.int .i64 (.int .i64 (.int .i64 (.int .i64 (.int .i64 (.nil))))))) y3, .q (.int .i64 (.int .i64 (.int .i64 (.int .i64 (.int .i64 (.int .i64 (.nil))))))) y4])) n l3 done4 i5 x6 q7 q8 := by
  intro n
  induction n with
  | zero => intros; kernel_rfl
  | succ n ih =>
    intro l3 done4 i5 x6 q7 q8 k
    have e : (fun (l3 : Seq Z2) (done4 : Bool) (i5 : Int) (x6 : Int × Int × Int × Int × Int × Int × Unit) (q7 : Seq Z2) (q8 : Seq Z2) => draymanref31_with_l0_ev draymanref31_ahead n (encSt draymanref31_with_l0_t draymanref31_with_l0_s draymanref31_with_l0_h [.q (.int .i64 (.int .i64 (.int .i64 (.int .i64 (.int .i64 (.int .i64 (.nil))))))) l3, .b done4, .i i5, .i x6.1, .i x6.2.1, .i x6.2.2.1, .i x6.2.2.2.1, .i x6.2.2.2.2.1, .i x6.2.2.2.2.2.1, .q (.int .i64 (.int .i64 (.int .i64 (.int .i64 (.int .i64 (.int .i64 (.nil))))))) q7, .q (.int .i64 (.int .i64 (.int .i64 (.int .i64 (.int .i64 (.int .i64 (.nil))))))) q8]) k) = (fun (l3 : Seq Z2) (done4 : Bool) (i5 : Int) (x6 : Int × Int × Int × Int × Int × Int × Unit) (q7 : Seq Z2) (q8 : Seq Z2) => draymanref31_with_l0_run draymanref31_ahead (fun y1 y2 y3 y4 => k (.exit 0) (encSt [.dead, .dead, .dead, .ref 0 0, .dead, .own 2, .bool, .dead, .dead, .dead, .dead, .dead, .dead, .dead, .dead, .dead, .dead, .dead, .dead, .dead, .dead, .dead, .dead, .dead, .dead, .dead, .dead, .dead, .dead, .dead, .dead, .dead, .dead, .dead, .dead, .dead, .dead, .dead, .dead, .dead, .dead, .dead, .dead, .dead, .dead, .dead, .dead, .dead, .dead, .dead, .dead, .dead, .dead, .dead, .dead, .dead, .dead] [] [.box [.int .i64, .int .i64, .int .i64, .int .i64, .int .i64, .int .i64], .row true (.int .i64 (.int .i64 (.int .i64 (.int .i64 (.int .i64 (.int .i64 (.nil))))))), .row true (.int .i64 (.int .i64 (.int .i64 (.int .i64 (.int .i64 (.int .i64 (.nil)))))))] [.b y1, .i y2.1, .i y2.2.1, .i y2.2.2.1, .i y2.2.2.2.1, .i y2.2.2.2.2.1, .i y2.2.2.2.2.2.1, .q (.int .i64 (.int .i64 (.int .i64 (.int .i64 (.int .i64 (.int .i64 (.nil))))))) y3, .q (.int .i64 (.int .i64 (.int .i64 (.int .i64 (.int .i64 (.int .i64 (.nil))))))) y4])) n l3 done4 i5 x6 q7 q8) := by
      funext l3 done4 i5 x6 q7 q8
      exact ih l3 done4 i5 x6 q7 q8 k
    have h1 : draymanref31_with_l0_ev draymanref31_ahead (n + 1) (encSt draymanref31_with_l0_t draymanref31_with_l0_s draymanref31_with_l0_h [.q (.int .i64 (.int .i64 (.int .i64 (.int .i64 (.int .i64 (.int .i64 (.nil))))))) l3, .b done4, .i i5, .i x6.1, .i x6.2.1, .i x6.2.2.1, .i x6.2.2.2.1, .i x6.2.2.2.2.1, .i x6.2.2.2.2.2.1, .q (.int .i64 (.int .i64 (.int .i64 (.int .i64 (.int .i64 (.int .i64 (.nil))))))) q7, .q (.int .i64 (.int .i64 (.int .i64 (.int .i64 (.int .i64 (.int .i64 (.nil))))))) q8]) k = draymanref31_with_l0_step draymanref31_ahead (fun y1 y2 y3 y4 => k (.exit 0) (encSt [.dead, .dead, .dead, .ref 0 0, .dead, .own 2, .bool, .dead, .dead, .dead, .dead, .dead, .dead, .dead, .dead, .dead, .dead, .dead, .dead, .dead, .dead, .dead, .dead, .dead, .dead, .dead, .dead, .dead, .dead, .dead, .dead, .dead, .dead, .dead, .dead, .dead, .dead, .dead, .dead, .dead, .dead, .dead, .dead, .dead, .dead, .dead, .dead, .dead, .dead, .dead, .dead, .dead, .dead, .dead, .dead, .dead, .dead] [] [.box [.int .i64, .int .i64, .int .i64, .int .i64, .int .i64, .int .i64], .row true (.int .i64 (.int .i64 (.int .i64 (.int .i64 (.int .i64 (.int .i64 (.nil))))))), .row true (.int .i64 (.int .i64 (.int .i64 (.int .i64 (.int .i64 (.int .i64 (.nil)))))))] [.b y1, .i y2.1, .i y2.2.1, .i y2.2.2.1, .i y2.2.2.2.1, .i y2.2.2.2.2.1, .i y2.2.2.2.2.2.1, .q (.int .i64 (.int .i64 (.int .i64 (.int .i64 (.int .i64 (.int .i64 (.nil))))))) y3, .q (.int .i64 (.int .i64 (.int .i64 (.int .i64 (.int .i64 (.int .i64 (.nil))))))) y4])) (fun (l3 : Seq Z2) (done4 : Bool) (i5 : Int) (x6 : Int × Int × Int × Int × Int × Int × Unit) (q7 : Seq Z2) (q8 : Seq Z2) => draymanref31_with_l0_ev draymanref31_ahead n (encSt draymanref31_with_l0_t draymanref31_with_l0_s draymanref31_with_l0_h [.q (.int .i64 (.int .i64 (.int .i64 (.int .i64 (.int .i64 (.int .i64 (.nil))))))) l3, .b done4, .i i5, .i x6.1, .i x6.2.1, .i x6.2.2.1, .i x6.2.2.2.1, .i x6.2.2.2.2.1, .i x6.2.2.2.2.2.1, .q (.int .i64 (.int .i64 (.int .i64 (.int .i64 (.int .i64 (.int .i64 (.nil))))))) q7, .q (.int .i64 (.int .i64 (.int .i64 (.int .i64 (.int .i64 (.int .i64 (.nil))))))) q8]) k) l3 done4 i5 x6 q7 q8 := by kernel_rfl
    have h2 := congrArg (fun r => draymanref31_with_l0_step draymanref31_ahead (fun y1 y2 y3 y4 => k (.exit 0) (encSt [.dead, .dead, .dead, .ref 0 0, .dead, .own 2, .bool, .dead, .dead, .dead, .dead, .dead, .dead, .dead, .dead, .dead, .dead, .dead, .dead, .dead, .dead, .dead, .dead, .dead, .dead, .dead, .dead, .dead, .dead, .dead, .dead, .dead, .dead, .dead, .dead, .dead, .dead, .dead, .dead, .dead, .dead, .dead, .dead, .dead, .dead, .dead, .dead, .dead, .dead, .dead, .dead, .dead, .dead, .dead, .dead, .dead, .dead] [] [.box [.int .i64, .int .i64, .int .i64, .int .i64, .int .i64, .int .i64], .row true (.int .i64 (.int .i64 (.int .i64 (.int .i64 (.int .i64 (.int .i64 (.nil))))))), .row true (.int .i64 (.int .i64 (.int .i64 (.int .i64 (.int .i64 (.int .i64 (.nil)))))))] [.b y1, .i y2.1, .i y2.2.1, .i y2.2.2.1, .i y2.2.2.2.1, .i y2.2.2.2.2.1, .i y2.2.2.2.2.2.1, .q (.int .i64 (.int .i64 (.int .i64 (.int .i64 (.int .i64 (.int .i64 (.nil))))))) y3, .q (.int .i64 (.int .i64 (.int .i64 (.int .i64 (.int .i64 (.int .i64 (.nil))))))) y4])) r l3 done4 i5 x6 q7 q8) e
    have h3 : draymanref31_with_l0_step draymanref31_ahead (fun y1 y2 y3 y4 => k (.exit 0) (encSt [.dead, .dead, .dead, .ref 0 0, .dead, .own 2, .bool, .dead, .dead, .dead, .dead, .dead, .dead, .dead, .dead, .dead, .dead, .dead, .dead, .dead, .dead, .dead, .dead, .dead, .dead, .dead, .dead, .dead, .dead, .dead, .dead, .dead, .dead, .dead, .dead, .dead, .dead, .dead, .dead, .dead, .dead, .dead, .dead, .dead, .dead, .dead, .dead, .dead, .dead, .dead, .dead, .dead, .dead, .dead, .dead, .dead, .dead] [] [.box [.int .i64, .int .i64, .int .i64, .int .i64, .int .i64, .int .i64], .row true (.int .i64 (.int .i64 (.int .i64 (.int .i64 (.int .i64 (.int .i64 (.nil))))))), .row true (.int .i64 (.int .i64 (.int .i64 (.int .i64 (.int .i64 (.int .i64 (.nil)))))))] [.b y1, .i y2.1, .i y2.2.1, .i y2.2.2.1, .i y2.2.2.2.1, .i y2.2.2.2.2.1, .i y2.2.2.2.2.2.1, .q (.int .i64 (.int .i64 (.int .i64 (.int .i64 (.int .i64 (.int .i64 (.nil))))))) y3, .q (.int .i64 (.int .i64 (.int .i64 (.int .i64 (.int .i64 (.int .i64 (.nil))))))) y4])) (fun (l3 : Seq Z2) (done4 : Bool) (i5 : Int) (x6 : Int × Int × Int × Int × Int × Int × Unit) (q7 : Seq Z2) (q8 : Seq Z2) => draymanref31_with_l0_run draymanref31_ahead (fun y1 y2 y3 y4 => k (.exit 0) (encSt [.dead, .dead, .dead, .ref 0 0, .dead, .own 2, .bool, .dead, .dead, .dead, .dead, .dead, .dead, .dead, .dead, .dead, .dead, .dead, .dead, .dead, .dead, .dead, .dead, .dead, .dead, .dead, .dead, .dead, .dead, .dead, .dead, .dead, .dead, .dead, .dead, .dead, .dead, .dead, .dead, .dead, .dead, .dead, .dead, .dead, .dead, .dead, .dead, .dead, .dead, .dead, .dead, .dead, .dead, .dead, .dead, .dead, .dead] [] [.box [.int .i64, .int .i64, .int .i64, .int .i64, .int .i64, .int .i64], .row true (.int .i64 (.int .i64 (.int .i64 (.int .i64 (.int .i64 (.int .i64 (.nil))))))), .row true (.int .i64 (.int .i64 (.int .i64 (.int .i64 (.int .i64 (.int .i64 (.nil)))))))] [.b y1, .i y2.1, .i y2.2.1, .i y2.2.2.1, .i y2.2.2.2.1, .i y2.2.2.2.2.1, .i y2.2.2.2.2.2.1, .q (.int .i64 (.int .i64 (.int .i64 (.int .i64 (.int .i64 (.int .i64 (.nil))))))) y3, .q (.int .i64 (.int .i64 (.int .i64 (.int .i64 (.int .i64 (.int .i64 (.nil))))))) y4])) n l3 done4 i5 x6 q7 q8) l3 done4 i5 x6 q7 q8 = draymanref31_with_l0_run draymanref31_ahead (fun y1 y2 y3 y4 => k (.exit 0) (encSt [.dead, .dead, .dead, .ref 0 0, .dead, .own 2, .bool, .dead, .dead, .dead, .dead, .dead, .dead, .dead, .dead, .dead, .dead, .dead, .dead, .dead, .dead, .dead, .dead, .dead, .dead, .dead, .dead, .dead, .dead, .dead, .dead, .dead, .dead, .dead, .dead, .dead, .dead, .dead, .dead, .dead, .dead, .dead, .dead, .dead, .dead, .dead, .dead, .dead, .dead, .dead, .dead, .dead, .dead, .dead, .dead, .dead, .dead] [] [.box [.int .i64, .int .i64, .int .i64, .int .i64, .int .i64, .int .i64], .row true (.int .i64 (.int .i64 (.int .i64 (.int .i64 (.int .i64 (.int .i64 (.nil))))))), .row true (.int .i64 (.int .i64 (.int .i64 (.int .i64 (.int .i64 (.int .i64 (.nil)))))))] [.b y1, .i y2.1, .i y2.2.1, .i y2.2.2.1, .i y2.2.2.2.1, .i y2.2.2.2.2.1, .i y2.2.2.2.2.2.1, .q (.int .i64 (.int .i64 (.int .i64 (.int .i64 (.int .i64 (.int .i64 (.nil))))))) y3, .q (.int .i64 (.int .i64 (.int .i64 (.int .i64 (.int .i64 (.int .i64 (.nil))))))) y4])) (n + 1) l3 done4 i5 x6 q7 q8 := by kernel_rfl
    exact h1.trans (h2.trans h3)

theorem draymanref31_with_l0_ok {α : Type} (draymanref31_ahead : draymanref31_ahead_T α) : (draymanref31_with_l0_spec draymanref31_ahead : LoopSpec α).ok Go.Proofs.Try.prog (envOf (draymanref31_with_C draymanref31_ahead) draymanref31_with_q draymanref31_with_inl 1000 draymanref31_with_ann false (draymanref31_with_loops draymanref31_ahead) (fun _ => none)) := by
  intro ds k
  have h1 : draymanref31_with_l0_ev draymanref31_ahead 1000 (encSt draymanref31_with_l0_t draymanref31_with_l0_s draymanref31_with_l0_h ds) k = draymanref31_with_l0_ev draymanref31_ahead 1000 (encSt draymanref31_with_l0_t draymanref31_with_l0_s draymanref31_with_l0_h [.q (.int .i64 (.int .i64 (.int .i64 (.int .i64 (.int .i64 (.int .i64 (.nil))))))) (hdQ (.int .i64 (.int .i64 (.int .i64 (.int .i64 (.int .i64 (.int .i64 (.nil))))))) ds), .b (hdB ds.tail), .i (hdI ds.tail.tail), .i ((hdI ds.tail.tail.tail, hdI ds.tail.tail.tail.tail, hdI ds.tail.tail.tail.tail.tail, hdI ds.tail.tail.tail.tail.tail.tail, hdI ds.tail.tail.tail.tail.tail.tail.tail, hdI ds.tail.tail.tail.tail.tail.tail.tail.tail, ()).1), .i ((hdI ds.tail.tail.tail, hdI ds.tail.tail.tail.tail, hdI ds.tail.tail.tail.tail.tail, hdI ds.tail.tail.tail.tail.tail.tail, hdI ds.tail.tail.tail.tail.tail.tail.tail, hdI ds.tail.tail.tail.tail.tail.tail.tail.tail, ()).2.1), .i ((hdI ds.tail.tail.tail, hdI ds.tail.tail.tail.tail, hdI ds.tail.tail.tail.tail.tail, hdI ds.tail.tail.tail.tail.tail.tail, hdI ds.tail.tail.tail.tail.tail.tail.tail, hdI ds.tail.tail.tail.tail.tail.tail.tail.tail, ()).2.2.1), .i ((hdI ds.tail.tail.tail, hdI ds.tail.tail.tail.tail, hdI ds.tail.tail.tail.tail.tail, hdI ds.tail.tail.tail.tail.tail.tail, hdI ds.tail.tail.tail.tail.tail.tail.tail, hdI ds.tail.tail.tail.tail.tail.tail.tail.tail, ()).2.2.2.1), .i ((hdI ds.tail.tail.tail, hdI ds.tail.tail.tail.tail, hdI ds.tail.tail.tail.tail.tail, hdI ds.tail.tail.tail.tail.tail.tail, hdI ds.tail.tail.tail.tail.tail.tail.tail, hdI ds.tail.tail.tail.tail.tail.tail.tail.tail, ()).2.2.2.2.1), .i ((hdI ds.tail.tail.tail, hdI ds.tail.tail.tail.tail, hdI ds.tail.tail.tail.tail.tail, hdI ds.tail.tail.tail.tail.tail.tail, hdI ds.tail.tail.tail.tail.tail.tail.tail, hdI ds.tail.tail.tail.tail.tail.tail.tail.tail, ()).2.2.2.2.2.1), .q (.int .i64 (.int .i64 (.int .i64 (.int .i64 (.int .i64 (.int .i64 (.nil))))))) (hdQ (.int .i64 (.int .i64 (.int .i64 (.int .i64 (.int .i64 (.int .i64 (.nil))))))) ds.tail.tail.tail.tail.tail.tail.tail.tail.tail), .q (.int .i64 (.int .i64 (.int .i64 (.int .i64 (.int .i64 (.int .i64 (.nil))))))) (hdQ (.int .i64 (.int .i64 (.int .i64 (.int .i64 (.int .i64 (.int .i64 (.nil))))))) ds.tail.tail.tail.tail.tail.tail.tail.tail.tail.tail)]) k := by kernel_rfl
  have h2 := draymanref31_with_l0_eq draymanref31_ahead 1000 (hdQ (.int .i64 (.int .i64 (.int .i64 (.int .i64 (.int .i64 (.int .i64 (.nil))))))) ds) (hdB ds.tail) (hdI ds.tail.tail) (hdI ds.tail.tail.tail, hdI ds.tail.tail.tail.tail, hdI ds.tail.tail.tail.tail.tail, hdI ds.tail.tail.tail.tail.tail.tail, hdI ds.tail.tail.tail.tail.tail.tail.tail, hdI ds.tail.tail.tail.tail.tail.tail.tail.tail, ()) (hdQ (.int .i64 (.int .i64 (.int .i64 (.int .i64 (.int .i64 (.int .i64 (.nil))))))) ds.tail.tail.tail.tail.tail.tail.tail.tail.tail) (hdQ (.int .i64 (.int .i64 (.int .i64 (.int .i64 (.int .i64 (.int .i64 (.nil))))))) ds.tail.tail.tail.tail.tail.tail.tail.tail.tail.tail) k
  exact h1.trans h2

theorem draymanref31_with_ev {α : Type} (draymanref31_ahead : draymanref31_ahead_T α) : EvOk (α := α) Go.Proofs.Try.prog (envOf (draymanref31_with_C draymanref31_ahead) draymanref31_with_q draymanref31_with_inl 1000 draymanref31_with_ann false (draymanref31_with_loops draymanref31_ahead) (fun _ => none)) 6 (draymanref31_with_sp (draymanref31_with_g draymanref31_ahead)) := by intro ds k; kernel_rfl

theorem draymanref31_with_ok {α : Type} : (draymanref31_with_spec : FunSpec α).ok Go.Proofs.Try.prog :=
  FunSpec.ok_of (sp := draymanref31_with_spec) (C := draymanref31_with_C draymanref31_ahead) (q := draymanref31_with_q) (inl := draymanref31_with_inl) (N := 1000) (ann := draymanref31_with_ann) (fr := false) (D := 6) (l := (draymanref31_with_loops draymanref31_ahead)) (hk := (fun _ => none)) (okCons draymanref31_ahead_ok okNil) (lokCons (draymanref31_with_l0_ok draymanref31_ahead) lokNil) noHooks (draymanref31_with_ev draymanref31_ahead)

end
end Go.Rv.Try

set_option linter.unusedVariables false
set_option maxRecDepth 100000
set_option maxHeartbeats 4000000
namespace Go.Rv.Try
open Go Go.Rv Go.RowKit
noncomputable section

-- drayman/draymanref31.back

abbrev draymanref31_back_T (α : Type) : Type := (Seq Z2) → Z2 → Bool → Z1 → Int → ((Seq Z2) → Int → Bool → Option α) → Option α

noncomputable def draymanref31_back_g {α : Type} (draymanref31_with : draymanref31_with_T α) (l1 : Seq Z2) (x2 : Int × Int × Int × Int × Int × Int × Unit) (is3 : Bool) (x4 : Int × Int × Int × Bool × Int × Int × Bool × Unit) (verdict5 : Int) (k : (Seq Z2) → Int → Bool → Option α) : Option α :=
  (cond is3
    (cond (x2.2.2.1 != 2)
      (k l1 1 false)
      (cond (verdict5 != 1)
        (k l1 2 false)
        (cond is3
          (draymanref31_with l1 (x2.1, x2.2.1, 4, x2.2.2.2.1, 1, x2.2.2.2.2.2.1, ()) fun r6 =>
            (k r6 1 true))
          (draymanref31_with l1 (x4.2.1, x4.2.2.1, 3, 0, 0, x4.2.2.2.2.2.1, ()) fun r7 =>
            (k r7 1 false)))))
    (cond (verdict5 != 1)
      (k l1 2 false)
      (cond is3
        (draymanref31_with l1 (x2.1, x2.2.1, 4, x2.2.2.2.1, 1, x2.2.2.2.2.2.1, ()) fun r8 =>
          (k r8 1 true))
        (draymanref31_with l1 (x4.2.1, x4.2.2.1, 3, 0, 0, x4.2.2.2.2.2.1, ()) fun r9 =>
          (k r9 1 false)))))

noncomputable def draymanref31_back {α : Type} : draymanref31_back_T α := draymanref31_back_g draymanref31_with

noncomputable def draymanref31_back_sp {α : Type} (draymanref31_back : draymanref31_back_T α) : FunSpec α := ⟨115, [.sl (.int .i64 (.int .i64 (.int .i64 (.int .i64 (.int .i64 (.int .i64 (.nil))))))), .agg [.int .i64, .int .i64, .int .i64, .int .i64, .int .i64, .int .i64], .bool, .agg [.int .i64, .int .i64, .int .i64, .bool, .int .i64, .int .i64, .bool], .int .i64], [], fun ds k => draymanref31_back (hdQ (.int .i64 (.int .i64 (.int .i64 (.int .i64 (.int .i64 (.int .i64 (.nil))))))) ds) (hdI ds.tail, hdI ds.tail.tail, hdI ds.tail.tail.tail, hdI ds.tail.tail.tail.tail, hdI ds.tail.tail.tail.tail.tail, hdI ds.tail.tail.tail.tail.tail.tail, ()) (hdB ds.tail.tail.tail.tail.tail.tail.tail) (hdI ds.tail.tail.tail.tail.tail.tail.tail.tail, hdI ds.tail.tail.tail.tail.tail.tail.tail.tail.tail, hdI ds.tail.tail.tail.tail.tail.tail.tail.tail.tail.tail, hdB ds.tail.tail.tail.tail.tail.tail.tail.tail.tail.tail.tail, hdI ds.tail.tail.tail.tail.tail.tail.tail.tail.tail.tail.tail.tail, hdI ds.tail.tail.tail.tail.tail.tail.tail.tail.tail.tail.tail.tail.tail, hdB ds.tail.tail.tail.tail.tail.tail.tail.tail.tail.tail.tail.tail.tail.tail, ()) (hdI ds.tail.tail.tail.tail.tail.tail.tail.tail.tail.tail.tail.tail.tail.tail.tail) (fun r1 r2 r3 => k (enc dep (.tup [.sl (.int .i64 (.int .i64 (.int .i64 (.int .i64 (.int .i64 (.int .i64 (.nil))))))), .int .i64, .bool]) [.q (.int .i64 (.int .i64 (.int .i64 (.int .i64 (.int .i64 (.int .i64 (.nil))))))) r1, .i r2, .b r3]).1 [])⟩

noncomputable def draymanref31_back_spec {α : Type} : FunSpec α := draymanref31_back_sp draymanref31_back

noncomputable def draymanref31_back_C {α : Type} (draymanref31_with : draymanref31_with_T α) : List (FunSpec α) := [draymanref31_with_sp draymanref31_with]

noncomputable def draymanref31_back_q : FuncId → Bool := fun f => false

noncomputable def draymanref31_back_inl : FuncId → Bool := fun f => false

noncomputable def draymanref31_back_ann : FuncId → AnnT := fun f p => ⟨[], [], [], [], 0, [], []⟩

noncomputable def draymanref31_back_loops {α : Type} (draymanref31_with : draymanref31_with_T α) : List (LoopSpec α) := []

theorem draymanref31_back_ev {α : Type} (draymanref31_with : draymanref31_with_T α) : EvOk (α := α) Go.Proofs.Try.prog (envOf (draymanref31_back_C draymanref31_with) draymanref31_back_q draymanref31_back_inl 1000 draymanref31_back_ann true (draymanref31_back_loops draymanref31_with) (fun _ => none)) 6 (draymanref31_back_sp (draymanref31_back_g draymanref31_with)) := by intro ds k; kernel_rfl

theorem draymanref31_back_ok {α : Type} : (draymanref31_back_spec : FunSpec α).ok Go.Proofs.Try.prog :=
  FunSpec.ok_of (sp := draymanref31_back_spec) (C := draymanref31_back_C draymanref31_with) (q := draymanref31_back_q) (inl := draymanref31_back_inl) (N := 1000) (ann := draymanref31_back_ann) (fr := true) (D := 6) (l := (draymanref31_back_loops draymanref31_with)) (hk := (fun _ => none)) (okCons draymanref31_with_ok okNil) lokNil noHooks (draymanref31_back_ev draymanref31_with)

end
end Go.Rv.Try

set_option linter.unusedVariables false
set_option maxRecDepth 100000
set_option maxHeartbeats 4000000
namespace Go.Rv.Try
open Go Go.Rv Go.RowKit
noncomputable section

-- drayman/draymanref31.there

abbrev draymanref31_there_T (α : Type) : Type := (Seq Z2) → Z2 → Bool → Z1 → Int → ((Seq Z2) → Int → Bool → Option α) → Option α

noncomputable def draymanref31_there_g {α : Type} (draymanref31_with : draymanref31_with_T α) (l1 : Seq Z2) (x2 : Int × Int × Int × Int × Int × Int × Unit) (is3 : Bool) (x4 : Int × Int × Int × Bool × Int × Int × Bool × Unit) (verdict5 : Int) (k : (Seq Z2) → Int → Bool → Option α) : Option α :=
  (cond is3
    (cond (x2.2.2.1 == 2)
      (k l1 1 false)
      (cond is3
        (k l1 3 false)
        (cond (verdict5 == 1)
          (draymanref31_with l1 (x4.2.1, x4.2.2.1, 2, 1, 0, x4.2.2.2.2.2.1, ()) fun r6 =>
            (k r6 1 true))
          (cond (verdict5 == 3)
            (cond (!x4.2.2.2.2.2.2.1)
              (draymanref31_with l1 (x4.2.1, x4.2.2.1, 5, 0, 0, x4.2.2.2.2.2.1, ()) fun r7 =>
                (k r7 3 false))
              (k l1 2 false))
            (k l1 2 false)))))
    (cond is3
      (k l1 3 false)
      (cond (verdict5 == 1)
        (draymanref31_with l1 (x4.2.1, x4.2.2.1, 2, 1, 0, x4.2.2.2.2.2.1, ()) fun r8 =>
          (k r8 1 true))
        (cond (verdict5 == 3)
          (cond (!x4.2.2.2.2.2.2.1)
            (draymanref31_with l1 (x4.2.1, x4.2.2.1, 5, 0, 0, x4.2.2.2.2.2.1, ()) fun r9 =>
              (k r9 3 false))
            (k l1 2 false))
          (k l1 2 false)))))

noncomputable def draymanref31_there {α : Type} : draymanref31_there_T α := draymanref31_there_g draymanref31_with

noncomputable def draymanref31_there_sp {α : Type} (draymanref31_there : draymanref31_there_T α) : FunSpec α := ⟨116, [.sl (.int .i64 (.int .i64 (.int .i64 (.int .i64 (.int .i64 (.int .i64 (.nil))))))), .agg [.int .i64, .int .i64, .int .i64, .int .i64, .int .i64, .int .i64], .bool, .agg [.int .i64, .int .i64, .int .i64, .bool, .int .i64, .int .i64, .bool], .int .i64], [], fun ds k => draymanref31_there (hdQ (.int .i64 (.int .i64 (.int .i64 (.int .i64 (.int .i64 (.int .i64 (.nil))))))) ds) (hdI ds.tail, hdI ds.tail.tail, hdI ds.tail.tail.tail, hdI ds.tail.tail.tail.tail, hdI ds.tail.tail.tail.tail.tail, hdI ds.tail.tail.tail.tail.tail.tail, ()) (hdB ds.tail.tail.tail.tail.tail.tail.tail) (hdI ds.tail.tail.tail.tail.tail.tail.tail.tail, hdI ds.tail.tail.tail.tail.tail.tail.tail.tail.tail, hdI ds.tail.tail.tail.tail.tail.tail.tail.tail.tail.tail, hdB ds.tail.tail.tail.tail.tail.tail.tail.tail.tail.tail.tail, hdI ds.tail.tail.tail.tail.tail.tail.tail.tail.tail.tail.tail.tail, hdI ds.tail.tail.tail.tail.tail.tail.tail.tail.tail.tail.tail.tail.tail, hdB ds.tail.tail.tail.tail.tail.tail.tail.tail.tail.tail.tail.tail.tail.tail, ()) (hdI ds.tail.tail.tail.tail.tail.tail.tail.tail.tail.tail.tail.tail.tail.tail.tail) (fun r1 r2 r3 => k (enc dep (.tup [.sl (.int .i64 (.int .i64 (.int .i64 (.int .i64 (.int .i64 (.int .i64 (.nil))))))), .int .i64, .bool]) [.q (.int .i64 (.int .i64 (.int .i64 (.int .i64 (.int .i64 (.int .i64 (.nil))))))) r1, .i r2, .b r3]).1 [])⟩

noncomputable def draymanref31_there_spec {α : Type} : FunSpec α := draymanref31_there_sp draymanref31_there

noncomputable def draymanref31_there_C {α : Type} (draymanref31_with : draymanref31_with_T α) : List (FunSpec α) := [draymanref31_with_sp draymanref31_with]

noncomputable def draymanref31_there_q : FuncId → Bool := fun f => false

noncomputable def draymanref31_there_inl : FuncId → Bool := fun f => false

noncomputable def draymanref31_there_ann : FuncId → AnnT := fun f p => ⟨[], [], [], [], 0, [], []⟩

noncomputable def draymanref31_there_loops {α : Type} (draymanref31_with : draymanref31_with_T α) : List (LoopSpec α) := []

theorem draymanref31_there_ev {α : Type} (draymanref31_with : draymanref31_with_T α) : EvOk (α := α) Go.Proofs.Try.prog (envOf (draymanref31_there_C draymanref31_with) draymanref31_there_q draymanref31_there_inl 1000 draymanref31_there_ann true (draymanref31_there_loops draymanref31_with) (fun _ => none)) 6 (draymanref31_there_sp (draymanref31_there_g draymanref31_with)) := by intro ds k; kernel_rfl

theorem draymanref31_there_ok {α : Type} : (draymanref31_there_spec : FunSpec α).ok Go.Proofs.Try.prog :=
  FunSpec.ok_of (sp := draymanref31_there_spec) (C := draymanref31_there_C draymanref31_with) (q := draymanref31_there_q) (inl := draymanref31_there_inl) (N := 1000) (ann := draymanref31_there_ann) (fr := true) (D := 6) (l := (draymanref31_there_loops draymanref31_with)) (hk := (fun _ => none)) (okCons draymanref31_with_ok okNil) lokNil noHooks (draymanref31_there_ev draymanref31_with)

end
end Go.Rv.Try

set_option linter.unusedVariables false
set_option maxRecDepth 100000
set_option maxHeartbeats 4000000
namespace Go.Rv.Try
open Go Go.Rv Go.RowKit
noncomputable section

-- drayman/draymanref31.Come

abbrev draymanref31_Come_T (α : Type) : Type := (Seq Z2) → Z1 → Int → ((Seq Z2) → Int → Bool → Int → Option α) → Option α

noncomputable def draymanref31_Come_g {α : Type} (draymanref31_Fit : draymanref31_Fit_T α) (draymanref17_One : draymanref17_One_T α) (draymanref31_Find : draymanref31_Find_T α) (draymanref31_back : draymanref31_back_T α) (draymanref31_there : draymanref31_there_T α) (x1 : Seq Z2) (x2 : Int × Int × Int × Bool × Int × Int × Bool × Unit) (x3 : Int) (k : (Seq Z2) → Int → Bool → Int → Option α) : Option α :=
  (draymanref31_Fit x1 fun r4 =>
    (cond (!r4)
      (k (⟨true, 0, (fun _ => (0, 0, 0, 0, 0, 0, ()))⟩ : Seq Z2) 0 false 12)
      (draymanref17_One x2 fun r5 =>
        (cond (!(!r5))
          (cond (!(decide (x3 < 1)))
            (cond (decide (x3 > 3))
              (k (⟨true, 0, (fun _ => (0, 0, 0, 0, 0, 0, ()))⟩ : Seq Z2) 0 false 1)
              (draymanref31_Find x1 x2.2.1 x2.2.2.1 fun r6 r7 =>
                (cond x2.2.2.2.1
                  (draymanref31_back x1 r6 r7 x2 x3 fun r8 r9 r10 =>
                    (k r8 r9 r10 0))
                  (draymanref31_there x1 r6 r7 x2 x3 fun r11 r12 r13 =>
                    (k r11 r12 r13 0)))))
            (k (⟨true, 0, (fun _ => (0, 0, 0, 0, 0, 0, ()))⟩ : Seq Z2) 0 false 1))
          (k (⟨true, 0, (fun _ => (0, 0, 0, 0, 0, 0, ()))⟩ : Seq Z2) 0 false 1)))))

noncomputable def draymanref31_Come {α : Type} : draymanref31_Come_T α := draymanref31_Come_g draymanref31_Fit draymanref17_One draymanref31_Find draymanref31_back draymanref31_there

noncomputable def draymanref31_Come_sp {α : Type} (draymanref31_Come : draymanref31_Come_T α) : FunSpec α := ⟨72, [.sl (.int .i64 (.int .i64 (.int .i64 (.int .i64 (.int .i64 (.int .i64 (.nil))))))), .agg [.int .i64, .int .i64, .int .i64, .bool, .int .i64, .int .i64, .bool], .int .i64], [], fun ds k => draymanref31_Come (hdQ (.int .i64 (.int .i64 (.int .i64 (.int .i64 (.int .i64 (.int .i64 (.nil))))))) ds) (hdI ds.tail, hdI ds.tail.tail, hdI ds.tail.tail.tail, hdB ds.tail.tail.tail.tail, hdI ds.tail.tail.tail.tail.tail, hdI ds.tail.tail.tail.tail.tail.tail, hdB ds.tail.tail.tail.tail.tail.tail.tail, ()) (hdI ds.tail.tail.tail.tail.tail.tail.tail.tail) (fun r1 r2 r3 r4 => k (enc dep (.tup [.sl (.int .i64 (.int .i64 (.int .i64 (.int .i64 (.int .i64 (.int .i64 (.nil))))))), .int .i64, .bool, .int .i64]) [.q (.int .i64 (.int .i64 (.int .i64 (.int .i64 (.int .i64 (.int .i64 (.nil))))))) r1, .i r2, .b r3, .i r4]).1 [])⟩

noncomputable def draymanref31_Come_spec {α : Type} : FunSpec α := draymanref31_Come_sp draymanref31_Come

noncomputable def draymanref31_Come_C {α : Type} (draymanref31_Fit : draymanref31_Fit_T α) (draymanref17_One : draymanref17_One_T α) (draymanref31_Find : draymanref31_Find_T α) (draymanref31_back : draymanref31_back_T α) (draymanref31_there : draymanref31_there_T α) : List (FunSpec α) := [draymanref31_Fit_sp draymanref31_Fit, draymanref17_One_sp draymanref17_One, draymanref31_Find_sp draymanref31_Find, draymanref31_back_sp draymanref31_back, draymanref31_there_sp draymanref31_there]

noncomputable def draymanref31_Come_q : FuncId → Bool := fun f => Nat.beq f 74 || Nat.beq f 78 || Nat.beq f 104

noncomputable def draymanref31_Come_inl : FuncId → Bool := fun f => false

noncomputable def draymanref31_Come_ann : FuncId → AnnT := fun f p => ⟨[], [], [], [], 0, [], []⟩

noncomputable def draymanref31_Come_loops {α : Type} (draymanref31_Fit : draymanref31_Fit_T α) (draymanref17_One : draymanref17_One_T α) (draymanref31_Find : draymanref31_Find_T α) (draymanref31_back : draymanref31_back_T α) (draymanref31_there : draymanref31_there_T α) : List (LoopSpec α) := []

theorem draymanref31_Come_ev {α : Type} (draymanref31_Fit : draymanref31_Fit_T α) (draymanref17_One : draymanref17_One_T α) (draymanref31_Find : draymanref31_Find_T α) (draymanref31_back : draymanref31_back_T α) (draymanref31_there : draymanref31_there_T α) : EvOk (α := α) Go.Proofs.Try.prog (envOf (draymanref31_Come_C draymanref31_Fit draymanref17_One draymanref31_Find draymanref31_back draymanref31_there) draymanref31_Come_q draymanref31_Come_inl 1000 draymanref31_Come_ann true (draymanref31_Come_loops draymanref31_Fit draymanref17_One draymanref31_Find draymanref31_back draymanref31_there) (fun _ => none)) 6 (draymanref31_Come_sp (draymanref31_Come_g draymanref31_Fit draymanref17_One draymanref31_Find draymanref31_back draymanref31_there)) := by intro ds k; kernel_rfl

theorem draymanref31_Come_ok {α : Type} : (draymanref31_Come_spec : FunSpec α).ok Go.Proofs.Try.prog :=
  FunSpec.ok_of (sp := draymanref31_Come_spec) (C := draymanref31_Come_C draymanref31_Fit draymanref17_One draymanref31_Find draymanref31_back draymanref31_there) (q := draymanref31_Come_q) (inl := draymanref31_Come_inl) (N := 1000) (ann := draymanref31_Come_ann) (fr := true) (D := 6) (l := (draymanref31_Come_loops draymanref31_Fit draymanref17_One draymanref31_Find draymanref31_back draymanref31_there)) (hk := (fun _ => none)) (okCons draymanref31_Fit_ok (okCons draymanref17_One_ok (okCons draymanref31_Find_ok (okCons draymanref31_back_ok (okCons draymanref31_there_ok okNil))))) lokNil noHooks (draymanref31_Come_ev draymanref31_Fit draymanref17_One draymanref31_Find draymanref31_back draymanref31_there)

end
end Go.Rv.Try

set_option linter.unusedVariables false
set_option maxRecDepth 100000
set_option maxHeartbeats 4000000
namespace Go.Rv.Try
open Go Go.Rv Go.RowKit
noncomputable section

-- drayman/draymanref31.Effects

abbrev draymanref31_Effects_T (α : Type) : Type := (Seq Z2) → (Int → Int → Option α) → Option α

noncomputable def draymanref31_Effects_l0_step {α : Type} (draymanref31_Fit : draymanref31_Fit_T α) (k0 : (Int) → (Int) → Option α) (rec : (Seq Z2) → (Int) → (Int) → (Int) → Option α) (l2 : Seq Z2) (n3 : Int) (m4 : Int) (i5 : Int) : Option α :=
  (cond (decide (i5 < (l2.n : Int)))
    (draymanref31_Fit l2 fun r6 =>
      (cond r6
        (cond ((decide ((0 : Int) ≤ i5)) && (decide (i5 < (l2.n : Int))))
          (cond ((decide ((0 : Int) ≤ i5)) && (decide (i5 < (l2.n : Int))))
            (rec l2 (IntKind.i64.wrap (n3 + (l2.g i5.toNat).2.2.2.1)) (IntKind.i64.wrap (m4 + (l2.g i5.toNat).2.2.2.2.1)) (IntKind.i64.wrap (i5 + 1)))
            none)
          none)
        (k0 n3 m4)))
    (k0 n3 m4))

noncomputable def draymanref31_Effects_l0_run {α : Type} (draymanref31_Fit : draymanref31_Fit_T α) (k0 : (Int) → (Int) → Option α) : Nat → (Seq Z2) → (Int) → (Int) → (Int) → Option α
  | 0, _, _, _, _ => none
  | n + 1, l2, n3, m4, i5 => draymanref31_Effects_l0_step draymanref31_Fit k0 (fun l2 n3 m4 i5 => draymanref31_Effects_l0_run draymanref31_Fit k0 n l2 n3 m4 i5) l2 n3 m4 i5

noncomputable def draymanref31_Effects_g {α : Type} (draymanref31_Fit : draymanref31_Fit_T α) (l1 : Seq Z2) (k : Int → Int → Option α) : Option α :=
  (draymanref31_Effects_l0_run draymanref31_Fit
    (fun x7 x8 =>
      (k x7 x8))
    1000 l1 0 0 0)

noncomputable def draymanref31_Effects {α : Type} : draymanref31_Effects_T α := draymanref31_Effects_g draymanref31_Fit

noncomputable def draymanref31_Effects_sp {α : Type} (draymanref31_Effects : draymanref31_Effects_T α) : FunSpec α := ⟨76, [.sl (.int .i64 (.int .i64 (.int .i64 (.int .i64 (.int .i64 (.int .i64 (.nil)))))))], [], fun ds k => draymanref31_Effects (hdQ (.int .i64 (.int .i64 (.int .i64 (.int .i64 (.int .i64 (.int .i64 (.nil))))))) ds) (fun r1 r2 => k (enc dep (.tup [.int .i64, .int .i64]) [.i r1, .i r2]).1 [])⟩

noncomputable def draymanref31_Effects_spec {α : Type} : FunSpec α := draymanref31_Effects_sp draymanref31_Effects

noncomputable def draymanref31_Effects_C {α : Type} (draymanref31_Fit : draymanref31_Fit_T α) : List (FunSpec α) := [draymanref31_Fit_sp draymanref31_Fit]

noncomputable def draymanref31_Effects_q : FuncId → Bool := fun f => Nat.beq f 78

noncomputable def draymanref31_Effects_inl : FuncId → Bool := fun f => false

noncomputable def draymanref31_Effects_ann : FuncId → AnnT := fun f p => if f = 76 then (if p = [true, false, true, true] then ⟨[0, 4, 5, 6], [], [4, 5], [2, 3], 0, [], []⟩ else ⟨[], [], [], [], 0, [], []⟩) else ⟨[], [], [], [], 0, [], []⟩

noncomputable def draymanref31_Effects_l0_t : List Sh := [.sl (.int .i64 (.int .i64 (.int .i64 (.int .i64 (.int .i64 (.int .i64 (.nil))))))), .dead, .dead, .dead, .int .i64, .int .i64, .int .i64, .dead, .dead, .dead, .dead, .dead, .dead, .dead, .dead, .dead, .dead, .dead, .dead, .dead, .dead, .dead, .dead, .dead, .dead, .dead, .dead, .dead, .dead, .dead, .dead, .dead, .dead]
noncomputable def draymanref31_Effects_l0_s : List (List Sh) := []
noncomputable def draymanref31_Effects_l0_h : List BSh := []

noncomputable def draymanref31_Effects_l0_spec {α : Type} (draymanref31_Fit : draymanref31_Fit_T α) : LoopSpec α := ⟨6, 76, [true, false, true, true], draymanref31_Effects_l0_t, draymanref31_Effects_l0_s, draymanref31_Effects_l0_h, fun ds k => draymanref31_Effects_l0_run draymanref31_Fit (fun y1 y2 => k (.exit 0) (encSt [.dead, .dead, .dead, .dead, .int .i64, .int .i64, .dead, .dead, .dead, .dead, .dead, .dead, .dead, .dead, .dead, .dead, .dead, .dead, .dead, .dead, .dead, .dead, .dead, .dead, .dead, .dead, .dead, .dead, .dead, .dead, .dead, .dead, .dead] [] [] [.i y1, .i y2])) 1000 (hdQ (.int .i64 (.int .i64 (.int .i64 (.int .i64 (.int .i64 (.int .i64 (.nil))))))) ds) (hdI ds.tail) (hdI ds.tail.tail) (hdI ds.tail.tail.tail)⟩

noncomputable def draymanref31_Effects_loops {α : Type} (draymanref31_Fit : draymanref31_Fit_T α) : List (LoopSpec α) := [draymanref31_Effects_l0_spec draymanref31_Fit]

noncomputable def draymanref31_Effects_l0_ev {α : Type} (draymanref31_Fit : draymanref31_Fit_T α) (n : Nat) (st : St) (k : X → St → Option α) : Option α := loopN (evCode Go.Proofs.Try.prog (callD Go.Proofs.Try.prog (envOf (draymanref31_Effects_C draymanref31_Fit) draymanref31_Effects_q draymanref31_Effects_inl 1000 draymanref31_Effects_ann false (draymanref31_Effects_loops draymanref31_Fit) (fun _ => none)) 6) (((envOf (draymanref31_Effects_C draymanref31_Fit) draymanref31_Effects_q draymanref31_Effects_inl 1000 draymanref31_Effects_ann false (draymanref31_Effects_loops draymanref31_Fit) (fun _ => none)) : Env α).L 6 76) 1000 (draymanref31_Effects_ann 76) (false :: [true, false, true, true]) (loopC Go.Proofs.Try.prog 76 [true, false, true, true])) ((draymanref31_Effects_ann 76 [true, false, true, true]).head 0) ((draymanref31_Effects_ann 76 [true, false, true, true]).leave 0) n st k

theorem draymanref31_Effects_l0_eq {α : Type} (draymanref31_Fit : draymanref31_Fit_T α) : ∀ (n : Nat) (l2 : Seq Z2) (n3 : Int) (m4 : Int) (i5 : Int) (k : X → St → Option α), draymanref31_Effects_l0_ev draymanref31_Fit n (encSt draymanref31_Effects_l0_t draymanref31_Effects_l0_s draymanref31_Effects_l0_h [.q (.int .i64 (.int .i64 (.int .i64 (.int .i64 (.int .i64 (.int .i64 (.nil))))))) l2, .i n3, .i m4, .i i5]) k = draymanref31_Effects_l0_run draymanref31_Fit (fun y1 y2 => k (.exit 0) (encSt [.dead, .dead, .dead, .dead, .int .i64, .int .i64, .dead, .dead, .dead, .dead, .dead, .dead, .dead, .dead, .dead, .dead, .dead, .dead, .dead, .dead, .dead, .dead, .dead, .dead, .dead, .dead, .dead, .dead, .dead, .dead, .dead, .dead, .dead] [] [] [.i y1, .i y2])) n l2 n3 m4 i5 := by
  intro n
  induction n with
  | zero => intros; kernel_rfl
  | succ n ih =>
    intro l2 n3 m4 i5 k
    have e : (fun (l2 : Seq Z2) (n3 : Int) (m4 : Int) (i5 : Int) => draymanref31_Effects_l0_ev draymanref31_Fit n (encSt draymanref31_Effects_l0_t draymanref31_Effects_l0_s draymanref31_Effects_l0_h [.q (.int .i64 (.int .i64 (.int .i64 (.int .i64 (.int .i64 (.int .i64 (.nil))))))) l2, .i n3, .i m4, .i i5]) k) = (fun (l2 : Seq Z2) (n3 : Int) (m4 : Int) (i5 : Int) => draymanref31_Effects_l0_run draymanref31_Fit (fun y1 y2 => k (.exit 0) (encSt [.dead, .dead, .dead, .dead, .int .i64, .int .i64, .dead, .dead, .dead, .dead, .dead, .dead, .dead, .dead, .dead, .dead, .dead, .dead, .dead, .dead, .dead, .dead, .dead, .dead, .dead, .dead, .dead, .dead, .dead, .dead, .dead, .dead, .dead] [] [] [.i y1, .i y2])) n l2 n3 m4 i5) := by
      funext l2 n3 m4 i5
      exact ih l2 n3 m4 i5 k
    have h1 : draymanref31_Effects_l0_ev draymanref31_Fit (n + 1) (encSt draymanref31_Effects_l0_t draymanref31_Effects_l0_s draymanref31_Effects_l0_h [.q (.int .i64 (.int .i64 (.int .i64 (.int .i64 (.int .i64 (.int .i64 (.nil))))))) l2, .i n3, .i m4, .i i5]) k = draymanref31_Effects_l0_step draymanref31_Fit (fun y1 y2 => k (.exit 0) (encSt [.dead, .dead, .dead, .dead, .int .i64, .int .i64, .dead, .dead, .dead, .dead, .dead, .dead, .dead, .dead, .dead, .dead, .dead, .dead, .dead, .dead, .dead, .dead, .dead, .dead, .dead, .dead, .dead, .dead, .dead, .dead, .dead, .dead, .dead] [] [] [.i y1, .i y2])) (fun (l2 : Seq Z2) (n3 : Int) (m4 : Int) (i5 : Int) => draymanref31_Effects_l0_ev draymanref31_Fit n (encSt draymanref31_Effects_l0_t draymanref31_Effects_l0_s draymanref31_Effects_l0_h [.q (.int .i64 (.int .i64 (.int .i64 (.int .i64 (.int .i64 (.int .i64 (.nil))))))) l2, .i n3, .i m4, .i i5]) k) l2 n3 m4 i5 := by kernel_rfl
    have h2 := congrArg (fun r => draymanref31_Effects_l0_step draymanref31_Fit (fun y1 y2 => k (.exit 0) (encSt [.dead, .dead, .dead, .dead, .int .i64, .int .i64, .dead, .dead, .dead, .dead, .dead, .dead, .dead, .dead, .dead, .dead, .dead, .dead, .dead, .dead, .dead, .dead, .dead, .dead, .dead, .dead, .dead, .dead, .dead, .dead, .dead, .dead, .dead] [] [] [.i y1, .i y2])) r l2 n3 m4 i5) e
    have h3 : draymanref31_Effects_l0_step draymanref31_Fit (fun y1 y2 => k (.exit 0) (encSt [.dead, .dead, .dead, .dead, .int .i64, .int .i64, .dead, .dead, .dead, .dead, .dead, .dead, .dead, .dead, .dead, .dead, .dead, .dead, .dead, .dead, .dead, .dead, .dead, .dead, .dead, .dead, .dead, .dead, .dead, .dead, .dead, .dead, .dead] [] [] [.i y1, .i y2])) (fun (l2 : Seq Z2) (n3 : Int) (m4 : Int) (i5 : Int) => draymanref31_Effects_l0_run draymanref31_Fit (fun y1 y2 => k (.exit 0) (encSt [.dead, .dead, .dead, .dead, .int .i64, .int .i64, .dead, .dead, .dead, .dead, .dead, .dead, .dead, .dead, .dead, .dead, .dead, .dead, .dead, .dead, .dead, .dead, .dead, .dead, .dead, .dead, .dead, .dead, .dead, .dead, .dead, .dead, .dead] [] [] [.i y1, .i y2])) n l2 n3 m4 i5) l2 n3 m4 i5 = draymanref31_Effects_l0_run draymanref31_Fit (fun y1 y2 => k (.exit 0) (encSt [.dead, .dead, .dead, .dead, .int .i64, .int .i64, .dead, .dead, .dead, .dead, .dead, .dead, .dead, .dead, .dead, .dead, .dead, .dead, .dead, .dead, .dead, .dead, .dead, .dead, .dead, .dead, .dead, .dead, .dead, .dead, .dead, .dead, .dead] [] [] [.i y1, .i y2])) (n + 1) l2 n3 m4 i5 := by kernel_rfl
    exact h1.trans (h2.trans h3)

theorem draymanref31_Effects_l0_ok {α : Type} (draymanref31_Fit : draymanref31_Fit_T α) : (draymanref31_Effects_l0_spec draymanref31_Fit : LoopSpec α).ok Go.Proofs.Try.prog (envOf (draymanref31_Effects_C draymanref31_Fit) draymanref31_Effects_q draymanref31_Effects_inl 1000 draymanref31_Effects_ann false (draymanref31_Effects_loops draymanref31_Fit) (fun _ => none)) := by
  intro ds k
  have h1 : draymanref31_Effects_l0_ev draymanref31_Fit 1000 (encSt draymanref31_Effects_l0_t draymanref31_Effects_l0_s draymanref31_Effects_l0_h ds) k = draymanref31_Effects_l0_ev draymanref31_Fit 1000 (encSt draymanref31_Effects_l0_t draymanref31_Effects_l0_s draymanref31_Effects_l0_h [.q (.int .i64 (.int .i64 (.int .i64 (.int .i64 (.int .i64 (.int .i64 (.nil))))))) (hdQ (.int .i64 (.int .i64 (.int .i64 (.int .i64 (.int .i64 (.int .i64 (.nil))))))) ds), .i (hdI ds.tail), .i (hdI ds.tail.tail), .i (hdI ds.tail.tail.tail)]) k := by kernel_rfl
  have h2 := draymanref31_Effects_l0_eq draymanref31_Fit 1000 (hdQ (.int .i64 (.int .i64 (.int .i64 (.int .i64 (.int .i64 (.int .i64 (.nil))))))) ds) (hdI ds.tail) (hdI ds.tail.tail) (hdI ds.tail.tail.tail) k
  exact h1.trans h2

theorem draymanref31_Effects_ev {α : Type} (draymanref31_Fit : draymanref31_Fit_T α) : EvOk (α := α) Go.Proofs.Try.prog (envOf (draymanref31_Effects_C draymanref31_Fit) draymanref31_Effects_q draymanref31_Effects_inl 1000 draymanref31_Effects_ann false (draymanref31_Effects_loops draymanref31_Fit) (fun _ => none)) 6 (draymanref31_Effects_sp (draymanref31_Effects_g draymanref31_Fit)) := by intro ds k; kernel_rfl

theorem draymanref31_Effects_ok {α : Type} : (draymanref31_Effects_spec : FunSpec α).ok Go.Proofs.Try.prog :=
  FunSpec.ok_of (sp := draymanref31_Effects_spec) (C := draymanref31_Effects_C draymanref31_Fit) (q := draymanref31_Effects_q) (inl := draymanref31_Effects_inl) (N := 1000) (ann := draymanref31_Effects_ann) (fr := false) (D := 6) (l := (draymanref31_Effects_loops draymanref31_Fit)) (hk := (fun _ => none)) (okCons draymanref31_Fit_ok okNil) (lokCons (draymanref31_Effects_l0_ok draymanref31_Fit) lokNil) noHooks (draymanref31_Effects_ev draymanref31_Fit)

end
end Go.Rv.Try

set_option linter.unusedVariables false
set_option maxRecDepth 100000
set_option maxHeartbeats 4000000
namespace Go.Rv.Try
open Go Go.Rv Go.RowKit
noncomputable section

-- drayman/draymanref31.Same

abbrev draymanref31_Same_T (α : Type) : Type := (Seq Z2) → (Seq Z2) → (Bool → Option α) → Option α

noncomputable def draymanref31_Same_l0_step {α : Type} (kr : (Bool) → Option α) (k0 : Option α) (rec : (Seq Z2) → (Seq Z2) → (Int) → Option α) (a3 : Seq Z2) (b4 : Seq Z2) (i5 : Int) : Option α :=
  (cond (decide (i5 < (a3.n : Int)))
    (cond (((decide ((0 : Int) ≤ i5)) && (decide (i5 < (a3.n : Int)))) && ((decide ((0 : Int) ≤ i5)) && (decide (i5 < (a3.n : Int)))))
      (cond (((decide ((0 : Int) ≤ i5)) && (decide (i5 < (b4.n : Int)))) && ((decide ((0 : Int) ≤ i5)) && (decide (i5 < (b4.n : Int)))))
        (cond (!(((a3.g i5.toNat).1 == (b4.g i5.toNat).1) && (((a3.g i5.toNat).2.1 == (b4.g i5.toNat).2.1) && (((a3.g i5.toNat).2.2.1 == (b4.g i5.toNat).2.2.1) && (((a3.g i5.toNat).2.2.2.1 == (b4.g i5.toNat).2.2.2.1) && (((a3.g i5.toNat).2.2.2.2.1 == (b4.g i5.toNat).2.2.2.2.1) && (((a3.g i5.toNat).2.2.2.2.2.1 == (b4.g i5.toNat).2.2.2.2.2.1) && true)))))))
          (kr false)
          (rec a3 b4 (IntKind.i64.wrap (i5 + 1))))
        none)
      none)
    (k0))

noncomputable def draymanref31_Same_l0_run {α : Type} (kr : (Bool) → Option α) (k0 : Option α) : Nat → (Seq Z2) → (Seq Z2) → (Int) → Option α
  | 0, _, _, _ => none
  | n + 1, a3, b4, i5 => draymanref31_Same_l0_step kr k0 (fun a3 b4 i5 => draymanref31_Same_l0_run kr k0 n a3 b4 i5) a3 b4 i5

noncomputable def draymanref31_Same {α : Type} (a1 : Seq Z2) (b2 : Seq Z2) (k : Bool → Option α) : Option α :=
  (cond ((a1.n : Int) != (b2.n : Int))
    (k false)
    (draymanref31_Same_l0_run
      (fun x6 =>
        (k x6))
      ((k true))
      1000 a1 b2 0))

noncomputable def draymanref31_Same_sp {α : Type} (draymanref31_Same : draymanref31_Same_T α) : FunSpec α := ⟨71, [.sl (.int .i64 (.int .i64 (.int .i64 (.int .i64 (.int .i64 (.int .i64 (.nil))))))), .sl (.int .i64 (.int .i64 (.int .i64 (.int .i64 (.int .i64 (.int .i64 (.nil)))))))], [], fun ds k => draymanref31_Same (hdQ (.int .i64 (.int .i64 (.int .i64 (.int .i64 (.int .i64 (.int .i64 (.nil))))))) ds) (hdQ (.int .i64 (.int .i64 (.int .i64 (.int .i64 (.int .i64 (.int .i64 (.nil))))))) ds.tail) (fun r1 => k (enc dep (.bool) [.b r1]).1 [])⟩

noncomputable def draymanref31_Same_spec {α : Type} : FunSpec α := draymanref31_Same_sp draymanref31_Same

noncomputable def draymanref31_Same_C {α : Type} : List (FunSpec α) := []

noncomputable def draymanref31_Same_q : FuncId → Bool := fun f => false

noncomputable def draymanref31_Same_inl : FuncId → Bool := fun f => false

noncomputable def draymanref31_Same_ann : FuncId → AnnT := fun f p => if f = 71 then (if p = [true, false, true, true] then ⟨[0, 1, 5], [], [], [4], 0, [], []⟩ else ⟨[], [], [], [], 0, [], []⟩) else ⟨[], [], [], [], 0, [], []⟩

noncomputable def draymanref31_Same_l0_t : List Sh := [.sl (.int .i64 (.int .i64 (.int .i64 (.int .i64 (.int .i64 (.int .i64 (.nil))))))), .sl (.int .i64 (.int .i64 (.int .i64 (.int .i64 (.int .i64 (.int .i64 (.nil))))))), .dead, .dead, .dead, .int .i64, .dead, .dead, .dead, .dead, .dead, .dead, .dead, .dead, .dead, .dead, .dead, .dead, .dead, .dead, .dead, .dead, .dead, .dead, .dead, .dead]
noncomputable def draymanref31_Same_l0_s : List (List Sh) := []
noncomputable def draymanref31_Same_l0_h : List BSh := []

noncomputable def draymanref31_Same_l0_spec {α : Type} : LoopSpec α := ⟨6, 71, [true, false, true, true], draymanref31_Same_l0_t, draymanref31_Same_l0_s, draymanref31_Same_l0_h, fun ds k => draymanref31_Same_l0_run (fun y1 => k .ret (encSt [.dead, .dead, .dead, .dead, .bool, .dead, .dead, .dead, .dead, .dead, .dead, .dead, .dead, .dead, .dead, .dead, .dead, .dead, .dead, .dead, .dead, .dead, .dead, .dead, .dead, .dead] [] [] [.b y1])) (k (.exit 0) (encSt [.dead, .dead, .dead, .dead, .dead, .dead, .dead, .dead, .dead, .dead, .dead, .dead, .dead, .dead, .dead, .dead, .dead, .dead, .dead, .dead, .dead, .dead, .dead, .dead, .dead, .dead] [] [] [])) 1000 (hdQ (.int .i64 (.int .i64 (.int .i64 (.int .i64 (.int .i64 (.int .i64 (.nil))))))) ds) (hdQ (.int .i64 (.int .i64 (.int .i64 (.int .i64 (.int .i64 (.int .i64 (.nil))))))) ds.tail) (hdI ds.tail.tail)⟩

noncomputable def draymanref31_Same_loops {α : Type} : List (LoopSpec α) := [draymanref31_Same_l0_spec]

noncomputable def draymanref31_Same_l0_ev {α : Type} (n : Nat) (st : St) (k : X → St → Option α) : Option α := loopN (evCode Go.Proofs.Try.prog (callD Go.Proofs.Try.prog (envOf (draymanref31_Same_C) draymanref31_Same_q draymanref31_Same_inl 1000 draymanref31_Same_ann false (draymanref31_Same_loops) (fun _ => none)) 6) (((envOf (draymanref31_Same_C) draymanref31_Same_q draymanref31_Same_inl 1000 draymanref31_Same_ann false (draymanref31_Same_loops) (fun _ => none)) : Env α).L 6 71) 1000 (draymanref31_Same_ann 71) (false :: [true, false, true, true]) (loopC Go.Proofs.Try.prog 71 [true, false, true, true])) ((draymanref31_Same_ann 71 [true, false, true, true]).head 0) ((draymanref31_Same_ann 71 [true, false, true, true]).leave 0) n st k

theorem draymanref31_Same_l0_eq {α : Type} : ∀ (n : Nat) (a3 : Seq Z2) (b4 : Seq Z2) (i5 : Int) (k : X → St → Option α), draymanref31_Same_l0_ev n (encSt draymanref31_Same_l0_t draymanref31_Same_l0_s draymanref31_Same_l0_h [.q (.int .i64 (.int .i64 (.int .i64 (.int .i64 (.int .i64 (.int .i64 (.nil))))))) a3, .q (.int .i64 (.int .i64 (.int .i64 (.int .i64 (.int .i64 (.int .i64 (.nil))))))) b4, .i i5]) k = draymanref31_Same_l0_run (fun y1 => k .ret (encSt [.dead, .dead, .dead, .dead, .bool, .dead, .dead, .dead, .dead, .dead, .dead, .dead, .dead, .dead, .dead, .dead, .dead, .dead, .dead, .dead, .dead, .dead, .dead, .dead, .dead, .dead] [] [] [.b y1])) (k (.exit 0) (encSt [.dead, .dead, .dead, .dead, .dead, .dead, .dead, .dead, .dead, .dead, .dead, .dead, .dead, .dead, .dead, .dead, .dead, .dead, .dead, .dead, .dead, .dead, .dead, .dead, .dead, .dead] [] [] [])) n a3 b4 i5 := by
  intro n
  induction n with
  | zero => intros; kernel_rfl
  | succ n ih =>
    intro a3 b4 i5 k
    have e : (fun (a3 : Seq Z2) (b4 : Seq Z2) (i5 : Int) => draymanref31_Same_l0_ev n (encSt draymanref31_Same_l0_t draymanref31_Same_l0_s draymanref31_Same_l0_h [.q (.int .i64 (.int .i64 (.int .i64 (.int .i64 (.int .i64 (.int .i64 (.nil))))))) a3, .q (.int .i64 (.int .i64 (.int .i64 (.int .i64 (.int .i64 (.int .i64 (.nil))))))) b4, .i i5]) k) = (fun (a3 : Seq Z2) (b4 : Seq Z2) (i5 : Int) => draymanref31_Same_l0_run (fun y1 => k .ret (encSt [.dead, .dead, .dead, .dead, .bool, .dead, .dead, .dead, .dead, .dead, .dead, .dead, .dead, .dead, .dead, .dead, .dead, .dead, .dead, .dead, .dead, .dead, .dead, .dead, .dead, .dead] [] [] [.b y1])) (k (.exit 0) (encSt [.dead, .dead, .dead, .dead, .dead, .dead, .dead, .dead, .dead, .dead, .dead, .dead, .dead, .dead, .dead, .dead, .dead, .dead, .dead, .dead, .dead, .dead, .dead, .dead, .dead, .dead] [] [] [])) n a3 b4 i5) := by
      funext a3 b4 i5
      exact ih a3 b4 i5 k
    have h1 : draymanref31_Same_l0_ev (n + 1) (encSt draymanref31_Same_l0_t draymanref31_Same_l0_s draymanref31_Same_l0_h [.q (.int .i64 (.int .i64 (.int .i64 (.int .i64 (.int .i64 (.int .i64 (.nil))))))) a3, .q (.int .i64 (.int .i64 (.int .i64 (.int .i64 (.int .i64 (.int .i64 (.nil))))))) b4, .i i5]) k = draymanref31_Same_l0_step (fun y1 => k .ret (encSt [.dead, .dead, .dead, .dead, .bool, .dead, .dead, .dead, .dead, .dead, .dead, .dead, .dead, .dead, .dead, .dead, .dead, .dead, .dead, .dead, .dead, .dead, .dead, .dead, .dead, .dead] [] [] [.b y1])) (k (.exit 0) (encSt [.dead, .dead, .dead, .dead, .dead, .dead, .dead, .dead, .dead, .dead, .dead, .dead, .dead, .dead, .dead, .dead, .dead, .dead, .dead, .dead, .dead, .dead, .dead, .dead, .dead, .dead] [] [] [])) (fun (a3 : Seq Z2) (b4 : Seq Z2) (i5 : Int) => draymanref31_Same_l0_ev n (encSt draymanref31_Same_l0_t draymanref31_Same_l0_s draymanref31_Same_l0_h [.q (.int .i64 (.int .i64 (.int .i64 (.int .i64 (.int .i64 (.int .i64 (.nil))))))) a3, .q (.int .i64 (.int .i64 (.int .i64 (.int .i64 (.int .i64 (.int .i64 (.nil))))))) b4, .i i5]) k) a3 b4 i5 := by kernel_rfl
    have h2 := congrArg (fun r => draymanref31_Same_l0_step (fun y1 => k .ret (encSt [.dead, .dead, .dead, .dead, .bool, .dead, .dead, .dead, .dead, .dead, .dead, .dead, .dead, .dead, .dead, .dead, .dead, .dead, .dead, .dead, .dead, .dead, .dead, .dead, .dead, .dead] [] [] [.b y1])) (k (.exit 0) (encSt [.dead, .dead, .dead, .dead, .dead, .dead, .dead, .dead, .dead, .dead, .dead, .dead, .dead, .dead, .dead, .dead, .dead, .dead, .dead, .dead, .dead, .dead, .dead, .dead, .dead, .dead] [] [] [])) r a3 b4 i5) e
    have h3 : draymanref31_Same_l0_step (fun y1 => k .ret (encSt [.dead, .dead, .dead, .dead, .bool, .dead, .dead, .dead, .dead, .dead, .dead, .dead, .dead, .dead, .dead, .dead, .dead, .dead, .dead, .dead, .dead, .dead, .dead, .dead, .dead, .dead] [] [] [.b y1])) (k (.exit 0) (encSt [.dead, .dead, .dead, .dead, .dead, .dead, .dead, .dead, .dead, .dead, .dead, .dead, .dead, .dead, .dead, .dead, .dead, .dead, .dead, .dead, .dead, .dead, .dead, .dead, .dead, .dead] [] [] [])) (fun (a3 : Seq Z2) (b4 : Seq Z2) (i5 : Int) => draymanref31_Same_l0_run (fun y1 => k .ret (encSt [.dead, .dead, .dead, .dead, .bool, .dead, .dead, .dead, .dead, .dead, .dead, .dead, .dead, .dead, .dead, .dead, .dead, .dead, .dead, .dead, .dead, .dead, .dead, .dead, .dead, .dead] [] [] [.b y1])) (k (.exit 0) (encSt [.dead, .dead, .dead, .dead, .dead, .dead, .dead, .dead, .dead, .dead, .dead, .dead, .dead, .dead, .dead, .dead, .dead, .dead, .dead, .dead, .dead, .dead, .dead, .dead, .dead, .dead] [] [] [])) n a3 b4 i5) a3 b4 i5 = draymanref31_Same_l0_run (fun y1 => k .ret (encSt [.dead, .dead, .dead, .dead, .bool, .dead, .dead, .dead, .dead, .dead, .dead, .dead, .dead, .dead, .dead, .dead, .dead, .dead, .dead, .dead, .dead, .dead, .dead, .dead, .dead, .dead] [] [] [.b y1])) (k (.exit 0) (encSt [.dead, .dead, .dead, .dead, .dead, .dead, .dead, .dead, .dead, .dead, .dead, .dead, .dead, .dead, .dead, .dead, .dead, .dead, .dead, .dead, .dead, .dead, .dead, .dead, .dead, .dead] [] [] [])) (n + 1) a3 b4 i5 := by kernel_rfl
    exact h1.trans (h2.trans h3)

theorem draymanref31_Same_l0_ok {α : Type} : (draymanref31_Same_l0_spec : LoopSpec α).ok Go.Proofs.Try.prog (envOf (draymanref31_Same_C) draymanref31_Same_q draymanref31_Same_inl 1000 draymanref31_Same_ann false (draymanref31_Same_loops) (fun _ => none)) := by
  intro ds k
  have h1 : draymanref31_Same_l0_ev 1000 (encSt draymanref31_Same_l0_t draymanref31_Same_l0_s draymanref31_Same_l0_h ds) k = draymanref31_Same_l0_ev 1000 (encSt draymanref31_Same_l0_t draymanref31_Same_l0_s draymanref31_Same_l0_h [.q (.int .i64 (.int .i64 (.int .i64 (.int .i64 (.int .i64 (.int .i64 (.nil))))))) (hdQ (.int .i64 (.int .i64 (.int .i64 (.int .i64 (.int .i64 (.int .i64 (.nil))))))) ds), .q (.int .i64 (.int .i64 (.int .i64 (.int .i64 (.int .i64 (.int .i64 (.nil))))))) (hdQ (.int .i64 (.int .i64 (.int .i64 (.int .i64 (.int .i64 (.int .i64 (.nil))))))) ds.tail), .i (hdI ds.tail.tail)]) k := by kernel_rfl
  have h2 := draymanref31_Same_l0_eq 1000 (hdQ (.int .i64 (.int .i64 (.int .i64 (.int .i64 (.int .i64 (.int .i64 (.nil))))))) ds) (hdQ (.int .i64 (.int .i64 (.int .i64 (.int .i64 (.int .i64 (.int .i64 (.nil))))))) ds.tail) (hdI ds.tail.tail) k
  exact h1.trans h2

theorem draymanref31_Same_ev {α : Type} : EvOk (α := α) Go.Proofs.Try.prog (envOf (draymanref31_Same_C) draymanref31_Same_q draymanref31_Same_inl 1000 draymanref31_Same_ann false (draymanref31_Same_loops) (fun _ => none)) 6 (draymanref31_Same_sp (draymanref31_Same)) := by intro ds k; kernel_rfl

theorem draymanref31_Same_ok {α : Type} : (draymanref31_Same_spec : FunSpec α).ok Go.Proofs.Try.prog :=
  FunSpec.ok_of (sp := draymanref31_Same_spec) (C := draymanref31_Same_C) (q := draymanref31_Same_q) (inl := draymanref31_Same_inl) (N := 1000) (ann := draymanref31_Same_ann) (fr := false) (D := 6) (l := (draymanref31_Same_loops)) (hk := (fun _ => none)) okNil (lokCons (draymanref31_Same_l0_ok) lokNil) noHooks (draymanref31_Same_ev)

end
end Go.Rv.Try

set_option linter.unusedVariables false
set_option maxRecDepth 100000
set_option maxHeartbeats 4000000
namespace Go.Rv.Try
open Go Go.Rv Go.RowKit
noncomputable section

-- drayman/draymanlaw31.KeyedCome

abbrev draymanlaw31_KeyedCome_T (α : Type) : Type := (Seq Z2) → Z1 → Int → (Bool → Option α) → Option α

noncomputable def draymanlaw31_KeyedCome_g {α : Type} (draymanlaw31_awake : draymanlaw31_awake_T α) (keyed_Come : keyed_Come_T α) (draymanref31_Come : draymanref31_Come_T α) (keyed_Find : keyed_Find_T α) (draymanref31_Find : draymanref31_Find_T α) (keyed_Effects : keyed_Effects_T α) (draymanref31_Effects : draymanref31_Effects_T α) (draymanref31_Same : draymanref31_Same_T α) (keyed_Fit : keyed_Fit_T α) (draymanref31_Fit : draymanref31_Fit_T α) (x1 : Seq Z2) (x2 : Int × Int × Int × Bool × Int × Int × Bool × Unit) (x3 : Int) (k : Bool → Option α) : Option α :=
  (cond (decide ((x1.n : Int) > 30))
    (draymanlaw31_awake fun r4 =>
      (k r4))
    (keyed_Come x1 x2 x3 fun r5 r6 r7 r8 =>
      (draymanref31_Come x1 x2 x3 fun r9 r10 r11 r12 =>
        (keyed_Find x1 x2.2.1 x2.2.2.1 fun r13 r14 =>
          (draymanref31_Find x1 x2.2.1 x2.2.2.1 fun r15 r16 =>
            (keyed_Effects x1 fun r17 r18 =>
              (draymanref31_Effects x1 fun r19 r20 =>
                (draymanref31_Same r8 r9 fun r21 =>
                  (cond r21
                    (cond (r5 == r10)
                      (cond (r6 == r11)
                        (cond (r7 == r12)
                          (cond ((r13.1 == r15.1) && ((r13.2.1 == r15.2.1) && ((r13.2.2.1 == r15.2.2.1) && ((r13.2.2.2.1 == r15.2.2.2.1) && ((r13.2.2.2.2.1 == r15.2.2.2.2.1) && ((r13.2.2.2.2.2.1 == r15.2.2.2.2.2.1) && true))))))
                            (cond (r14 == r16)
                              (cond (r17 == r19)
                                (cond (r18 == r20)
                                  (keyed_Fit x1 fun r22 =>
                                    (draymanref31_Fit x1 fun r23 =>
                                      (cond (r22 == r23)
                                        (draymanlaw31_awake fun r24 =>
                                          (k r24))
                                        (k false))))
                                  (k false))
                                (k false))
                              (k false))
                            (k false))
                          (k false))
                        (k false))
                      (k false))
                    (k false))))))))))

noncomputable def draymanlaw31_KeyedCome {α : Type} : draymanlaw31_KeyedCome_T α := draymanlaw31_KeyedCome_g draymanlaw31_awake keyed_Come draymanref31_Come keyed_Find draymanref31_Find keyed_Effects draymanref31_Effects draymanref31_Same keyed_Fit draymanref31_Fit

noncomputable def draymanlaw31_KeyedCome_sp {α : Type} (draymanlaw31_KeyedCome : draymanlaw31_KeyedCome_T α) : FunSpec α := ⟨12, [.sl (.int .i64 (.int .i64 (.int .i64 (.int .i64 (.int .i64 (.int .i64 (.nil))))))), .agg [.int .i64, .int .i64, .int .i64, .bool, .int .i64, .int .i64, .bool], .int .i64], [], fun ds k => draymanlaw31_KeyedCome (hdQ (.int .i64 (.int .i64 (.int .i64 (.int .i64 (.int .i64 (.int .i64 (.nil))))))) ds) (hdI ds.tail, hdI ds.tail.tail, hdI ds.tail.tail.tail, hdB ds.tail.tail.tail.tail, hdI ds.tail.tail.tail.tail.tail, hdI ds.tail.tail.tail.tail.tail.tail, hdB ds.tail.tail.tail.tail.tail.tail.tail, ()) (hdI ds.tail.tail.tail.tail.tail.tail.tail.tail) (fun r1 => k (enc dep (.bool) [.b r1]).1 [])⟩

noncomputable def draymanlaw31_KeyedCome_spec {α : Type} : FunSpec α := draymanlaw31_KeyedCome_sp draymanlaw31_KeyedCome

noncomputable def draymanlaw31_KeyedCome_C {α : Type} (draymanlaw31_awake : draymanlaw31_awake_T α) (keyed_Come : keyed_Come_T α) (draymanref31_Come : draymanref31_Come_T α) (keyed_Find : keyed_Find_T α) (draymanref31_Find : draymanref31_Find_T α) (keyed_Effects : keyed_Effects_T α) (draymanref31_Effects : draymanref31_Effects_T α) (draymanref31_Same : draymanref31_Same_T α) (keyed_Fit : keyed_Fit_T α) (draymanref31_Fit : draymanref31_Fit_T α) : List (FunSpec α) := [draymanlaw31_awake_sp draymanlaw31_awake, keyed_Come_sp keyed_Come, draymanref31_Come_sp draymanref31_Come, keyed_Find_sp keyed_Find, draymanref31_Find_sp draymanref31_Find, keyed_Effects_sp keyed_Effects, draymanref31_Effects_sp draymanref31_Effects, draymanref31_Same_sp draymanref31_Same, keyed_Fit_sp keyed_Fit, draymanref31_Fit_sp draymanref31_Fit]

noncomputable def draymanlaw31_KeyedCome_q : FuncId → Bool := fun f => Nat.beq f 69 || Nat.beq f 71 || Nat.beq f 73 || Nat.beq f 74 || Nat.beq f 75 || Nat.beq f 76 || Nat.beq f 77 || Nat.beq f 78

noncomputable def draymanlaw31_KeyedCome_inl : FuncId → Bool := fun f => false

noncomputable def draymanlaw31_KeyedCome_ann : FuncId → AnnT := fun f p => ⟨[], [], [], [], 0, [], []⟩

noncomputable def draymanlaw31_KeyedCome_loops {α : Type} (draymanlaw31_awake : draymanlaw31_awake_T α) (keyed_Come : keyed_Come_T α) (draymanref31_Come : draymanref31_Come_T α) (keyed_Find : keyed_Find_T α) (draymanref31_Find : draymanref31_Find_T α) (keyed_Effects : keyed_Effects_T α) (draymanref31_Effects : draymanref31_Effects_T α) (draymanref31_Same : draymanref31_Same_T α) (keyed_Fit : keyed_Fit_T α) (draymanref31_Fit : draymanref31_Fit_T α) : List (LoopSpec α) := []

theorem draymanlaw31_KeyedCome_ev {α : Type} (draymanlaw31_awake : draymanlaw31_awake_T α) (keyed_Come : keyed_Come_T α) (draymanref31_Come : draymanref31_Come_T α) (keyed_Find : keyed_Find_T α) (draymanref31_Find : draymanref31_Find_T α) (keyed_Effects : keyed_Effects_T α) (draymanref31_Effects : draymanref31_Effects_T α) (draymanref31_Same : draymanref31_Same_T α) (keyed_Fit : keyed_Fit_T α) (draymanref31_Fit : draymanref31_Fit_T α) : EvOk (α := α) Go.Proofs.Try.prog (envOf (draymanlaw31_KeyedCome_C draymanlaw31_awake keyed_Come draymanref31_Come keyed_Find draymanref31_Find keyed_Effects draymanref31_Effects draymanref31_Same keyed_Fit draymanref31_Fit) draymanlaw31_KeyedCome_q draymanlaw31_KeyedCome_inl 1000 draymanlaw31_KeyedCome_ann false (draymanlaw31_KeyedCome_loops draymanlaw31_awake keyed_Come draymanref31_Come keyed_Find draymanref31_Find keyed_Effects draymanref31_Effects draymanref31_Same keyed_Fit draymanref31_Fit) (fun _ => none)) 6 (draymanlaw31_KeyedCome_sp (draymanlaw31_KeyedCome_g draymanlaw31_awake keyed_Come draymanref31_Come keyed_Find draymanref31_Find keyed_Effects draymanref31_Effects draymanref31_Same keyed_Fit draymanref31_Fit)) := by intro ds k; kernel_rfl

theorem draymanlaw31_KeyedCome_ok {α : Type} : (draymanlaw31_KeyedCome_spec : FunSpec α).ok Go.Proofs.Try.prog :=
  FunSpec.ok_of (sp := draymanlaw31_KeyedCome_spec) (C := draymanlaw31_KeyedCome_C draymanlaw31_awake keyed_Come draymanref31_Come keyed_Find draymanref31_Find keyed_Effects draymanref31_Effects draymanref31_Same keyed_Fit draymanref31_Fit) (q := draymanlaw31_KeyedCome_q) (inl := draymanlaw31_KeyedCome_inl) (N := 1000) (ann := draymanlaw31_KeyedCome_ann) (fr := false) (D := 6) (l := (draymanlaw31_KeyedCome_loops draymanlaw31_awake keyed_Come draymanref31_Come keyed_Find draymanref31_Find keyed_Effects draymanref31_Effects draymanref31_Same keyed_Fit draymanref31_Fit)) (hk := (fun _ => none)) (okCons draymanlaw31_awake_ok (okCons keyed_Come_ok (okCons draymanref31_Come_ok (okCons keyed_Find_ok (okCons draymanref31_Find_ok (okCons keyed_Effects_ok (okCons draymanref31_Effects_ok (okCons draymanref31_Same_ok (okCons keyed_Fit_ok (okCons draymanref31_Fit_ok okNil)))))))))) lokNil noHooks (draymanlaw31_KeyedCome_ev draymanlaw31_awake keyed_Come draymanref31_Come keyed_Find draymanref31_Find keyed_Effects draymanref31_Effects draymanref31_Same keyed_Fit draymanref31_Fit)

end
end Go.Rv.Try

set_option linter.unusedVariables false
set_option maxRecDepth 100000
set_option maxHeartbeats 4000000
namespace Go.Rv.Try
open Go Go.Rv Go.RowKit
noncomputable section

-- drayman/draymanlaw31.KeyedAgain

abbrev draymanlaw31_KeyedAgain_T (α : Type) : Type := (Seq Z2) → Z1 → Int → Int → (Bool → Option α) → Option α

noncomputable def draymanlaw31_KeyedAgain_g {α : Type} (draymanlaw31_awake : draymanlaw31_awake_T α) (keyed_Come : keyed_Come_T α) (draymanref31_Same : draymanref31_Same_T α) (x1 : Seq Z2) (x2 : Int × Int × Int × Bool × Int × Int × Bool × Unit) (x3 : Int) (x4 : Int) (k : Bool → Option α) : Option α :=
  (cond (decide ((x1.n : Int) > 30))
    (draymanlaw31_awake fun r5 =>
      (k r5))
    (keyed_Come x1 x2 x3 fun r6 r7 r8 r9 =>
      (cond (!(r8 != 0))
        (cond (!(decide (x4 < 1)))
          (cond (decide (x4 > 3))
            (draymanlaw31_awake fun r10 =>
              (k r10))
            (keyed_Come r9 x2 x4 fun r11 r12 r13 r14 =>
              (cond (r13 != 0)
                (k false)
                (cond (r6 == 2)
                  (draymanref31_Same r9 x1 fun r15 =>
                    (cond r15
                      (draymanlaw31_awake fun r16 =>
                        (k r16))
                      (k false)))
                  (cond (r11 == r6)
                    (cond (!r12)
                      (draymanref31_Same r9 r14 fun r17 =>
                        (cond r17
                          (draymanlaw31_awake fun r18 =>
                            (k r18))
                          (k false)))
                      (k false))
                    (k false))))))
          (draymanlaw31_awake fun r19 =>
            (k r19)))
        (draymanlaw31_awake fun r20 =>
          (k r20)))))

noncomputable def draymanlaw31_KeyedAgain {α : Type} : draymanlaw31_KeyedAgain_T α := draymanlaw31_KeyedAgain_g draymanlaw31_awake keyed_Come draymanref31_Same

noncomputable def draymanlaw31_KeyedAgain_sp {α : Type} (draymanlaw31_KeyedAgain : draymanlaw31_KeyedAgain_T α) : FunSpec α := ⟨11, [.sl (.int .i64 (.int .i64 (.int .i64 (.int .i64 (.int .i64 (.int .i64 (.nil))))))), .agg [.int .i64, .int .i64, .int .i64, .bool, .int .i64, .int .i64, .bool], .int .i64, .int .i64], [], fun ds k => draymanlaw31_KeyedAgain (hdQ (.int .i64 (.int .i64 (.int .i64 (.int .i64 (.int .i64 (.int .i64 (.nil))))))) ds) (hdI ds.tail, hdI ds.tail.tail, hdI ds.tail.tail.tail, hdB ds.tail.tail.tail.tail, hdI ds.tail.tail.tail.tail.tail, hdI ds.tail.tail.tail.tail.tail.tail, hdB ds.tail.tail.tail.tail.tail.tail.tail, ()) (hdI ds.tail.tail.tail.tail.tail.tail.tail.tail) (hdI ds.tail.tail.tail.tail.tail.tail.tail.tail.tail) (fun r1 => k (enc dep (.bool) [.b r1]).1 [])⟩

noncomputable def draymanlaw31_KeyedAgain_spec {α : Type} : FunSpec α := draymanlaw31_KeyedAgain_sp draymanlaw31_KeyedAgain

noncomputable def draymanlaw31_KeyedAgain_C {α : Type} (draymanlaw31_awake : draymanlaw31_awake_T α) (keyed_Come : keyed_Come_T α) (draymanref31_Same : draymanref31_Same_T α) : List (FunSpec α) := [draymanlaw31_awake_sp draymanlaw31_awake, keyed_Come_sp keyed_Come, draymanref31_Same_sp draymanref31_Same]

noncomputable def draymanlaw31_KeyedAgain_q : FuncId → Bool := fun f => Nat.beq f 69 || Nat.beq f 71

noncomputable def draymanlaw31_KeyedAgain_inl : FuncId → Bool := fun f => false

noncomputable def draymanlaw31_KeyedAgain_ann : FuncId → AnnT := fun f p => ⟨[], [], [], [], 0, [], []⟩

noncomputable def draymanlaw31_KeyedAgain_loops {α : Type} (draymanlaw31_awake : draymanlaw31_awake_T α) (keyed_Come : keyed_Come_T α) (draymanref31_Same : draymanref31_Same_T α) : List (LoopSpec α) := []

theorem draymanlaw31_KeyedAgain_ev {α : Type} (draymanlaw31_awake : draymanlaw31_awake_T α) (keyed_Come : keyed_Come_T α) (draymanref31_Same : draymanref31_Same_T α) : EvOk (α := α) Go.Proofs.Try.prog (envOf (draymanlaw31_KeyedAgain_C draymanlaw31_awake keyed_Come draymanref31_Same) draymanlaw31_KeyedAgain_q draymanlaw31_KeyedAgain_inl 1000 draymanlaw31_KeyedAgain_ann false (draymanlaw31_KeyedAgain_loops draymanlaw31_awake keyed_Come draymanref31_Same) (fun _ => none)) 6 (draymanlaw31_KeyedAgain_sp (draymanlaw31_KeyedAgain_g draymanlaw31_awake keyed_Come draymanref31_Same)) := by intro ds k; kernel_rfl

theorem draymanlaw31_KeyedAgain_ok {α : Type} : (draymanlaw31_KeyedAgain_spec : FunSpec α).ok Go.Proofs.Try.prog :=
  FunSpec.ok_of (sp := draymanlaw31_KeyedAgain_spec) (C := draymanlaw31_KeyedAgain_C draymanlaw31_awake keyed_Come draymanref31_Same) (q := draymanlaw31_KeyedAgain_q) (inl := draymanlaw31_KeyedAgain_inl) (N := 1000) (ann := draymanlaw31_KeyedAgain_ann) (fr := false) (D := 6) (l := (draymanlaw31_KeyedAgain_loops draymanlaw31_awake keyed_Come draymanref31_Same)) (hk := (fun _ => none)) (okCons draymanlaw31_awake_ok (okCons keyed_Come_ok (okCons draymanref31_Same_ok okNil))) lokNil noHooks (draymanlaw31_KeyedAgain_ev draymanlaw31_awake keyed_Come draymanref31_Same)

end
end Go.Rv.Try
