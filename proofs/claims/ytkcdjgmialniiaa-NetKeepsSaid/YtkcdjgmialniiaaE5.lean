/- What the functions of the program compute, each with the proof that its code computes it. Written by a program (rvp2.py). -/
import Derived.Test.YtkcdjgmialniiaaProg
import Derived.Test.YtkcdjgmialniiaaRvP
import Derived.Test.YtkcdjgmialniiaaE4

set_option linter.unusedVariables false
set_option maxRecDepth 100000
set_option maxHeartbeats 4000000
namespace Go.Rv.Try
open Go Go.Rv Go.RowKit
noncomputable section

-- drayman/draymanref34.Same

abbrev draymanref34_Same_T (α : Type) : Type := (Int × (Seq Z0) × Unit) → (Int × (Seq Z0) × Unit) → (Bool → Option α) → Option α

noncomputable def draymanref34_Same_l0_step {α : Type} (kr : (Bool) → (Int × (Seq Z0) × Unit) → (Int × (Seq Z0) × Unit) → Option α) (k0 : (Int × (Seq Z0) × Unit) → (Int × (Seq Z0) × Unit) → Option α) (rec : (Int) → (Int × (Seq Z0) × Unit) → (Int × (Seq Z0) × Unit) → Option α) (i3 : Int) (x4 : Int × (Seq Z0) × Unit) (x5 : Int × (Seq Z0) × Unit) : Option α :=
  (cond (decide (i3 < (x4.2.1.n : Int)))
    (cond ((decide ((0 : Int) ≤ i3)) && (decide (i3 < (x4.2.1.n : Int))))
      (cond ((decide ((0 : Int) ≤ i3)) && (decide (i3 < (x5.2.1.n : Int))))
        (cond (!(((x4.2.1.g i3.toNat).1 == (x5.2.1.g i3.toNat).1) && (((x4.2.1.g i3.toNat).2.1 == (x5.2.1.g i3.toNat).2.1) && (((x4.2.1.g i3.toNat).2.2.1 == (x5.2.1.g i3.toNat).2.2.1) && ((((x4.2.1.g i3.toNat).2.2.2.1 == (x5.2.1.g i3.toNat).2.2.2.1) && (((x4.2.1.g i3.toNat).2.2.2.2.1 == (x5.2.1.g i3.toNat).2.2.2.2.1) && (((x4.2.1.g i3.toNat).2.2.2.2.2.1 == (x5.2.1.g i3.toNat).2.2.2.2.2.1) && (((x4.2.1.g i3.toNat).2.2.2.2.2.2.1 == (x5.2.1.g i3.toNat).2.2.2.2.2.2.1) && (((x4.2.1.g i3.toNat).2.2.2.2.2.2.2.1 == (x5.2.1.g i3.toNat).2.2.2.2.2.2.2.1) && (((x4.2.1.g i3.toNat).2.2.2.2.2.2.2.2.1 == (x5.2.1.g i3.toNat).2.2.2.2.2.2.2.2.1) && (((x4.2.1.g i3.toNat).2.2.2.2.2.2.2.2.2.1 == (x5.2.1.g i3.toNat).2.2.2.2.2.2.2.2.2.1) && true))))))) && ((((x4.2.1.g i3.toNat).2.2.2.2.2.2.2.2.2.2.1 == (x5.2.1.g i3.toNat).2.2.2.2.2.2.2.2.2.2.1) && (((x4.2.1.g i3.toNat).2.2.2.2.2.2.2.2.2.2.2.1 == (x5.2.1.g i3.toNat).2.2.2.2.2.2.2.2.2.2.2.1) && (((x4.2.1.g i3.toNat).2.2.2.2.2.2.2.2.2.2.2.2.1 == (x5.2.1.g i3.toNat).2.2.2.2.2.2.2.2.2.2.2.2.1) && (((x4.2.1.g i3.toNat).2.2.2.2.2.2.2.2.2.2.2.2.2.1 == (x5.2.1.g i3.toNat).2.2.2.2.2.2.2.2.2.2.2.2.2.1) && (((x4.2.1.g i3.toNat).2.2.2.2.2.2.2.2.2.2.2.2.2.2.1 == (x5.2.1.g i3.toNat).2.2.2.2.2.2.2.2.2.2.2.2.2.2.1) && (((x4.2.1.g i3.toNat).2.2.2.2.2.2.2.2.2.2.2.2.2.2.2.1 == (x5.2.1.g i3.toNat).2.2.2.2.2.2.2.2.2.2.2.2.2.2.2.1) && (((x4.2.1.g i3.toNat).2.2.2.2.2.2.2.2.2.2.2.2.2.2.2.2.1 == (x5.2.1.g i3.toNat).2.2.2.2.2.2.2.2.2.2.2.2.2.2.2.2.1) && true))))))) && true))))))
          (kr false x4 x5)
          (rec (IntKind.i64.wrap (i3 + 1)) x4 x5))
        none)
      none)
    (k0 x4 x5))

noncomputable def draymanref34_Same_l0_run {α : Type} (kr : (Bool) → (Int × (Seq Z0) × Unit) → (Int × (Seq Z0) × Unit) → Option α) (k0 : (Int × (Seq Z0) × Unit) → (Int × (Seq Z0) × Unit) → Option α) : Nat → (Int) → (Int × (Seq Z0) × Unit) → (Int × (Seq Z0) × Unit) → Option α
  | 0, _, _, _ => none
  | n + 1, i3, x4, x5 => draymanref34_Same_l0_step kr k0 (fun i3 x4 x5 => draymanref34_Same_l0_run kr k0 n i3 x4 x5) i3 x4 x5

noncomputable def draymanref34_Same {α : Type} (a1 : Int × (Seq Z0) × Unit) (b2 : Int × (Seq Z0) × Unit) (k : Bool → Option α) : Option α :=
  (cond (!(a1.1 != b2.1))
    (cond ((a1.2.1.n : Int) != (b2.2.1.n : Int))
      (k false)
      (draymanref34_Same_l0_run
        (fun x6 x7 x8 =>
          (k x6))
        (fun x9 x10 =>
          (k true))
        1000 0 a1 b2))
    (k false))

noncomputable def draymanref34_Same_sp {α : Type} (draymanref34_Same : draymanref34_Same_T α) : FunSpec α := ⟨31, [.agg [.int .i64, .sl (.int .i64 (.bool (.int .i64 (.int .i64 (.int .i64 (.int .i64 (.bool (.int .i64 (.int .i64 (.bool (.int .i64 (.int .i64 (.int .i64 (.int .i64 (.bool (.int .i64 (.int .i64 (.nil))))))))))))))))))], .agg [.int .i64, .sl (.int .i64 (.bool (.int .i64 (.int .i64 (.int .i64 (.int .i64 (.bool (.int .i64 (.int .i64 (.bool (.int .i64 (.int .i64 (.int .i64 (.int .i64 (.bool (.int .i64 (.int .i64 (.nil))))))))))))))))))]], [], fun ds k => draymanref34_Same (hdI ds, hdQ (.int .i64 (.bool (.int .i64 (.int .i64 (.int .i64 (.int .i64 (.bool (.int .i64 (.int .i64 (.bool (.int .i64 (.int .i64 (.int .i64 (.int .i64 (.bool (.int .i64 (.int .i64 (.nil)))))))))))))))))) ds.tail, ()) (hdI ds.tail.tail, hdQ (.int .i64 (.bool (.int .i64 (.int .i64 (.int .i64 (.int .i64 (.bool (.int .i64 (.int .i64 (.bool (.int .i64 (.int .i64 (.int .i64 (.int .i64 (.bool (.int .i64 (.int .i64 (.nil)))))))))))))))))) ds.tail.tail.tail, ()) (fun r1 => k (enc dep (.bool) [.b r1]).1 [])⟩

noncomputable def draymanref34_Same_spec {α : Type} : FunSpec α := draymanref34_Same_sp draymanref34_Same

noncomputable def draymanref34_Same_C {α : Type} : List (FunSpec α) := []

noncomputable def draymanref34_Same_q : FuncId → Bool := fun f => false

noncomputable def draymanref34_Same_inl : FuncId → Bool := fun f => false

noncomputable def draymanref34_Same_ann : FuncId → AnnT := fun f p => if f = 31 then (if p = [true, false, true, true] then ⟨[2, 3, 5], [], [], [4], 0, [], []⟩ else ⟨[], [], [], [], 0, [], []⟩) else ⟨[], [], [], [], 0, [], []⟩

noncomputable def draymanref34_Same_l0_t : List Sh := [.dead, .dead, .ref 0 0, .ref 1 0, .dead, .int .i64, .dead, .dead, .dead, .dead, .dead, .dead, .dead, .dead, .dead, .dead, .dead, .dead, .dead, .dead, .dead, .dead, .dead, .dead, .dead, .dead, .dead, .dead, .dead, .dead, .dead, .dead, .dead, .dead, .dead, .dead, .dead, .dead]
noncomputable def draymanref34_Same_l0_s : List (List Sh) := []
noncomputable def draymanref34_Same_l0_h : List BSh := [.box [.int .i64, .sl (.int .i64 (.bool (.int .i64 (.int .i64 (.int .i64 (.int .i64 (.bool (.int .i64 (.int .i64 (.bool (.int .i64 (.int .i64 (.int .i64 (.int .i64 (.bool (.int .i64 (.int .i64 (.nil))))))))))))))))))], .box [.int .i64, .sl (.int .i64 (.bool (.int .i64 (.int .i64 (.int .i64 (.int .i64 (.bool (.int .i64 (.int .i64 (.bool (.int .i64 (.int .i64 (.int .i64 (.int .i64 (.bool (.int .i64 (.int .i64 (.nil))))))))))))))))))]]

noncomputable def draymanref34_Same_l0_spec {α : Type} : LoopSpec α := ⟨6, 31, [true, false, true, true], draymanref34_Same_l0_t, draymanref34_Same_l0_s, draymanref34_Same_l0_h, fun ds k => draymanref34_Same_l0_run (fun y1 y2 y3 => k .ret (encSt [.dead, .dead, .dead, .dead, .bool, .dead, .dead, .dead, .dead, .dead, .dead, .dead, .dead, .dead, .dead, .dead, .dead, .dead, .dead, .dead, .dead, .dead, .dead, .dead, .dead, .dead, .dead, .dead, .dead, .dead, .dead, .dead, .dead, .dead, .dead, .dead, .dead, .dead] [] [.box [.int .i64, .sl (.int .i64 (.bool (.int .i64 (.int .i64 (.int .i64 (.int .i64 (.bool (.int .i64 (.int .i64 (.bool (.int .i64 (.int .i64 (.int .i64 (.int .i64 (.bool (.int .i64 (.int .i64 (.nil))))))))))))))))))], .box [.int .i64, .sl (.int .i64 (.bool (.int .i64 (.int .i64 (.int .i64 (.int .i64 (.bool (.int .i64 (.int .i64 (.bool (.int .i64 (.int .i64 (.int .i64 (.int .i64 (.bool (.int .i64 (.int .i64 (.nil))))))))))))))))))]] [.b y1, .i y2.1, .q (.int .i64 (.bool (.int .i64 (.int .i64 (.int .i64 (.int .i64 (.bool (.int .i64 (.int .i64 (.bool (.int .i64 (.int .i64 (.int .i64 (.int .i64 (.bool (.int .i64 (.int .i64 (.nil)))))))))))))))))) y2.2.1, .i y3.1, .q (.int .i64 (.bool (.int .i64 (.int .i64 (.int .i64 (.int .i64 (.bool (.int .i64 (.int .i64 (.bool (.int .i64 (.int .i64 (.int .i64 (.int .i64 (.bool (.int .i64 (.int .i64 (.nil)))))))))))))))))) y3.2.1])) (fun y1 y2 => k (.exit 0) (encSt [.dead, .dead, .dead, .dead, .dead, .dead, .dead, .dead, .dead, .dead, .dead, .dead, .dead, .dead, .dead, .dead, .dead, .dead, .dead, .dead, .dead, .dead, .dead, .dead, .dead, .dead, .dead, .dead, .dead, .dead, .dead, .dead, .dead, .dead, .dead, .dead, .dead, .dead] [] [.box [.int .i64, .sl (.int .i64 (.bool (.int .i64 (.int .i64 (.int .i64 (.int .i64 (.bool (.int .i64 (.int .i64 (.bool (.int .i64 (.int .i64 (.int .i64 (.int .i64 (.bool (.int .i64 (.int .i64 (.nil))))))))))))))))))], .box [.int .i64, .sl (.int .i64 (.bool (.int .i64 (.int .i64 (.int .i64 (.int .i64 (.bool (.int .i64 (.int .i64 (.bool (.int .i64 (.int .i64 (.int .i64 (.int .i64 (.bool (.int .i64 (.int .i64 (.nil))))))))))))))))))]] [.i y1.1, .q (.int .i64 (.bool (.int .i64 (.int .i64 (.int .i64 (.int .i64 (.bool (.int .i64 (.int .i64 (.bool (.int .i64 (.int .i64 (.int .i64 (.int .i64 (.bool (.int .i64 (.int .i64 (.nil)))))))))))))))))) y1.2.1, .i y2.1, .q (.int .i64 (.bool (.int .i64 (.int .i64 (.int .i64 (.int .i64 (.bool (.int .i64 (.int .i64 (.bool (.int .i64 (.int .i64 (.int .i64 (.int .i64 (.bool (.int .i64 (.int .i64 (.nil)))))))))))))))))) y2.2.1])) 1000 (hdI ds) (hdI ds.tail, hdQ (.int .i64 (.bool (.int .i64 (.int .i64 (.int .i64 (.int .i64 (.bool (.int .i64 (.int .i64 (.bool (.int .i64 (.int .i64 (.int .i64 (.int .i64 (.bool (.int .i64 (.int .i64 (.nil)))))))))))))))))) ds.tail.tail, ()) (hdI ds.tail.tail.tail, hdQ (.int .i64 (.bool (.int .i64 (.int .i64 (.int .i64 (.int .i64 (.bool (.int .i64 (.int .i64 (.bool (.int .i64 (.int .i64 (.int .i64 (.int .i64 (.bool (.int .i64 (.int .i64 (.nil)))))))))))))))))) ds.tail.tail.tail.tail, ())⟩

noncomputable def draymanref34_Same_loops {α : Type} : List (LoopSpec α) := [draymanref34_Same_l0_spec]

noncomputable def draymanref34_Same_l0_ev {α : Type} (n : Nat) (st : St) (k : X → St → Option α) : Option α := loopN (evCode Go.Proofs.Try.prog (callD Go.Proofs.Try.prog (envOf (draymanref34_Same_C) draymanref34_Same_q draymanref34_Same_inl 1000 draymanref34_Same_ann false (draymanref34_Same_loops) (fun _ => none)) 6) (((envOf (draymanref34_Same_C) draymanref34_Same_q draymanref34_Same_inl 1000 draymanref34_Same_ann false (draymanref34_Same_loops) (fun _ => none)) : Env α).L 6 31) 1000 (draymanref34_Same_ann 31) (false :: [true, false, true, true]) (loopC Go.Proofs.Try.prog 31 [true, false, true, true])) ((draymanref34_Same_ann 31 [true, false, true, true]).head 2) ((draymanref34_Same_ann 31 [true, false, true, true]).leave 2) n st k

theorem draymanref34_Same_l0_eq {α : Type} : ∀ (n : Nat) (i3 : Int) (x4 : Int × (Seq Z0) × Unit) (x5 : Int × (Seq Z0) × Unit) (k : X → St → Option α), draymanref34_Same_l0_ev n (encSt draymanref34_Same_l0_t draymanref34_Same_l0_s draymanref34_Same_l0_h [.i i3, .i x4.1, .q (.int .i64 (.bool (.int .i64 (.int .i64 (.int .i64 (.int .i64 (.bool (.int .i64 (.int .i64 (.bool (.int .i64 (.int .i64 (.int .i64 (.int .i64 (.bool (.int .i64 (.int .i64 (.nil)))))))))))))))))) x4.2.1, .i x5.1, .q (.int .i64 (.bool (.int .i64 (.int .i64 (.int .i64 (.int .i64 (.bool (.int .i64 (.int .i64 (.bool (.int .i64 (.int .i64 (.int .i64 (.int .i64 (.bool (.int .i64 (.int .i64 (.nil)))))))))))))))))) x5.2.1]) k = draymanref34_Same_l0_run (fun y1 y2 y3 => k .ret (encSt [.dead, .dead, .dead, .dead, .bool, .dead, .dead, .dead, .dead, .dead, .dead, .dead, .dead, .dead, .dead, .dead, .dead, .dead, .dead, .dead, .dead, .dead, .dead, .dead, .dead, .dead, .dead, .dead, .dead, .dead, .dead, .dead, .dead, .dead, .dead, .dead, .dead, .dead] [] [.box [.int .i64, .sl (.int .i64 (.bool (.int .i64 (.int .i64 (.int .i64 (.int .i64 (.bool (.int .i64 (.int .i64 (.bool (.int .i64 (.int .i64 (.int .i64 (.int .i64 (.bool (.int .i64 (.int .i64 (.nil))))))))))))))))))], .box [.int .i64, .sl (.int .i64 (.bool (.int .i64 (.int .i64 (.int .i64 (.int .i64 (.bool (.int .i64 (.int .i64 (.bool (.int .i64 (.int .i64 (.int .i64 (.int .i64 (.bool (.int .i64 (.int .i64 (.nil))))))))))))))))))]] [.b y1, .i y2.1, .q (.int .i64 (.bool (.int .i64 (.int .i64 (.int .i64 (.int .i64 (.bool (.int .i64 (.int .i64 (.bool (.int .i64 (.int .i64 (.int .i64 (.int .i64 (.bool (.int .i64 (.int .i64 (.nil)))))))))))))))))) y2.2.1, .i y3.1, .q (.int .i64 (.bool (.int .i64 (.int .i64 (.int .i64 (.int .i64 (.bool (.int .i64 (.int .i64 (.bool (.int .i64 (.int .i64 (.int .i64 (.int .i64 (.bool (.int .i64 (.int .i64 (.nil)))))))))))))))))) y3.2.1])) (fun y1 y2 => k (.exit 0) (encSt [.dead, .dead, .dead, .dead, .dead, .dead, .dead, .dead, .dead, .dead, .dead, .dead, .dead, .dead, .dead, .dead, .dead, .dead, .dead, .dead, .dead, .dead, .dead, .dead, .dead, .dead, .dead, .dead, .dead, .dead, .dead, .dead, .dead, .dead, .dead, .dead, .dead, .dead] [] [.box [.int .i64, .sl (.int .i64 (.bool (.int .i64 (.int .i64 (.int .i64 (.int .i64 (.bool (.int .i64 (.int .i64 (.bool (.int .i64 (.int .i64 (.int .i64 (.int .i64 (.bool (.int .i64 (.int .i64 (.nil))))))))))))))))))], .box [.int .i64, .sl (.int .i64 (.bool (.int .i64 (.int .i64 (.int .i64 (.int .i64 (.bool (.int .i64 (.int .i64 (.bool (.int .i64 (.int .i64 (.int .i64 (.int .i64 (.bool (.int .i64 (.int .i64 (.nil))))))))))))))))))]] [.i y1.1, .q (.int .i64 (.bool (.int .i64 (.int .i64 (.int .i64 (.int .i64 (.bool (.int .i64 (.int .i64 (.bool (.int .i64 (.int .i64 (.int .i64 (.int .i64 (.bool (.int .i64 (.int .i64 (.nil)))))))))))))))))) y1.2.1, .i y2.1, .q (.int .i64 (.bool (.int .i64 (.int .i64 (.int .i64 (.int .i64 (.bool (.int .i64 (.int .i64 (.bool (.int .i64 (.int .i64 (.int .i64 (.int .i64 (.bool (.int .i64 (.int .i64 (.nil)))))))))))))))))) y2.2.1])) n i3 x4 x5 := by
  intro n
  induction n with
  | zero => intros; kernel_rfl
  | succ n ih =>
    intro i3 x4 x5 k
    have e : (fun (i3 : Int) (x4 : Int × (Seq Z0) × Unit) (x5 : Int × (Seq Z0) × Unit) => draymanref34_Same_l0_ev n (encSt draymanref34_Same_l0_t draymanref34_Same_l0_s draymanref34_Same_l0_h [.i i3, .i x4.1, .q (.int .i64 (.bool (.int .i64 (.int .i64 (.int .i64 (.int .i64 (.bool (.int .i64 (.int .i64 (.bool (.int .i64 (.int .i64 (.int .i64 (.int .i64 (.bool (.int .i64 (.int .i64 (.nil)))))))))))))))))) x4.2.1, .i x5.1, .q (.int .i64 (.bool (.int .i64 (.int .i64 (.int .i64 (.int .i64 (.bool (.int .i64 (.int .i64 (.bool (.int .i64 (.int .i64 (.int .i64 (.int .i64 (.bool (.int .i64 (.int .i64 (.nil)))))))))))))))))) x5.2.1]) k) = (fun (i3 : Int) (x4 : Int × (Seq Z0) × Unit) (x5 : Int × (Seq Z0) × Unit) => draymanref34_Same_l0_run (fun y1 y2 y3 => k .ret (encSt [.dead, .dead, .dead, .dead, .bool, .dead, .dead, .dead, .dead, .dead, .dead, .dead, .dead, .dead, .dead, .dead, .dead, .dead, .dead, .dead, .dead, .dead, .dead, .dead, .dead, .dead, .dead, .dead, .dead, .dead, .dead, .dead, .dead, .dead, .dead, .dead, .dead, .dead] [] [.box [.int .i64, .sl (.int .i64 (.bool (.int .i64 (.int .i64 (.int .i64 (.int .i64 (.bool (.int .i64 (.int .i64 (.bool (.int .i64 (.int .i64 (.int .i64 (.int .i64 (.bool (.int .i64 (.int .i64 (.nil))))))))))))))))))], .box [.int .i64, .sl (.int .i64 (.bool (.int .i64 (.int .i64 (.int .i64 (.int .i64 (.bool (.int .i64 (.int .i64 (.bool (.int .i64 (.int .i64 (.int .i64 (.int .i64 (.bool (.int .i64 (.int .i64 (.nil))))))))))))))))))]] [.b y1, .i y2.1, .q (.int .i64 (.bool (.int .i64 (.int .i64 (.int .i64 (.int .i64 (.bool (.int .i64 (.int .i64 (.bool (.int .i64 (.int .i64 (.int .i64 (.int .i64 (.bool (.int .i64 (.int .i64 (.nil)))))))))))))))))) y2.2.1, .i y3.1, .q (.int .i64 (.bool (.int .i64 (.int .i64 (.int .i64 (.int .i64 (.bool (.int .i64 (.int .i64 (.bool (.int .i64 (.int .i64 (.int .i64 (.int .i64 (.bool (.int .i64 (.int .i64 (.nil)))))))))))))))))) y3.2.1])) (fun y1 y2 => k (.exit 0) (encSt [.dead, .dead, .dead, .dead, .dead, .dead, .dead, .dead, .dead, .dead, .dead, .dead, .dead, .dead, .dead, .dead, .dead, .dead, .dead, .dead, .dead, .dead, .dead, .dead, .dead, .dead, .dead, .dead, .dead, .dead, .dead, .dead, .dead, .dead, .dead, .dead, .dead, .dead] [] [.box [.int .i64, .sl (.int .i64 (.bool (.int .i64 (.int .i64 (.int .i64 (.int .i64 (.bool (.int .i64 (.int .i64 (.bool (.int .i64 (.int .i64 (.int .i64 (.int .i64 (.bool (.int .i64 (.int .i64 (.nil))))))))))))))))))], .box [.int .i64, .sl (.int .i64 (.bool (.int .i64 (.int .i64 (.int .i64 (.int .i64 (.bool (.int .i64 (.int .i64 (.bool (.int .i64 (.int .i64 (.int .i64 (.int .i64 (.bool (.int .i64 (.int .i64 (.nil))))))))))))))))))]] [.i y1.1, .q (.int .i64 (.bool (.int .i64 (.int .i64 (.int .i64 (.int .i64 (.bool (.int .i64 (.int .i64 (.bool (.int .i64 (.int .i64 (.int .i64 (.int .i64 (.bool (.int .i64 (.int .i64 (.nil)))))))))))))))))) y1.2.1, .i y2.1, .q (.int .i64 (.bool (.int .i64 (.int .i64 (.int .i64 (.int .i64 (.bool (.int .i64 (.int .i64 (.bool (.int .i64 (.int .i64 (.int .i64 (.int .i64 (.bool (.int .i64 (.int .i64 (.nil)))))))))))))))))) y2.2.1])) n i3 x4 x5) := by
      funext i3 x4 x5
      exact ih i3 x4 x5 k
    have h1 : draymanref34_Same_l0_ev (n + 1) (encSt draymanref34_Same_l0_t draymanref34_Same_l0_s draymanref34_Same_l0_h [.i i3, .i x4.1, .q (.int .i64 (.bool (.int .i64 (.int .i64 (.int .i64 (.int .i64 (.bool (.int .i64 (.int .i64 (.bool (.int .i64 (.int .i64 (.int .i64 (.int .i64 (.bool (.int .i64 (.int .i64 (.nil)))))))))))))))))) x4.2.1, .i x5.1, .q (.int .i64 (.bool (.int .i64 (.int .i64 (.int .i64 (.int .i64 (.bool (.int .i64 (.int .i64 (.bool (.int .i64 (.int .i64 (.int .i64 (.int .i64 (.bool (.int .i64 (.int .i64 (.nil)))))))))))))))))) x5.2.1]) k = draymanref34_Same_l0_step (fun y1 y2 y3 => k .ret (encSt [.dead, .dead, .dead, .dead, .bool, .dead, .dead, .dead, .dead, .dead, .dead, .dead, .dead, .dead, .dead, .dead, .dead, .dead, .dead, .dead, .dead, .dead, .dead, .dead, .dead, .dead, .dead, .dead, .dead, .dead, .dead, .dead, .dead, .dead, .dead, .dead, .dead, .dead] [] [.box [.int .i64, .sl (.int .i64 (.bool (.int .i64 (.int .i64 (.int .i64 (.int .i64 (.bool (.int .i64 (.int .i64 (.bool (.int .i64 (.int .i64 (.int .i64 (.int .i64 (.bool (.int .i64 (.int .i64 (.nil))))))))))))))))))], .box [.int .i64, .sl (.int .i64 (.bool (.int .i64 (.int .i64 (.int .i64 (.int .i64 (.bool (.int .i64 (.int .i64 (.bool (.int .i64 (.int .i64 (.int .i64 (.int .i64 (.bool (.int .i64 (.int .i64 (.nil))))))))))))))))))]] [.b y1, .i y2.1, .q (.int .i64 (.bool (.int .i64 (.int .i64 (.int .i64 (.int .i64 (.bool (.int .i64 (.int .i64 (.bool (.int .i64 (.int .i64 (.int .i64 (.int .i64 (.bool (.int .i64 (.int .i64 (.nil)))))))))))))))))) y2.2.1, .i y3.1, .q (.int .i64 (.bool (.int .i64 (.int .i64 (.int .i64 (.int .i64 (.bool (.int .i64 (.int .i64 (.bool (.int .i64 (.int .i64 (.int .i64 (.int .i64 (.bool (.int .i64 (.int .i64 (.nil)))))))))))))))))) y3.2.1])) (fun y1 y2 => k (.exit 0) (encSt [.dead, .dead, .dead, .dead, .dead, .dead, .dead, .dead, .dead, .dead, .dead, .dead, .dead, .dead, .dead, .dead, .dead, .dead, .dead, .dead, .dead, .dead, .dead, .dead, .dead, .dead, .dead, .dead, .dead, .dead, .dead, .dead, .dead, .dead, .dead, .dead, .dead, .dead] [] [.box [.int .i64, .sl (.int .i64 (.bool (.int .i64 (.int .i64 (.int .i64 (.int .i64 (.bool (.int .i64 (.int .i64 (.bool (.int .i64 (.int .i64 (.int .i64 (.int .i64 (.bool (.int .i64 (.int .i64 (.nil))))))))))))))))))], .box [.int .i64, .sl (.int .i64 (.bool (.int .i64 (.int .i64 (.int .i64 (.int .i64 (.bool (.int .i64 (.int .i64 (.bool (.int .i64 (.int .i64 (.int .i64 (.int .i64 (.bool (.int .i64 (.int .i64 (.nil))))))))))))))))))]] [.i y1.1, .q (.int .i64 (.bool (.int .i64 (.int .i64 (.int .i64 (.int .i64 (.bool (.int .i64 (.int .i64 (.bool (.int .i64 (.int .i64 (.int .i64 (.int .i64 (.bool (.int .i64 (.int .i64 (.nil)))))))))))))))))) y1.2.1, .i y2.1, .q (.int .i64 (.bool (.int .i64 (.int .i64 (.int .i64 (.int .i64 (.bool (.int .i64 (.int .i64 (.bool (.int .i64 (.int .i64 (.int .i64 (.int .i64 (.bool (.int .i64 (.int .i64 (.nil)))))))))))))))))) y2.2.1])) (fun (i3 : Int) (x4 : Int × (Seq Z0) × Unit) (x5 : Int × (Seq Z0) × Unit) => draymanref34_Same_l0_ev n (encSt draymanref34_Same_l0_t draymanref34_Same_l0_s draymanref34_Same_l0_h [.i i3, .i x4.1, .q (.int .i64 (.bool (.int .i64 (.int .i64 (.int .i64 (.int .i64 (.bool (.int .i64 (.int .i64 (.bool (.int .i64 (.int .i64 (.int .i64 (.int .i64 (.bool (.int .i64 (.int .i64 (.nil)))))))))))))))))) x4.2.1, .i x5.1, .q (.int .i64 (.bool (.int .i64 (.int .i64 (.int .i64 (.int .i64 (.bool (.int .i64 (.int .i64 (.bool (.int .i64 (.int .i64 (.int .i64 (.int .i64 (.bool (.int .i64 (.int .i64 (.nil)))))))))))))))))) x5.2.1]) k) i3 x4 x5 := by kernel_rfl
    have h2 := congrArg (fun r => draymanref34_Same_l0_step (fun y1 y2 y3 => k .ret (encSt [.dead, .dead, .dead, .dead, .bool, .dead, .dead, .dead, .dead, .dead, .dead, .dead, .dead, .dead, .dead, .dead, .dead, .dead, .dead, .dead, .dead, .dead, .dead, .dead, .dead, .dead, .dead, .dead, .dead, .dead, .dead, .dead, .dead, .dead, .dead, .dead, .dead, .dead] [] [.box [.int .i64, .sl (.int .i64 (.bool (.int .i64 (.int .i64 (.int .i64 (.int .i64 (.bool (.int .i64 (.int .i64 (.bool (.int .i64 (.int .i64 (.int .i64 (.int .i64 (.bool (.int .i64 (.int .i64 (.nil))))))))))))))))))], .box [.int .i64, .sl (.int .i64 (.bool (.int .i64 (.int .i64 (.int .i64 (.int .i64 (.bool (.int .i64 (.int .i64 (.bool (.int .i64 (.int .i64 (.int .i64 (.int .i64 (.bool (.int .i64 (.int .i64 (.nil))))))))))))))))))]] [.b y1, .i y2.1, .q (.int .i64 (.bool (.int .i64 (.int .i64 (.int .i64 (.int .i64 (.bool (.int .i64 (.int .i64 (.bool (.int .i64 (.int .i64 (.int .i64 (.int .i64 (.bool (.int .i64 (.int .i64 (.nil)))))))))))))))))) y2.2.1, .i y3.1, .q (.int .i64 (.bool (.int .i64 (.int .i64 (.int .i64 (.int .i64 (.bool (.int .i64 (.int .i64 (.bool (.int .i64 (.int .i64 (.int .i64 (.int .i64 (.bool (.int .i64 (.int .i64 (.nil)))))))))))))))))) y3.2.1])) (fun y1 y2 => k (.exit 0) (encSt [.dead, .dead, .dead, .dead, .dead, .dead, .dead, .dead, .dead, .dead, .dead, .dead, .dead, .dead, .dead, .dead, .dead, .dead, .dead, .dead, .dead, .dead, .dead, .dead, .dead, .dead, .dead, .dead, .dead, .dead, .dead, .dead, .dead, .dead, .dead, .dead, .dead, .dead] [] [.box [.int .i64, .sl (.int .i64 (.bool (.int .i64 (.int .i64 (.int .i64 (.int .i64 (.bool (.int .i64 (.int .i64 (.bool (.int .i64 (.int .i64 (.int .i64 (.int .i64 (.bool (.int .i64 (.int .i64 (.nil))))))))))))))))))], .box [.int .i64, .sl (.int .i64 (.bool (.int .i64 (.int .i64 (.int .i64 (.int .i64 (.bool (.int .i64 (.int .i64 (.bool (.int .i64 (.int .i64 (.int .i64 (.int .i64 (.bool (.int .i64 (.int .i64 (.nil))))))))))))))))))]] [.i y1.1, .q (.int .i64 (.bool (.int .i64 (.int .i64 (.int .i64 (.int .i64 (.bool (.int .i64 (.int .i64 (.bool (.int .i64 (.int .i64 (.int .i64 (.int .i64 (.bool (.int .i64 (.int .i64 (.nil)))))))))))))))))) y1.2.1, .i y2.1, .q (.int .i64 (.bool (.int .i64 (.int .i64 (.int .i64 (.int .i64 (.bool (.int .i64 (.int .i64 (.bool (.int .i64 (.int .i64 (.int .i64 (.int .i64 (.bool (.int .i64 (.int .i64 (.nil)))))))))))))))))) y2.2.1])) r i3 x4 x5) e
    have h3 : draymanref34_Same_l0_step (fun y1 y2 y3 => k .ret (encSt [.dead, .dead, .dead, .dead, .bool, .dead, .dead, .dead, .dead, .dead, .dead, .dead, .dead, .dead, .dead, .dead, .dead, .dead, .dead, .dead, .dead, .dead, .dead, .dead, .dead, .dead, .dead, .dead, .dead, .dead, .dead, .dead, .dead, .dead, .dead, .dead, .dead, .dead] [] [.box [.int .i64, .sl (.int .i64 (.bool (.int .i64 (.int .i64 (.int .i64 (.int .i64 (.bool (.int .i64 (.int .i64 (.bool (.int .i64 (.int .i64 (.int .i64 (.int .i64 (.bool (.int .i64 (.int .i64 (.nil))))))))))))))))))], .box [.int .i64, .sl (.int .i64 (.bool (.int .i64 (.int .i64 (.int .i64 (.int .i64 (.bool (.int .i64 (.int .i64 (.bool (.int .i64 (.int .i64 (.int .i64 (.int .i64 (.bool (.int .i64 (.int .i64 (.nil))))))))))))))))))]] [.b y1, .i y2.1, .q (.int .i64 (.bool (.int .i64 (.int .i64 (.int .i64 (.int .i64 (.bool (.int .i64 (.int .i64 (.bool (.int .i64 (.int .i64 (.int .i64 (.int .i64 (.bool (.int .i64 (.int .i64 (.nil)))))))))))))))))) y2.2.1, .i y3.1, .q (.int .i64 (.bool (.int .i64 (.int .i64 (.int .i64 (.int .i64 (.bool (.int .i64 (.int .i64 (.bool (.int .i64 (.int .i64 (.int .i64 (.int .i64 (.bool (.int .i64 (.int .i64 (.nil)))))))))))))))))) y3.2.1])) (fun y1 y2 => k (.exit 0) (encSt [.dead, .dead, .dead, .dead, .dead, .dead, .dead, .dead, .dead, .dead, .dead, .dead, .dead, .dead, .dead, .dead, .dead, .dead, .dead, .dead, .dead, .dead, .dead, .dead, .dead, .dead, .dead, .dead, .dead, .dead, .dead, .dead, .dead, .dead, .dead, .dead, .dead, .dead] [] [.box [.int .i64, .sl (.int .i64 (.bool (.int .i64 (.int .i64 (.int .i64 (.int .i64 (.bool (.int .i64 (.int .i64 (.bool (.int .i64 (.int .i64 (.int .i64 (.int .i64 (.bool (.int .i64 (.int .i64 (.nil))))))))))))))))))], .box [.int .i64, .sl (.int .i64 (.bool (.int .i64 (.int .i64 (.int .i64 (.int .i64 (.bool (.int .i64 (.int .i64 (.bool (.int .i64 (.int .i64 (.int .i64 (.int .i64 (.bool (.int .i64 (.int .i64 (.nil))))))))))))))))))]] [.i y1.1, .q (.int .i64 (.bool (.int .i64 (.int .i64 (.int .i64 (.int .i64 (.bool (.int .i64 (.int .i64 (.bool (.int .i64 (.int .i64 (.int .i64 (.int .i64 (.bool (.int .i64 (.int .i64 (.nil)))))))))))))))))) y1.2.1, .i y2.1, .q (.int .i64 (.bool (.int .i64 (.int .i64 (.int .i64 (.int .i64 (.bool (.int .i64 (.int .i64 (.bool (.int .i64 (.int .i64 (.int .i64 (.int .i64 (.bool (.int .i64 (.int .i64 (.nil)))))))))))))))))) y2.2.1])) (fun (i3 : Int) (x4 : Int × (Seq Z0) × Unit) (x5 : Int × (Seq Z0) × Unit) => draymanref34_Same_l0_run (fun y1 y2 y3 => k .ret (encSt [.dead, .dead, .dead, .dead, .bool, .dead, .dead, .dead, .dead, .dead, .dead, .dead, .dead, .dead, .dead, .dead, .dead, .dead, .dead, .dead, .dead, .dead, .dead, .dead, .dead, .dead, .dead, .dead, .dead, .dead, .dead, .dead, .dead, .dead, .dead, .dead, .dead, .dead] [] [.box [.int .i64, .sl (.int .i64 (.bool (.int .i64 (.int .i64 (.int .i64 (.int .i64 (.bool (.int .i64 (.int .i64 (.bool (.int .i64 (.int .i64 (.int .i64 (.int .i64 (.bool (.int .i64 (.int .i64 (.nil))))))))))))))))))], .box [.int .i64, .sl (.int .i64 (.bool (.int .i64 (.int .i64 (.int .i64 (.int .i64 (.bool (.int .i64 (.int .i64 (.bool (.int .i64 (.int .i64 (.int .i64 (.int .i64 (.bool (.int .i64 (.int .i64 (.nil))))))))))))))))))]] [.b y1, .i y2.1, .q (.int .i64 (.bool (.int .i64 (.int .i64 (.int .i64 (.int .i64 (.bool (.int .i64 (.int .i64 (.bool (.int .i64 (.int .i64 (.int .i64 (.int .i64 (.bool (.int .i64 (.int .i64 (.nil)))))))))))))))))) y2.2.1, .i y3.1, .q (.int .i64 (.bool (.int .i64 (.int .i64 (.int .i64 (.int .i64 (.bool (.int .i64 (.int .i64 (.bool (.int .i64 (.int .i64 (.int .i64 (.int .i64 (.bool (.int .i64 (.int .i64 (.nil)))))))))))))))))) y3.2.1])) (fun y1 y2 => k (.exit 0) (encSt [.dead, .dead, .dead, .dead, .dead, .dead, .dead, .dead, .dead, .dead, .dead, .dead, .dead, .dead, .dead, .dead, .dead, .dead, .dead, .dead, .dead, .dead, .dead, .dead, .dead, .dead, .dead, .dead, .dead, .dead, .dead, .dead, .dead, .dead, .dead, .dead, .dead, .dead] [] [.box [.int .i64, .sl (.int .i64 (.bool (.int .i64 (.int .i64 (.int .i64 (.int .i64 (.bool (.int .i64 (.int .i64 (.bool (.int .i64 (.int .i64 (.int .i64 (.int .i64 (.bool (.int .i64 (.int .i64 (.nil))))))))))))))))))], .box [.int .i64, .sl (.int .i64 (.bool (.int .i64 (.int .i64 (.int .i64 (.int .i64 (.bool (.int .i64 (.int .i64 (.bool (.int .i64 (.int .i64 (.int .i64 (.int .i64 (.bool (.int .i64 (.int .i64 (.nil))))))))))))))))))]] [.i y1.1, .q (.int .i64 (.bool (.int .i64 (.int .i64 (.int .i64 (.int .i64 (.bool (.int .i64 (.int .i64 (.bool (.int .i64 (.int .i64 (.int .i64 (.int .i64 (.bool (.int .i64 (.int .i64 (.nil)))))))))))))))))) y1.2.1, .i y2.1, .q (.int .i64 (.bool (.int .i64 (.int .i64 (.int .i64 (.int .i64 (.bool (.int .i64 (.int .i64 (.bool (.int .i64 (.int .i64 (.int .i64 (.int .i64 (.bool (.int .i64 (.int .i64 (.nil)))))))))))))))))) y2.2.1])) n i3 x4 x5) i3 x4 x5 = draymanref34_Same_l0_run (fun y1 y2 y3 => k .ret (encSt [.dead, .dead, .dead, .dead, .bool, .dead, .dead, .dead, .dead, .dead, .dead, .dead, .dead, .dead, .dead, .dead, .dead, .dead, .dead, .dead, .dead, .dead, .dead, .dead, .dead, .dead, .dead, .dead, .dead, .dead, .dead, .dead, .dead, .dead, .dead, .dead, .dead, .dead] [] [.box [.int .i64, .sl (.int .i64 (.bool (.int .i64 (.int .i64 (.int .i64 (.int .i64 (.bool (.int .i64 (.int .i64 (.bool (.int .i64 (.int .i64 (.int .i64 (.int .i64 (.bool (.int .i64 (.int .i64 (.nil))))))))))))))))))], .box [.int .i64, .sl (.int .i64 (.bool (.int .i64 (.int .i64 (.int .i64 (.int .i64 (.bool (.int .i64 (.int .i64 (.bool (.int .i64 (.int .i64 (.int .i64 (.int .i64 (.bool (.int .i64 (.int .i64 (.nil))))))))))))))))))]] [.b y1, .i y2.1, .q (.int .i64 (.bool (.int .i64 (.int .i64 (.int .i64 (.int .i64 (.bool (.int .i64 (.int .i64 (.bool (.int .i64 (.int .i64 (.int .i64 (.int .i64 (.bool (.int .i64 (.int .i64 (.nil)))))))))))))))))) y2.2.1, .i y3.1, .q (.int .i64 (.bool (.int .i64 (.int .i64 (.int .i64 (.int .i64 (.bool (.int .i64 (.int .i64 (.bool (.int .i64 (.int .i64 (.int .i64 (.int .i64 (.bool (.int .i64 (.int .i64 (.nil)))))))))))))))))) y3.2.1])) (fun y1 y2 => k (.exit 0) (encSt [.dead, .dead, .dead, .dead, .dead, .dead, .dead, .dead, .dead, .dead, .dead, .dead, .dead, .dead, .dead, .dead, .dead, .dead, .dead, .dead, .dead, .dead, .dead, .dead, .dead, .dead, .dead, .dead, .dead, .dead, .dead, .dead, .dead, .dead, .dead, .dead, .dead, .dead] [] [.box [.int .i64, .sl (.int .i64 (.bool (.int .i64 (.int .i64 (.int .i64 (.int .i64 (.bool (.int .i64 (.int .i64 (.bool (.int .i64 (.int .i64 (.int .i64 (.int .i64 (.bool (.int .i64 (.int .i64 (.nil))))))))))))))))))], .box [.int .i64, .sl (.int .i64 (.bool (.int .i64 (.int .i64 (.int .i64 (.int .i64 (.bool (.int .i64 (.int .i64 (.bool (.int .i64 (.int .i64 (.int .i64 (.int .i64 (.bool (.int .i64 (.int .i64 (.nil))))))))))))))))))]] [.i y1.1, .q (.int .i64 (.bool (.int .i64 (.int .i64 (.int .i64 (.int .i64 (.bool (.int .i64 (.int .i64 (.bool (.int .i64 (.int .i64 (.int .i64 (.int .i64 (.bool (.int .i64 (.int .i64 (.nil)))))))))))))))))) y1.2.1, .i y2.1, .q (.int .i64 (.bool (.int .i64 (.int .i64 (.int .i64 (.int .i64 (.bool (.int .i64 (.int .i64 (.bool (.int .i64 (.int .i64 (.int .i64 (.int .i64 (.bool (.int .i64 (.int .i64 (.nil)))))))))))))))))) y2.2.1])) (n + 1) i3 x4 x5 := by kernel_rfl
    exact h1.trans (h2.trans h3)

theorem draymanref34_Same_l0_ok {α : Type} : (draymanref34_Same_l0_spec : LoopSpec α).ok Go.Proofs.Try.prog (envOf (draymanref34_Same_C) draymanref34_Same_q draymanref34_Same_inl 1000 draymanref34_Same_ann false (draymanref34_Same_loops) (fun _ => none)) := by
  intro ds k
  have h1 : draymanref34_Same_l0_ev 1000 (encSt draymanref34_Same_l0_t draymanref34_Same_l0_s draymanref34_Same_l0_h ds) k = draymanref34_Same_l0_ev 1000 (encSt draymanref34_Same_l0_t draymanref34_Same_l0_s draymanref34_Same_l0_h [.i (hdI ds), .i ((hdI ds.tail, hdQ (.int .i64 (.bool (.int .i64 (.int .i64 (.int .i64 (.int .i64 (.bool (.int .i64 (.int .i64 (.bool (.int .i64 (.int .i64 (.int .i64 (.int .i64 (.bool (.int .i64 (.int .i64 (.nil)))))))))))))))))) ds.tail.tail, ()).1), .q (.int .i64 (.bool (.int .i64 (.int .i64 (.int .i64 (.int .i64 (.bool (.int .i64 (.int .i64 (.bool (.int .i64 (.int .i64 (.int .i64 (.int .i64 (.bool (.int .i64 (.int .i64 (.nil)))))))))))))))))) ((hdI ds.tail, hdQ (.int .i64 (.bool (.int .i64 (.int .i64 (.int .i64 (.int .i64 (.bool (.int .i64 (.int .i64 (.bool (.int .i64 (.int .i64 (.int .i64 (.int .i64 (.bool (.int .i64 (.int .i64 (.nil)))))))))))))))))) ds.tail.tail, ()).2.1), .i ((hdI ds.tail.tail.tail, hdQ (.int .i64 (.bool (.int .i64 (.int .i64 (.int .i64 (.int .i64 (.bool (.int .i64 (.int .i64 (.bool (.int .i64 (.int .i64 (.int .i64 (.int .i64 (.bool (.int .i64 (.int .i64 (.nil)))))))))))))))))) ds.tail.tail.tail.tail, ()).1), .q (.int .i64 (.bool (.int .i64 (.int .i64 (.int .i64 (.int .i64 (.bool (.int .i64 (.int .i64 (.bool (.int .i64 (.int .i64 (.int .i64 (.int .i64 (.bool (.int .i64 (.int .i64 (.nil)))))))))))))))))) ((hdI ds.tail.tail.tail, hdQ (.int .i64 (.bool (.int .i64 (.int .i64 (.int .i64 (.int .i64 (.bool (.int .i64 (.int .i64 (.bool (.int .i64 (.int .i64 (.int .i64 (.int .i64 (.bool (.int .i64 (.int .i64 (.nil)))))))))))))))))) ds.tail.tail.tail.tail, ()).2.1)]) k := by kernel_rfl
  have h2 := draymanref34_Same_l0_eq 1000 (hdI ds) (hdI ds.tail, hdQ (.int .i64 (.bool (.int .i64 (.int .i64 (.int .i64 (.int .i64 (.bool (.int .i64 (.int .i64 (.bool (.int .i64 (.int .i64 (.int .i64 (.int .i64 (.bool (.int .i64 (.int .i64 (.nil)))))))))))))))))) ds.tail.tail, ()) (hdI ds.tail.tail.tail, hdQ (.int .i64 (.bool (.int .i64 (.int .i64 (.int .i64 (.int .i64 (.bool (.int .i64 (.int .i64 (.bool (.int .i64 (.int .i64 (.int .i64 (.int .i64 (.bool (.int .i64 (.int .i64 (.nil)))))))))))))))))) ds.tail.tail.tail.tail, ()) k
  exact h1.trans h2

theorem draymanref34_Same_ev {α : Type} : EvOk (α := α) Go.Proofs.Try.prog (envOf (draymanref34_Same_C) draymanref34_Same_q draymanref34_Same_inl 1000 draymanref34_Same_ann false (draymanref34_Same_loops) (fun _ => none)) 6 (draymanref34_Same_sp (draymanref34_Same)) := by intro ds k; kernel_rfl

theorem draymanref34_Same_ok {α : Type} : (draymanref34_Same_spec : FunSpec α).ok Go.Proofs.Try.prog :=
  FunSpec.ok_of (sp := draymanref34_Same_spec) (C := draymanref34_Same_C) (q := draymanref34_Same_q) (inl := draymanref34_Same_inl) (N := 1000) (ann := draymanref34_Same_ann) (fr := false) (D := 6) (l := (draymanref34_Same_loops)) (hk := (fun _ => none)) okNil (lokCons (draymanref34_Same_l0_ok) lokNil) noHooks (draymanref34_Same_ev)

end
end Go.Rv.Try

set_option linter.unusedVariables false
set_option maxRecDepth 100000
set_option maxHeartbeats 4000000
namespace Go.Rv.Try
open Go Go.Rv Go.RowKit
noncomputable section

-- drayman/draymanlaw34.same

abbrev draymanlaw34_same_T (α : Type) : Type := (Int × (Seq Z0) × Unit) → (Int × (Seq Z0) × Unit) → (Bool → Option α) → Option α

noncomputable def draymanlaw34_same_g {α : Type} (draymanref34_Same : draymanref34_Same_T α) (a1 : Int × (Seq Z0) × Unit) (b2 : Int × (Seq Z0) × Unit) (k : Bool → Option α) : Option α :=
  (draymanref34_Same a1 b2 fun r3 =>
    (k r3))

noncomputable def draymanlaw34_same {α : Type} : draymanlaw34_same_T α := draymanlaw34_same_g draymanref34_Same

noncomputable def draymanlaw34_same_sp {α : Type} (draymanlaw34_same : draymanlaw34_same_T α) : FunSpec α := ⟨26, [.agg [.int .i64, .sl (.int .i64 (.bool (.int .i64 (.int .i64 (.int .i64 (.int .i64 (.bool (.int .i64 (.int .i64 (.bool (.int .i64 (.int .i64 (.int .i64 (.int .i64 (.bool (.int .i64 (.int .i64 (.nil))))))))))))))))))], .agg [.int .i64, .sl (.int .i64 (.bool (.int .i64 (.int .i64 (.int .i64 (.int .i64 (.bool (.int .i64 (.int .i64 (.bool (.int .i64 (.int .i64 (.int .i64 (.int .i64 (.bool (.int .i64 (.int .i64 (.nil))))))))))))))))))]], [], fun ds k => draymanlaw34_same (hdI ds, hdQ (.int .i64 (.bool (.int .i64 (.int .i64 (.int .i64 (.int .i64 (.bool (.int .i64 (.int .i64 (.bool (.int .i64 (.int .i64 (.int .i64 (.int .i64 (.bool (.int .i64 (.int .i64 (.nil)))))))))))))))))) ds.tail, ()) (hdI ds.tail.tail, hdQ (.int .i64 (.bool (.int .i64 (.int .i64 (.int .i64 (.int .i64 (.bool (.int .i64 (.int .i64 (.bool (.int .i64 (.int .i64 (.int .i64 (.int .i64 (.bool (.int .i64 (.int .i64 (.nil)))))))))))))))))) ds.tail.tail.tail, ()) (fun r1 => k (enc dep (.bool) [.b r1]).1 [])⟩

noncomputable def draymanlaw34_same_spec {α : Type} : FunSpec α := draymanlaw34_same_sp draymanlaw34_same

noncomputable def draymanlaw34_same_C {α : Type} (draymanref34_Same : draymanref34_Same_T α) : List (FunSpec α) := [draymanref34_Same_sp draymanref34_Same]

noncomputable def draymanlaw34_same_q : FuncId → Bool := fun f => Nat.beq f 31

noncomputable def draymanlaw34_same_inl : FuncId → Bool := fun f => false

noncomputable def draymanlaw34_same_ann : FuncId → AnnT := fun f p => ⟨[], [], [], [], 0, [], []⟩

noncomputable def draymanlaw34_same_loops {α : Type} (draymanref34_Same : draymanref34_Same_T α) : List (LoopSpec α) := []

theorem draymanlaw34_same_ev {α : Type} (draymanref34_Same : draymanref34_Same_T α) : EvOk (α := α) Go.Proofs.Try.prog (envOf (draymanlaw34_same_C draymanref34_Same) draymanlaw34_same_q draymanlaw34_same_inl 1000 draymanlaw34_same_ann false (draymanlaw34_same_loops draymanref34_Same) (fun _ => none)) 6 (draymanlaw34_same_sp (draymanlaw34_same_g draymanref34_Same)) := by intro ds k; kernel_rfl

theorem draymanlaw34_same_ok {α : Type} : (draymanlaw34_same_spec : FunSpec α).ok Go.Proofs.Try.prog :=
  FunSpec.ok_of (sp := draymanlaw34_same_spec) (C := draymanlaw34_same_C draymanref34_Same) (q := draymanlaw34_same_q) (inl := draymanlaw34_same_inl) (N := 1000) (ann := draymanlaw34_same_ann) (fr := false) (D := 6) (l := (draymanlaw34_same_loops draymanref34_Same)) (hk := (fun _ => none)) (okCons draymanref34_Same_ok okNil) lokNil noHooks (draymanlaw34_same_ev draymanref34_Same)

end
end Go.Rv.Try

set_option linter.unusedVariables false
set_option maxRecDepth 100000
set_option maxHeartbeats 4000000
namespace Go.Rv.Try
open Go Go.Rv Go.RowKit
noncomputable section

-- drayman/draymanref34.Ask

abbrev draymanref34_Ask_T (α : Type) : Type := (Int × (Seq Z0) × Unit) → Z1 → ((Int × (Seq Z0) × Unit) → Option α) → Option α

noncomputable def draymanref34_Ask_g {α : Type} (draymanref17_Service : draymanref17_Service_T α) (draymanref34_put : draymanref34_put_T α) (n1 : Int × (Seq Z0) × Unit) (x2 : Int × Int × Int × Bool × Int × Int × Bool × Unit) (k : (Int × (Seq Z0) × Unit) → Option α) : Option α :=
  (draymanref17_Service x2.2.2.2.2.1 fun r3 =>
    (draymanref34_put n1 (0, true, r3, x2.1, x2.2.1, x2.2.2.1, x2.2.2.2.1, x2.2.2.2.2.1, x2.2.2.2.2.2.1, x2.2.2.2.2.2.2.1, 0, 0, 0, 0, false, 0, 0, ()) fun r4 =>
      (k r4)))

noncomputable def draymanref34_Ask {α : Type} : draymanref34_Ask_T α := draymanref34_Ask_g draymanref17_Service draymanref34_put

noncomputable def draymanref34_Ask_sp {α : Type} (draymanref34_Ask : draymanref34_Ask_T α) : FunSpec α := ⟨27, [.agg [.int .i64, .sl (.int .i64 (.bool (.int .i64 (.int .i64 (.int .i64 (.int .i64 (.bool (.int .i64 (.int .i64 (.bool (.int .i64 (.int .i64 (.int .i64 (.int .i64 (.bool (.int .i64 (.int .i64 (.nil))))))))))))))))))], .agg [.int .i64, .int .i64, .int .i64, .bool, .int .i64, .int .i64, .bool]], [], fun ds k => draymanref34_Ask (hdI ds, hdQ (.int .i64 (.bool (.int .i64 (.int .i64 (.int .i64 (.int .i64 (.bool (.int .i64 (.int .i64 (.bool (.int .i64 (.int .i64 (.int .i64 (.int .i64 (.bool (.int .i64 (.int .i64 (.nil)))))))))))))))))) ds.tail, ()) (hdI ds.tail.tail, hdI ds.tail.tail.tail, hdI ds.tail.tail.tail.tail, hdB ds.tail.tail.tail.tail.tail, hdI ds.tail.tail.tail.tail.tail.tail, hdI ds.tail.tail.tail.tail.tail.tail.tail, hdB ds.tail.tail.tail.tail.tail.tail.tail.tail, ()) (fun r1 => k (enc dep (.agg [.int .i64, .sl (.int .i64 (.bool (.int .i64 (.int .i64 (.int .i64 (.int .i64 (.bool (.int .i64 (.int .i64 (.bool (.int .i64 (.int .i64 (.int .i64 (.int .i64 (.bool (.int .i64 (.int .i64 (.nil))))))))))))))))))]) [.i r1.1, .q (.int .i64 (.bool (.int .i64 (.int .i64 (.int .i64 (.int .i64 (.bool (.int .i64 (.int .i64 (.bool (.int .i64 (.int .i64 (.int .i64 (.int .i64 (.bool (.int .i64 (.int .i64 (.nil)))))))))))))))))) r1.2.1]).1 [])⟩

noncomputable def draymanref34_Ask_spec {α : Type} : FunSpec α := draymanref34_Ask_sp draymanref34_Ask

noncomputable def draymanref34_Ask_C {α : Type} (draymanref17_Service : draymanref17_Service_T α) (draymanref34_put : draymanref34_put_T α) : List (FunSpec α) := [draymanref17_Service_sp draymanref17_Service, draymanref34_put_sp draymanref34_put]

noncomputable def draymanref34_Ask_q : FuncId → Bool := fun f => Nat.beq f 87

noncomputable def draymanref34_Ask_inl : FuncId → Bool := fun f => false

noncomputable def draymanref34_Ask_ann : FuncId → AnnT := fun f p => if f = 27 then (if p = [false, true] then ⟨[], [2], [], [], 2, [], []⟩ else ⟨[], [], [], [], 0, [], []⟩) else ⟨[], [], [], [], 0, [], []⟩

noncomputable def draymanref34_Ask_loops {α : Type} (draymanref17_Service : draymanref17_Service_T α) (draymanref34_put : draymanref34_put_T α) : List (LoopSpec α) := []

theorem draymanref34_Ask_ev {α : Type} (draymanref17_Service : draymanref17_Service_T α) (draymanref34_put : draymanref34_put_T α) : EvOk (α := α) Go.Proofs.Try.prog (envOf (draymanref34_Ask_C draymanref17_Service draymanref34_put) draymanref34_Ask_q draymanref34_Ask_inl 1000 draymanref34_Ask_ann false (draymanref34_Ask_loops draymanref17_Service draymanref34_put) (fun _ => none)) 6 (draymanref34_Ask_sp (draymanref34_Ask_g draymanref17_Service draymanref34_put)) := by intro ds k; kernel_rfl

theorem draymanref34_Ask_ok {α : Type} : (draymanref34_Ask_spec : FunSpec α).ok Go.Proofs.Try.prog :=
  FunSpec.ok_of (sp := draymanref34_Ask_spec) (C := draymanref34_Ask_C draymanref17_Service draymanref34_put) (q := draymanref34_Ask_q) (inl := draymanref34_Ask_inl) (N := 1000) (ann := draymanref34_Ask_ann) (fr := false) (D := 6) (l := (draymanref34_Ask_loops draymanref17_Service draymanref34_put)) (hk := (fun _ => none)) (okCons draymanref17_Service_ok (okCons draymanref34_put_ok okNil)) lokNil noHooks (draymanref34_Ask_ev draymanref17_Service draymanref34_put)

end
end Go.Rv.Try

set_option linter.unusedVariables false
set_option maxRecDepth 100000
set_option maxHeartbeats 4000000
namespace Go.Rv.Try
open Go Go.Rv Go.RowKit
noncomputable section

-- drayman/draymanref34.Tell

abbrev draymanref34_Tell_T (α : Type) : Type := (Int × (Seq Z0) × Unit) → (Int × Int × Int × Int × Bool × Int × Int × Unit) → ((Int × (Seq Z0) × Unit) → Option α) → Option α

noncomputable def draymanref34_Tell_g {α : Type} (draymanref34_put : draymanref34_put_T α) (n1 : Int × (Seq Z0) × Unit) (r2 : Int × Int × Int × Int × Bool × Int × Int × Unit) (k : (Int × (Seq Z0) × Unit) → Option α) : Option α :=
  (draymanref34_put n1 (0, false, r2.1, 0, 0, 0, false, 0, 0, false, r2.1, r2.2.1, r2.2.2.1, r2.2.2.2.1, r2.2.2.2.2.1, r2.2.2.2.2.2.1, r2.2.2.2.2.2.2.1, ()) fun r3 =>
    (k r3))

noncomputable def draymanref34_Tell {α : Type} : draymanref34_Tell_T α := draymanref34_Tell_g draymanref34_put

noncomputable def draymanref34_Tell_sp {α : Type} (draymanref34_Tell : draymanref34_Tell_T α) : FunSpec α := ⟨28, [.agg [.int .i64, .sl (.int .i64 (.bool (.int .i64 (.int .i64 (.int .i64 (.int .i64 (.bool (.int .i64 (.int .i64 (.bool (.int .i64 (.int .i64 (.int .i64 (.int .i64 (.bool (.int .i64 (.int .i64 (.nil))))))))))))))))))], .agg [.int .i64, .int .i64, .int .i64, .int .i64, .bool, .int .i64, .int .i64]], [], fun ds k => draymanref34_Tell (hdI ds, hdQ (.int .i64 (.bool (.int .i64 (.int .i64 (.int .i64 (.int .i64 (.bool (.int .i64 (.int .i64 (.bool (.int .i64 (.int .i64 (.int .i64 (.int .i64 (.bool (.int .i64 (.int .i64 (.nil)))))))))))))))))) ds.tail, ()) (hdI ds.tail.tail, hdI ds.tail.tail.tail, hdI ds.tail.tail.tail.tail, hdI ds.tail.tail.tail.tail.tail, hdB ds.tail.tail.tail.tail.tail.tail, hdI ds.tail.tail.tail.tail.tail.tail.tail, hdI ds.tail.tail.tail.tail.tail.tail.tail.tail, ()) (fun r1 => k (enc dep (.agg [.int .i64, .sl (.int .i64 (.bool (.int .i64 (.int .i64 (.int .i64 (.int .i64 (.bool (.int .i64 (.int .i64 (.bool (.int .i64 (.int .i64 (.int .i64 (.int .i64 (.bool (.int .i64 (.int .i64 (.nil))))))))))))))))))]) [.i r1.1, .q (.int .i64 (.bool (.int .i64 (.int .i64 (.int .i64 (.int .i64 (.bool (.int .i64 (.int .i64 (.bool (.int .i64 (.int .i64 (.int .i64 (.int .i64 (.bool (.int .i64 (.int .i64 (.nil)))))))))))))))))) r1.2.1]).1 [])⟩

noncomputable def draymanref34_Tell_spec {α : Type} : FunSpec α := draymanref34_Tell_sp draymanref34_Tell

noncomputable def draymanref34_Tell_C {α : Type} (draymanref34_put : draymanref34_put_T α) : List (FunSpec α) := [draymanref34_put_sp draymanref34_put]

noncomputable def draymanref34_Tell_q : FuncId → Bool := fun f => false

noncomputable def draymanref34_Tell_inl : FuncId → Bool := fun f => false

noncomputable def draymanref34_Tell_ann : FuncId → AnnT := fun f p => ⟨[], [], [], [], 0, [], []⟩

noncomputable def draymanref34_Tell_loops {α : Type} (draymanref34_put : draymanref34_put_T α) : List (LoopSpec α) := []

theorem draymanref34_Tell_ev {α : Type} (draymanref34_put : draymanref34_put_T α) : EvOk (α := α) Go.Proofs.Try.prog (envOf (draymanref34_Tell_C draymanref34_put) draymanref34_Tell_q draymanref34_Tell_inl 1000 draymanref34_Tell_ann false (draymanref34_Tell_loops draymanref34_put) (fun _ => none)) 6 (draymanref34_Tell_sp (draymanref34_Tell_g draymanref34_put)) := by intro ds k; kernel_rfl

theorem draymanref34_Tell_ok {α : Type} : (draymanref34_Tell_spec : FunSpec α).ok Go.Proofs.Try.prog :=
  FunSpec.ok_of (sp := draymanref34_Tell_spec) (C := draymanref34_Tell_C draymanref34_put) (q := draymanref34_Tell_q) (inl := draymanref34_Tell_inl) (N := 1000) (ann := draymanref34_Tell_ann) (fr := false) (D := 6) (l := (draymanref34_Tell_loops draymanref34_put)) (hk := (fun _ => none)) (okCons draymanref34_put_ok okNil) lokNil noHooks (draymanref34_Tell_ev draymanref34_put)

end
end Go.Rv.Try

set_option linter.unusedVariables false
set_option maxRecDepth 100000
set_option maxHeartbeats 4000000
namespace Go.Rv.Try
open Go Go.Rv Go.RowKit
noncomputable section

-- slices.Equal[[]drayman/api.Envelope,drayman/api.Envelope]

abbrev slices_Equal_api_Envelope_api_Envelope_T (α : Type) : Type := (Seq Z0) → (Seq Z0) → (Bool → Option α) → Option α

noncomputable def slices_Equal_api_Envelope_api_Envelope_l0_step {α : Type} (kr : (Bool) → Option α) (k0 : Option α) (rec : (Seq Z0) → (Seq Z0) → (Int) → (Int) → Option α) (x3 : Seq Z0) (x4 : Seq Z0) (x5 : Int) (x6 : Int) : Option α :=
  (cond (decide (x6 < x5))
    (cond (((decide ((0 : Int) ≤ x6)) && (decide (x6 < (x3.n : Int)))) && ((decide ((0 : Int) ≤ x6)) && (decide (x6 < (x3.n : Int)))))
      (cond (((decide ((0 : Int) ≤ x6)) && (decide (x6 < (x4.n : Int)))) && ((decide ((0 : Int) ≤ x6)) && (decide (x6 < (x4.n : Int)))))
        (cond (!(((x3.g x6.toNat).1 == (x4.g x6.toNat).1) && (((x3.g x6.toNat).2.1 == (x4.g x6.toNat).2.1) && (((x3.g x6.toNat).2.2.1 == (x4.g x6.toNat).2.2.1) && ((((x3.g x6.toNat).2.2.2.1 == (x4.g x6.toNat).2.2.2.1) && (((x3.g x6.toNat).2.2.2.2.1 == (x4.g x6.toNat).2.2.2.2.1) && (((x3.g x6.toNat).2.2.2.2.2.1 == (x4.g x6.toNat).2.2.2.2.2.1) && (((x3.g x6.toNat).2.2.2.2.2.2.1 == (x4.g x6.toNat).2.2.2.2.2.2.1) && (((x3.g x6.toNat).2.2.2.2.2.2.2.1 == (x4.g x6.toNat).2.2.2.2.2.2.2.1) && (((x3.g x6.toNat).2.2.2.2.2.2.2.2.1 == (x4.g x6.toNat).2.2.2.2.2.2.2.2.1) && (((x3.g x6.toNat).2.2.2.2.2.2.2.2.2.1 == (x4.g x6.toNat).2.2.2.2.2.2.2.2.2.1) && true))))))) && ((((x3.g x6.toNat).2.2.2.2.2.2.2.2.2.2.1 == (x4.g x6.toNat).2.2.2.2.2.2.2.2.2.2.1) && (((x3.g x6.toNat).2.2.2.2.2.2.2.2.2.2.2.1 == (x4.g x6.toNat).2.2.2.2.2.2.2.2.2.2.2.1) && (((x3.g x6.toNat).2.2.2.2.2.2.2.2.2.2.2.2.1 == (x4.g x6.toNat).2.2.2.2.2.2.2.2.2.2.2.2.1) && (((x3.g x6.toNat).2.2.2.2.2.2.2.2.2.2.2.2.2.1 == (x4.g x6.toNat).2.2.2.2.2.2.2.2.2.2.2.2.2.1) && (((x3.g x6.toNat).2.2.2.2.2.2.2.2.2.2.2.2.2.2.1 == (x4.g x6.toNat).2.2.2.2.2.2.2.2.2.2.2.2.2.2.1) && (((x3.g x6.toNat).2.2.2.2.2.2.2.2.2.2.2.2.2.2.2.1 == (x4.g x6.toNat).2.2.2.2.2.2.2.2.2.2.2.2.2.2.2.1) && (((x3.g x6.toNat).2.2.2.2.2.2.2.2.2.2.2.2.2.2.2.2.1 == (x4.g x6.toNat).2.2.2.2.2.2.2.2.2.2.2.2.2.2.2.2.1) && true))))))) && true))))))
          (kr false)
          (rec x3 x4 x5 (IntKind.i64.wrap (x6 + 1))))
        none)
      none)
    (k0))

noncomputable def slices_Equal_api_Envelope_api_Envelope_l0_run {α : Type} (kr : (Bool) → Option α) (k0 : Option α) : Nat → (Seq Z0) → (Seq Z0) → (Int) → (Int) → Option α
  | 0, _, _, _, _ => none
  | n + 1, x3, x4, x5, x6 => slices_Equal_api_Envelope_api_Envelope_l0_step kr k0 (fun x3 x4 x5 x6 => slices_Equal_api_Envelope_api_Envelope_l0_run kr k0 n x3 x4 x5 x6) x3 x4 x5 x6

noncomputable def slices_Equal_api_Envelope_api_Envelope {α : Type} (x1 : Seq Z0) (x2 : Seq Z0) (k : Bool → Option α) : Option α :=
  (cond ((x1.n : Int) != (x2.n : Int))
    (k false)
    (slices_Equal_api_Envelope_api_Envelope_l0_run
      (fun x7 =>
        (k x7))
      ((k true))
      1000 x1 x2 (x1.n : Int) 0))

noncomputable def slices_Equal_api_Envelope_api_Envelope_sp {α : Type} (slices_Equal_api_Envelope_api_Envelope : slices_Equal_api_Envelope_api_Envelope_T α) : FunSpec α := ⟨88, [.sl (.int .i64 (.bool (.int .i64 (.int .i64 (.int .i64 (.int .i64 (.bool (.int .i64 (.int .i64 (.bool (.int .i64 (.int .i64 (.int .i64 (.int .i64 (.bool (.int .i64 (.int .i64 (.nil)))))))))))))))))), .sl (.int .i64 (.bool (.int .i64 (.int .i64 (.int .i64 (.int .i64 (.bool (.int .i64 (.int .i64 (.bool (.int .i64 (.int .i64 (.int .i64 (.int .i64 (.bool (.int .i64 (.int .i64 (.nil))))))))))))))))))], [], fun ds k => slices_Equal_api_Envelope_api_Envelope (hdQ (.int .i64 (.bool (.int .i64 (.int .i64 (.int .i64 (.int .i64 (.bool (.int .i64 (.int .i64 (.bool (.int .i64 (.int .i64 (.int .i64 (.int .i64 (.bool (.int .i64 (.int .i64 (.nil)))))))))))))))))) ds) (hdQ (.int .i64 (.bool (.int .i64 (.int .i64 (.int .i64 (.int .i64 (.bool (.int .i64 (.int .i64 (.bool (.int .i64 (.int .i64 (.int .i64 (.int .i64 (.bool (.int .i64 (.int .i64 (.nil)))))))))))))))))) ds.tail) (fun r1 => k (enc dep (.bool) [.b r1]).1 [])⟩

noncomputable def slices_Equal_api_Envelope_api_Envelope_spec {α : Type} : FunSpec α := slices_Equal_api_Envelope_api_Envelope_sp slices_Equal_api_Envelope_api_Envelope

noncomputable def slices_Equal_api_Envelope_api_Envelope_C {α : Type} : List (FunSpec α) := []

noncomputable def slices_Equal_api_Envelope_api_Envelope_q : FuncId → Bool := fun f => false

noncomputable def slices_Equal_api_Envelope_api_Envelope_inl : FuncId → Bool := fun f => false

noncomputable def slices_Equal_api_Envelope_api_Envelope_ann : FuncId → AnnT := fun f p => if f = 88 then (if p = [true, false, true, true] then ⟨[0, 1, 12, 13], [], [], [4], 0, [], []⟩ else ⟨[], [], [], [], 0, [], []⟩) else ⟨[], [], [], [], 0, [], []⟩

noncomputable def slices_Equal_api_Envelope_api_Envelope_l0_t : List Sh := [.sl (.int .i64 (.bool (.int .i64 (.int .i64 (.int .i64 (.int .i64 (.bool (.int .i64 (.int .i64 (.bool (.int .i64 (.int .i64 (.int .i64 (.int .i64 (.bool (.int .i64 (.int .i64 (.nil)))))))))))))))))), .sl (.int .i64 (.bool (.int .i64 (.int .i64 (.int .i64 (.int .i64 (.bool (.int .i64 (.int .i64 (.bool (.int .i64 (.int .i64 (.int .i64 (.int .i64 (.bool (.int .i64 (.int .i64 (.nil)))))))))))))))))), .dead, .dead, .dead, .dead, .dead, .dead, .dead, .dead, .dead, .dead, .int .i64, .int .i64, .dead, .dead, .dead, .dead, .dead, .dead, .dead, .dead, .dead, .dead, .dead, .dead]
noncomputable def slices_Equal_api_Envelope_api_Envelope_l0_s : List (List Sh) := []
noncomputable def slices_Equal_api_Envelope_api_Envelope_l0_h : List BSh := []

noncomputable def slices_Equal_api_Envelope_api_Envelope_l0_spec {α : Type} : LoopSpec α := ⟨6, 88, [true, false, true, true], slices_Equal_api_Envelope_api_Envelope_l0_t, slices_Equal_api_Envelope_api_Envelope_l0_s, slices_Equal_api_Envelope_api_Envelope_l0_h, fun ds k => slices_Equal_api_Envelope_api_Envelope_l0_run (fun y1 => k .ret (encSt [.dead, .dead, .dead, .dead, .bool, .dead, .dead, .dead, .dead, .dead, .dead, .dead, .dead, .dead, .dead, .dead, .dead, .dead, .dead, .dead, .dead, .dead, .dead, .dead, .dead, .dead] [] [] [.b y1])) (k (.exit 0) (encSt [.dead, .dead, .dead, .dead, .dead, .dead, .dead, .dead, .dead, .dead, .dead, .dead, .dead, .dead, .dead, .dead, .dead, .dead, .dead, .dead, .dead, .dead, .dead, .dead, .dead, .dead] [] [] [])) 1000 (hdQ (.int .i64 (.bool (.int .i64 (.int .i64 (.int .i64 (.int .i64 (.bool (.int .i64 (.int .i64 (.bool (.int .i64 (.int .i64 (.int .i64 (.int .i64 (.bool (.int .i64 (.int .i64 (.nil)))))))))))))))))) ds) (hdQ (.int .i64 (.bool (.int .i64 (.int .i64 (.int .i64 (.int .i64 (.bool (.int .i64 (.int .i64 (.bool (.int .i64 (.int .i64 (.int .i64 (.int .i64 (.bool (.int .i64 (.int .i64 (.nil)))))))))))))))))) ds.tail) (hdI ds.tail.tail) (hdI ds.tail.tail.tail)⟩

noncomputable def slices_Equal_api_Envelope_api_Envelope_loops {α : Type} : List (LoopSpec α) := [slices_Equal_api_Envelope_api_Envelope_l0_spec]

noncomputable def slices_Equal_api_Envelope_api_Envelope_l0_ev {α : Type} (n : Nat) (st : St) (k : X → St → Option α) : Option α := loopN (evCode Go.Proofs.Try.prog (callD Go.Proofs.Try.prog (envOf (slices_Equal_api_Envelope_api_Envelope_C) slices_Equal_api_Envelope_api_Envelope_q slices_Equal_api_Envelope_api_Envelope_inl 1000 slices_Equal_api_Envelope_api_Envelope_ann false (slices_Equal_api_Envelope_api_Envelope_loops) (fun _ => none)) 6) (((envOf (slices_Equal_api_Envelope_api_Envelope_C) slices_Equal_api_Envelope_api_Envelope_q slices_Equal_api_Envelope_api_Envelope_inl 1000 slices_Equal_api_Envelope_api_Envelope_ann false (slices_Equal_api_Envelope_api_Envelope_loops) (fun _ => none)) : Env α).L 6 88) 1000 (slices_Equal_api_Envelope_api_Envelope_ann 88) (false :: [true, false, true, true]) (loopC Go.Proofs.Try.prog 88 [true, false, true, true])) ((slices_Equal_api_Envelope_api_Envelope_ann 88 [true, false, true, true]).head 0) ((slices_Equal_api_Envelope_api_Envelope_ann 88 [true, false, true, true]).leave 0) n st k

theorem slices_Equal_api_Envelope_api_Envelope_l0_eq {α : Type} : ∀ (n : Nat) (x3 : Seq Z0) (x4 : Seq Z0) (x5 : Int) (x6 : Int) (k : X → St → Option α), slices_Equal_api_Envelope_api_Envelope_l0_ev n (encSt slices_Equal_api_Envelope_api_Envelope_l0_t slices_Equal_api_Envelope_api_Envelope_l0_s slices_Equal_api_Envelope_api_Envelope_l0_h [.q (.int .i64 (.bool (.int .i64 (.int .i64 (.int .i64 (.int .i64 (.bool (.int .i64 (.int .i64 (.bool (.int .i64 (.int .i64 (.int .i64 (.int .i64 (.bool (.int .i64 (.int .i64 (.nil)))))))))))))))))) x3, .q (.int .i64 (.bool (.int .i64 (.int .i64 (.int .i64 (.int .i64 (.bool (.int .i64 (.int .i64 (.bool (.int .i64 (.int .i64 (.int .i64 (.int .i64 (.bool (.int .i64 (.int .i64 (.nil)))))))))))))))))) x4, .i x5, .i x6]) k = slices_Equal_api_Envelope_api_Envelope_l0_run (fun y1 => k .ret (encSt [.dead, .dead, .dead, .dead, .bool, .dead, .dead, .dead, .dead, .dead, .dead, .dead, .dead, .dead, .dead, .dead, .dead, .dead, .dead, .dead, .dead, .dead, .dead, .dead, .dead, .dead] [] [] [.b y1])) (k (.exit 0) (encSt [.dead, .dead, .dead, .dead, .dead, .dead, .dead, .dead, .dead, .dead, .dead, .dead, .dead, .dead, .dead, .dead, .dead, .dead, .dead, .dead, .dead, .dead, .dead, .dead, .dead, .dead] [] [] [])) n x3 x4 x5 x6 := by
  intro n
  induction n with
  | zero => intros; kernel_rfl
  | succ n ih =>
    intro x3 x4 x5 x6 k
    have e : (fun (x3 : Seq Z0) (x4 : Seq Z0) (x5 : Int) (x6 : Int) => slices_Equal_api_Envelope_api_Envelope_l0_ev n (encSt slices_Equal_api_Envelope_api_Envelope_l0_t slices_Equal_api_Envelope_api_Envelope_l0_s slices_Equal_api_Envelope_api_Envelope_l0_h [.q (.int .i64 (.bool (.int .i64 (.int .i64 (.int .i64 (.int .i64 (.bool (.int .i64 (.int .i64 (.bool (.int .i64 (.int .i64 (.int .i64 (.int .i64 (.bool (.int .i64 (.int .i64 (.nil)))))))))))))))))) x3, .q (.int .i64 (.bool (.int .i64 (.int .i64 (.int .i64 (.int .i64 (.bool (.int .i64 (.int .i64 (.bool (.int .i64 (.int .i64 (.int .i64 (.int .i64 (.bool (.int .i64 (.int .i64 (.nil)))))))))))))))))) x4, .i x5, .i x6]) k) = (fun (x3 : Seq Z0) (x4 : Seq Z0) (x5 : Int) (x6 : Int) => slices_Equal_api_Envelope_api_Envelope_l0_run (fun y1 => k .ret (encSt [.dead, .dead, .dead, .dead, .bool, .dead, .dead, .dead, .dead, .dead, .dead, .dead, .dead, .dead, .dead, .dead, .dead, .dead, .dead, .dead, .dead, .dead, .dead, .dead, .dead, .dead] [] [] [.b y1])) (k (.exit 0) (encSt [.dead, .dead, .dead, .dead, .dead, .dead, .dead, .dead, .dead, .dead, .dead, .dead, .dead, .dead, .dead, .dead, .dead, .dead, .dead, .dead, .dead, .dead, .dead, .dead, .dead, .dead] [] [] [])) n x3 x4 x5 x6) := by
      funext x3 x4 x5 x6
      exact ih x3 x4 x5 x6 k
    have h1 : slices_Equal_api_Envelope_api_Envelope_l0_ev (n + 1) (encSt slices_Equal_api_Envelope_api_Envelope_l0_t slices_Equal_api_Envelope_api_Envelope_l0_s slices_Equal_api_Envelope_api_Envelope_l0_h [.q (.int .i64 (.bool (.int .i64 (.int .i64 (.int .i64 (.int .i64 (.bool (.int .i64 (.int .i64 (.bool (.int .i64 (.int .i64 (.int .i64 (.int .i64 (.bool (.int .i64 (.int .i64 (.nil)))))))))))))))))) x3, .q (.int .i64 (.bool (.int .i64 (.int .i64 (.int .i64 (.int .i64 (.bool (.int .i64 (.int .i64 (.bool (.int .i64 (.int .i64 (.int .i64 (.int .i64 (.bool (.int .i64 (.int .i64 (.nil)))))))))))))))))) x4, .i x5, .i x6]) k = slices_Equal_api_Envelope_api_Envelope_l0_step (fun y1 => k .ret (encSt [.dead, .dead, .dead, .dead, .bool, .dead, .dead, .dead, .dead, .dead, .dead, .dead, .dead, .dead, .dead, .dead, .dead, .dead, .dead, .dead, .dead, .dead, .dead, .dead, .dead, .dead] [] [] [.b y1])) (k (.exit 0) (encSt [.dead, .dead, .dead, .dead, .dead, .dead, .dead, .dead, .dead, .dead, .dead, .dead, .dead, .dead, .dead, .dead, .dead, .dead, .dead, .dead, .dead, .dead, .dead, .dead, .dead, .dead] [] [] [])) (fun (x3 : Seq Z0) (x4 : Seq Z0) (x5 : Int) (x6 : Int) => slices_Equal_api_Envelope_api_Envelope_l0_ev n (encSt slices_Equal_api_Envelope_api_Envelope_l0_t slices_Equal_api_Envelope_api_Envelope_l0_s slices_Equal_api_Envelope_api_Envelope_l0_h [.q (.int .i64 (.bool (.int .i64 (.int .i64 (.int .i64 (.int .i64 (.bool (.int .i64 (.int .i64 (.bool (.int .i64 (.int .i64 (.int .i64 (.int .i64 (.bool (.int .i64 (.int .i64 (.nil)))))))))))))))))) x3, .q (.int .i64 (.bool (.int .i64 (.int .i64 (.int .i64 (.int .i64 (.bool (.int .i64 (.int .i64 (.bool (.int .i64 (.int .i64 (.int .i64 (.int .i64 (.bool (.int .i64 (.int .i64 (.nil)))))))))))))))))) x4, .i x5, .i x6]) k) x3 x4 x5 x6 := by kernel_rfl
    have h2 := congrArg (fun r => slices_Equal_api_Envelope_api_Envelope_l0_step (fun y1 => k .ret (encSt [.dead, .dead, .dead, .dead, .bool, .dead, .dead, .dead, .dead, .dead, .dead, .dead, .dead, .dead, .dead, .dead, .dead, .dead, .dead, .dead, .dead, .dead, .dead, .dead, .dead, .dead] [] [] [.b y1])) (k (.exit 0) (encSt [.dead, .dead, .dead, .dead, .dead, .dead, .dead, .dead, .dead, .dead, .dead, .dead, .dead, .dead, .dead, .dead, .dead, .dead, .dead, .dead, .dead, .dead, .dead, .dead, .dead, .dead] [] [] [])) r x3 x4 x5 x6) e
    have h3 : slices_Equal_api_Envelope_api_Envelope_l0_step (fun y1 => k .ret (encSt [.dead, .dead, .dead, .dead, .bool, .dead, .dead, .dead, .dead, .dead, .dead, .dead, .dead, .dead, .dead, .dead, .dead, .dead, .dead, .dead, .dead, .dead, .dead, .dead, .dead, .dead] [] [] [.b y1])) (k (.exit 0) (encSt [.dead, .dead, .dead, .dead, .dead, .dead, .dead, .dead, .dead, .dead, .dead, .dead, .dead, .dead, .dead, .dead, .dead, .dead, .dead, .dead, .dead, .dead, .dead, .dead, .dead, .dead] [] [] [])) (fun (x3 : Seq Z0) (x4 : Seq Z0) (x5 : Int) (x6 : Int) => slices_Equal_api_Envelope_api_Envelope_l0_run (fun y1 => k .ret (encSt [.dead, .dead, .dead, .dead, .bool, .dead, .dead, .dead, .dead, .dead, .dead, .dead, .dead, .dead, .dead, .dead, .dead, .dead, .dead, .dead, .dead, .dead, .dead, .dead, .dead, .dead] [] [] [.b y1])) (k (.exit 0) (encSt [.dead, .dead, .dead, .dead, .dead, .dead, .dead, .dead, .dead, .dead, .dead, .dead, .dead, .dead, .dead, .dead, .dead, .dead, .dead, .dead, .dead, .dead, .dead, .dead, .dead, .dead] [] [] [])) n x3 x4 x5 x6) x3 x4 x5 x6 = slices_Equal_api_Envelope_api_Envelope_l0_run (fun y1 => k .ret (encSt [.dead, .dead, .dead, .dead, .bool, .dead, .dead, .dead, .dead, .dead, .dead, .dead, .dead, .dead, .dead, .dead, .dead, .dead, .dead, .dead, .dead, .dead, .dead, .dead, .dead, .dead] [] [] [.b y1])) (k (.exit 0) (encSt [.dead, .dead, .dead, .dead, .dead, .dead, .dead, .dead, .dead, .dead, .dead, .dead, .dead, .dead, .dead, .dead, .dead, .dead, .dead, .dead, .dead, .dead, .dead, .dead, .dead, .dead] [] [] [])) (n + 1) x3 x4 x5 x6 := by kernel_rfl
    exact h1.trans (h2.trans h3)

theorem slices_Equal_api_Envelope_api_Envelope_l0_ok {α : Type} : (slices_Equal_api_Envelope_api_Envelope_l0_spec : LoopSpec α).ok Go.Proofs.Try.prog (envOf (slices_Equal_api_Envelope_api_Envelope_C) slices_Equal_api_Envelope_api_Envelope_q slices_Equal_api_Envelope_api_Envelope_inl 1000 slices_Equal_api_Envelope_api_Envelope_ann false (slices_Equal_api_Envelope_api_Envelope_loops) (fun _ => none)) := by
  intro ds k
  have h1 : slices_Equal_api_Envelope_api_Envelope_l0_ev 1000 (encSt slices_Equal_api_Envelope_api_Envelope_l0_t slices_Equal_api_Envelope_api_Envelope_l0_s slices_Equal_api_Envelope_api_Envelope_l0_h ds) k = slices_Equal_api_Envelope_api_Envelope_l0_ev 1000 (encSt slices_Equal_api_Envelope_api_Envelope_l0_t slices_Equal_api_Envelope_api_Envelope_l0_s slices_Equal_api_Envelope_api_Envelope_l0_h [.q (.int .i64 (.bool (.int .i64 (.int .i64 (.int .i64 (.int .i64 (.bool (.int .i64 (.int .i64 (.bool (.int .i64 (.int .i64 (.int .i64 (.int .i64 (.bool (.int .i64 (.int .i64 (.nil)))))))))))))))))) (hdQ (.int .i64 (.bool (.int .i64 (.int .i64 (.int .i64 (.int .i64 (.bool (.int .i64 (.int .i64 (.bool (.int .i64 (.int .i64 (.int .i64 (.int .i64 (.bool (.int .i64 (.int .i64 (.nil)))))))))))))))))) ds), .q (.int .i64 (.bool (.int .i64 (.int .i64 (.int .i64 (.int .i64 (.bool (.int .i64 (.int .i64 (.bool (.int .i64 (.int .i64 (.int .i64 (.int .i64 (.bool (.int .i64 (.int .i64 (.nil)))))))))))))))))) (hdQ (.int .i64 (.bool (.int .i64 (.int .i64 (.int .i64 (.int .i64 (.bool (.int .i64 (.int .i64 (.bool (.int .i64 (.int .i64 (.int .i64 (.int .i64 (.bool (.int .i64 (.int .i64 (.nil)))))))))))))))))) ds.tail), .i (hdI ds.tail.tail), .i (hdI ds.tail.tail.tail)]) k := by kernel_rfl
  have h2 := slices_Equal_api_Envelope_api_Envelope_l0_eq 1000 (hdQ (.int .i64 (.bool (.int .i64 (.int .i64 (.int .i64 (.int .i64 (.bool (.int .i64 (.int .i64 (.bool (.int .i64 (.int .i64 (.int .i64 (.int .i64 (.bool (.int .i64 (.int .i64 (.nil)))))))))))))))))) ds) (hdQ (.int .i64 (.bool (.int .i64 (.int .i64 (.int .i64 (.int .i64 (.bool (.int .i64 (.int .i64 (.bool (.int .i64 (.int .i64 (.int .i64 (.int .i64 (.bool (.int .i64 (.int .i64 (.nil)))))))))))))))))) ds.tail) (hdI ds.tail.tail) (hdI ds.tail.tail.tail) k
  exact h1.trans h2

theorem slices_Equal_api_Envelope_api_Envelope_ev {α : Type} : EvOk (α := α) Go.Proofs.Try.prog (envOf (slices_Equal_api_Envelope_api_Envelope_C) slices_Equal_api_Envelope_api_Envelope_q slices_Equal_api_Envelope_api_Envelope_inl 1000 slices_Equal_api_Envelope_api_Envelope_ann false (slices_Equal_api_Envelope_api_Envelope_loops) (fun _ => none)) 6 (slices_Equal_api_Envelope_api_Envelope_sp (slices_Equal_api_Envelope_api_Envelope)) := by intro ds k; kernel_rfl

theorem slices_Equal_api_Envelope_api_Envelope_ok {α : Type} : (slices_Equal_api_Envelope_api_Envelope_spec : FunSpec α).ok Go.Proofs.Try.prog :=
  FunSpec.ok_of (sp := slices_Equal_api_Envelope_api_Envelope_spec) (C := slices_Equal_api_Envelope_api_Envelope_C) (q := slices_Equal_api_Envelope_api_Envelope_q) (inl := slices_Equal_api_Envelope_api_Envelope_inl) (N := 1000) (ann := slices_Equal_api_Envelope_api_Envelope_ann) (fr := false) (D := 6) (l := (slices_Equal_api_Envelope_api_Envelope_loops)) (hk := (fun _ => none)) okNil (lokCons (slices_Equal_api_Envelope_api_Envelope_l0_ok) lokNil) noHooks (slices_Equal_api_Envelope_api_Envelope_ev)

end
end Go.Rv.Try

set_option linter.unusedVariables false
set_option maxRecDepth 100000
set_option maxHeartbeats 4000000
namespace Go.Rv.Try
open Go Go.Rv Go.RowKit
noncomputable section

-- drayman/net.Same

abbrev net_Same_T (α : Type) : Type := (Int × (Seq Z0) × Unit) → (Int × (Seq Z0) × Unit) → (Bool → Option α) → Option α

noncomputable def net_Same_g {α : Type} (slices_Equal_api_Envelope_api_Envelope : slices_Equal_api_Envelope_api_Envelope_T α) (a1 : Int × (Seq Z0) × Unit) (b2 : Int × (Seq Z0) × Unit) (k : Bool → Option α) : Option α :=
  (cond (a1.1 == b2.1)
    (slices_Equal_api_Envelope_api_Envelope a1.2.1 b2.2.1 fun r3 =>
      (k r3))
    (k false))

noncomputable def net_Same {α : Type} : net_Same_T α := net_Same_g slices_Equal_api_Envelope_api_Envelope

noncomputable def net_Same_sp {α : Type} (net_Same : net_Same_T α) : FunSpec α := ⟨30, [.agg [.int .i64, .sl (.int .i64 (.bool (.int .i64 (.int .i64 (.int .i64 (.int .i64 (.bool (.int .i64 (.int .i64 (.bool (.int .i64 (.int .i64 (.int .i64 (.int .i64 (.bool (.int .i64 (.int .i64 (.nil))))))))))))))))))], .agg [.int .i64, .sl (.int .i64 (.bool (.int .i64 (.int .i64 (.int .i64 (.int .i64 (.bool (.int .i64 (.int .i64 (.bool (.int .i64 (.int .i64 (.int .i64 (.int .i64 (.bool (.int .i64 (.int .i64 (.nil))))))))))))))))))]], [], fun ds k => net_Same (hdI ds, hdQ (.int .i64 (.bool (.int .i64 (.int .i64 (.int .i64 (.int .i64 (.bool (.int .i64 (.int .i64 (.bool (.int .i64 (.int .i64 (.int .i64 (.int .i64 (.bool (.int .i64 (.int .i64 (.nil)))))))))))))))))) ds.tail, ()) (hdI ds.tail.tail, hdQ (.int .i64 (.bool (.int .i64 (.int .i64 (.int .i64 (.int .i64 (.bool (.int .i64 (.int .i64 (.bool (.int .i64 (.int .i64 (.int .i64 (.int .i64 (.bool (.int .i64 (.int .i64 (.nil)))))))))))))))))) ds.tail.tail.tail, ()) (fun r1 => k (enc dep (.bool) [.b r1]).1 [])⟩

noncomputable def net_Same_spec {α : Type} : FunSpec α := net_Same_sp net_Same

noncomputable def net_Same_C {α : Type} (slices_Equal_api_Envelope_api_Envelope : slices_Equal_api_Envelope_api_Envelope_T α) : List (FunSpec α) := [slices_Equal_api_Envelope_api_Envelope_sp slices_Equal_api_Envelope_api_Envelope]

noncomputable def net_Same_q : FuncId → Bool := fun f => Nat.beq f 88

noncomputable def net_Same_inl : FuncId → Bool := fun f => false

noncomputable def net_Same_ann : FuncId → AnnT := fun f p => ⟨[], [], [], [], 0, [], []⟩

noncomputable def net_Same_loops {α : Type} (slices_Equal_api_Envelope_api_Envelope : slices_Equal_api_Envelope_api_Envelope_T α) : List (LoopSpec α) := []

theorem net_Same_ev {α : Type} (slices_Equal_api_Envelope_api_Envelope : slices_Equal_api_Envelope_api_Envelope_T α) : EvOk (α := α) Go.Proofs.Try.prog (envOf (net_Same_C slices_Equal_api_Envelope_api_Envelope) net_Same_q net_Same_inl 1000 net_Same_ann false (net_Same_loops slices_Equal_api_Envelope_api_Envelope) (fun _ => none)) 6 (net_Same_sp (net_Same_g slices_Equal_api_Envelope_api_Envelope)) := by intro ds k; kernel_rfl

theorem net_Same_ok {α : Type} : (net_Same_spec : FunSpec α).ok Go.Proofs.Try.prog :=
  FunSpec.ok_of (sp := net_Same_spec) (C := net_Same_C slices_Equal_api_Envelope_api_Envelope) (q := net_Same_q) (inl := net_Same_inl) (N := 1000) (ann := net_Same_ann) (fr := false) (D := 6) (l := (net_Same_loops slices_Equal_api_Envelope_api_Envelope)) (hk := (fun _ => none)) (okCons slices_Equal_api_Envelope_api_Envelope_ok okNil) lokNil noHooks (net_Same_ev slices_Equal_api_Envelope_api_Envelope)

end
end Go.Rv.Try

set_option linter.unusedVariables false
set_option maxRecDepth 100000
set_option maxHeartbeats 4000000
namespace Go.Rv.Try
open Go Go.Rv Go.RowKit
noncomputable section

-- drayman/draymanref34.New

abbrev draymanref34_New_T (α : Type) : Type := ((Int × (Seq Z0) × Unit) → Option α) → Option α

noncomputable def draymanref34_New {α : Type} (k : (Int × (Seq Z0) × Unit) → Option α) : Option α :=
  (k (1, (⟨true, 0, (fun _ => (0, false, 0, 0, 0, 0, false, 0, 0, false, 0, 0, 0, 0, false, 0, 0, ()))⟩ : Seq Z0), ()))

noncomputable def draymanref34_New_sp {α : Type} (draymanref34_New : draymanref34_New_T α) : FunSpec α := ⟨32, [], [], fun ds k => draymanref34_New  (fun r1 => k (enc dep (.agg [.int .i64, .sl (.int .i64 (.bool (.int .i64 (.int .i64 (.int .i64 (.int .i64 (.bool (.int .i64 (.int .i64 (.bool (.int .i64 (.int .i64 (.int .i64 (.int .i64 (.bool (.int .i64 (.int .i64 (.nil))))))))))))))))))]) [.i r1.1, .q (.int .i64 (.bool (.int .i64 (.int .i64 (.int .i64 (.int .i64 (.bool (.int .i64 (.int .i64 (.bool (.int .i64 (.int .i64 (.int .i64 (.int .i64 (.bool (.int .i64 (.int .i64 (.nil)))))))))))))))))) r1.2.1]).1 [])⟩

noncomputable def draymanref34_New_spec {α : Type} : FunSpec α := draymanref34_New_sp draymanref34_New

noncomputable def draymanref34_New_C {α : Type} : List (FunSpec α) := []

noncomputable def draymanref34_New_q : FuncId → Bool := fun f => false

noncomputable def draymanref34_New_inl : FuncId → Bool := fun f => false

noncomputable def draymanref34_New_ann : FuncId → AnnT := fun f p => ⟨[], [], [], [], 0, [], []⟩

noncomputable def draymanref34_New_loops {α : Type} : List (LoopSpec α) := []

theorem draymanref34_New_ev {α : Type} : EvOk (α := α) Go.Proofs.Try.prog (envOf (draymanref34_New_C) draymanref34_New_q draymanref34_New_inl 1000 draymanref34_New_ann false (draymanref34_New_loops) (fun _ => none)) 6 (draymanref34_New_sp (draymanref34_New)) := by intro ds k; kernel_rfl

theorem draymanref34_New_ok {α : Type} : (draymanref34_New_spec : FunSpec α).ok Go.Proofs.Try.prog :=
  FunSpec.ok_of (sp := draymanref34_New_spec) (C := draymanref34_New_C) (q := draymanref34_New_q) (inl := draymanref34_New_inl) (N := 1000) (ann := draymanref34_New_ann) (fr := false) (D := 6) (l := (draymanref34_New_loops)) (hk := (fun _ => none)) okNil lokNil noHooks (draymanref34_New_ev)

end
end Go.Rv.Try

set_option linter.unusedVariables false
set_option maxRecDepth 100000
set_option maxHeartbeats 4000000
namespace Go.Rv.Try
open Go Go.Rv Go.RowKit
noncomputable section

-- drayman/draymanlaw34.NetDoes

abbrev draymanlaw34_NetDoes_T (α : Type) : Type := (Int × (Seq Z0) × Unit) → (Int × (Seq Z0) × Unit) → Z0 → Int → (Bool → Option α) → Option α

noncomputable def draymanlaw34_NetDoes_g {α : Type} (draymanlaw34_awake : draymanlaw34_awake_T α) (draymanlaw34_of : draymanlaw34_of_T α) (net_Take : net_Take_T α) (draymanref34_Take : draymanref34_Take_T α) (net_Copy : net_Copy_T α) (draymanref34_Copy : draymanref34_Copy_T α) (net_Look : net_Look_T α) (draymanref34_Look : draymanref34_Look_T α) (draymanlaw34_same : draymanlaw34_same_T α) (net_Ask : net_Ask_T α) (draymanref34_Ask : draymanref34_Ask_T α) (net_Tell : net_Tell_T α) (draymanref34_Tell : draymanref34_Tell_T α) (net_Fit : net_Fit_T α) (draymanref34_Fit : draymanref34_Fit_T α) (net_Same : net_Same_T α) (draymanref34_Same : draymanref34_Same_T α) (net_New : net_New_T α) (draymanref34_New : draymanref34_New_T α) (x1 : Int × (Seq Z0) × Unit) (x2 : Int × (Seq Z0) × Unit) (x3 : Int × Bool × Int × Int × Int × Int × Bool × Int × Int × Bool × Int × Int × Int × Int × Bool × Int × Int × Unit) (x4 : Int) (k : Bool → Option α) : Option α :=
  (cond (!(decide ((x1.2.1.n : Int) > 70)))
    (cond (decide ((x2.2.1.n : Int) > 70))
      (draymanlaw34_awake fun r5 =>
        (k r5))
      (draymanlaw34_of x1 fun r6 =>
        (net_Take r6 x4 fun r7 r8 r9 =>
          (draymanref34_Take x1 x4 fun r10 r11 r12 =>
            (draymanlaw34_of x1 fun r13 =>
              (net_Copy r13 x4 fun r14 r15 =>
                (draymanref34_Copy x1 x4 fun r16 r17 =>
                  (draymanlaw34_of x1 fun r18 =>
                    (net_Look r18 x4 fun r19 r20 =>
                      (draymanref34_Look x1 x4 fun r21 r22 =>
                        (draymanlaw34_same r7 r10 fun r23 =>
                          (cond (!(!r23))
                            (cond (!(!((r8.1 == r11.1) && ((r8.2.1 == r11.2.1) && ((r8.2.2.1 == r11.2.2.1) && (((r8.2.2.2.1 == r11.2.2.2.1) && ((r8.2.2.2.2.1 == r11.2.2.2.2.1) && ((r8.2.2.2.2.2.1 == r11.2.2.2.2.2.1) && ((r8.2.2.2.2.2.2.1 == r11.2.2.2.2.2.2.1) && ((r8.2.2.2.2.2.2.2.1 == r11.2.2.2.2.2.2.2.1) && ((r8.2.2.2.2.2.2.2.2.1 == r11.2.2.2.2.2.2.2.2.1) && ((r8.2.2.2.2.2.2.2.2.2.1 == r11.2.2.2.2.2.2.2.2.2.1) && true))))))) && (((r8.2.2.2.2.2.2.2.2.2.2.1 == r11.2.2.2.2.2.2.2.2.2.2.1) && ((r8.2.2.2.2.2.2.2.2.2.2.2.1 == r11.2.2.2.2.2.2.2.2.2.2.2.1) && ((r8.2.2.2.2.2.2.2.2.2.2.2.2.1 == r11.2.2.2.2.2.2.2.2.2.2.2.2.1) && ((r8.2.2.2.2.2.2.2.2.2.2.2.2.2.1 == r11.2.2.2.2.2.2.2.2.2.2.2.2.2.1) && ((r8.2.2.2.2.2.2.2.2.2.2.2.2.2.2.1 == r11.2.2.2.2.2.2.2.2.2.2.2.2.2.2.1) && ((r8.2.2.2.2.2.2.2.2.2.2.2.2.2.2.2.1 == r11.2.2.2.2.2.2.2.2.2.2.2.2.2.2.2.1) && ((r8.2.2.2.2.2.2.2.2.2.2.2.2.2.2.2.2.1 == r11.2.2.2.2.2.2.2.2.2.2.2.2.2.2.2.2.1) && true))))))) && true)))))))
                              (cond (!(r9 != r12))
                                (draymanlaw34_same r14 r16 fun r24 =>
                                  (cond (!(!r24))
                                    (cond (!(r15 != r17))
                                      (cond (!(!((r19.1 == r21.1) && ((r19.2.1 == r21.2.1) && ((r19.2.2.1 == r21.2.2.1) && (((r19.2.2.2.1 == r21.2.2.2.1) && ((r19.2.2.2.2.1 == r21.2.2.2.2.1) && ((r19.2.2.2.2.2.1 == r21.2.2.2.2.2.1) && ((r19.2.2.2.2.2.2.1 == r21.2.2.2.2.2.2.1) && ((r19.2.2.2.2.2.2.2.1 == r21.2.2.2.2.2.2.2.1) && ((r19.2.2.2.2.2.2.2.2.1 == r21.2.2.2.2.2.2.2.2.1) && ((r19.2.2.2.2.2.2.2.2.2.1 == r21.2.2.2.2.2.2.2.2.2.1) && true))))))) && (((r19.2.2.2.2.2.2.2.2.2.2.1 == r21.2.2.2.2.2.2.2.2.2.2.1) && ((r19.2.2.2.2.2.2.2.2.2.2.2.1 == r21.2.2.2.2.2.2.2.2.2.2.2.1) && ((r19.2.2.2.2.2.2.2.2.2.2.2.2.1 == r21.2.2.2.2.2.2.2.2.2.2.2.2.1) && ((r19.2.2.2.2.2.2.2.2.2.2.2.2.2.1 == r21.2.2.2.2.2.2.2.2.2.2.2.2.2.1) && ((r19.2.2.2.2.2.2.2.2.2.2.2.2.2.2.1 == r21.2.2.2.2.2.2.2.2.2.2.2.2.2.2.1) && ((r19.2.2.2.2.2.2.2.2.2.2.2.2.2.2.2.1 == r21.2.2.2.2.2.2.2.2.2.2.2.2.2.2.2.1) && ((r19.2.2.2.2.2.2.2.2.2.2.2.2.2.2.2.2.1 == r21.2.2.2.2.2.2.2.2.2.2.2.2.2.2.2.2.1) && true))))))) && true)))))))
                                        (cond (!(r20 == r22))
                                          (k false)
                                          (draymanlaw34_of x1 fun r25 =>
                                            (net_Ask r25 (x3.2.2.2.1, x3.2.2.2.2.1, x3.2.2.2.2.2.1, x3.2.2.2.2.2.2.1, x3.2.2.2.2.2.2.2.1, x3.2.2.2.2.2.2.2.2.1, x3.2.2.2.2.2.2.2.2.2.1, ()) fun r26 =>
                                              (draymanref34_Ask x1 (x3.2.2.2.1, x3.2.2.2.2.1, x3.2.2.2.2.2.1, x3.2.2.2.2.2.2.1, x3.2.2.2.2.2.2.2.1, x3.2.2.2.2.2.2.2.2.1, x3.2.2.2.2.2.2.2.2.2.1, ()) fun r27 =>
                                                (draymanlaw34_same r26 r27 fun r28 =>
                                                  (cond r28
                                                    (draymanlaw34_of x1 fun r29 =>
                                                      (net_Tell r29 x3.2.2.2.2.2.2.2.2.2.2 fun r30 =>
                                                        (draymanref34_Tell x1 x3.2.2.2.2.2.2.2.2.2.2 fun r31 =>
                                                          (draymanlaw34_same r30 r31 fun r32 =>
                                                            (cond r32
                                                              (draymanlaw34_of x1 fun r33 =>
                                                                (net_Fit r33 fun r34 =>
                                                                  (draymanref34_Fit x1 fun r35 =>
                                                                    (cond (r34 == r35)
                                                                      (draymanlaw34_of x1 fun r36 =>
                                                                        (draymanlaw34_of x2 fun r37 =>
                                                                          (net_Same r36 r37 fun r38 =>
                                                                            (draymanref34_Same x1 x2 fun r39 =>
                                                                              (cond (r38 == r39)
                                                                                (net_New fun r40 =>
                                                                                  (draymanref34_New fun r41 =>
                                                                                    (draymanlaw34_same r40 r41 fun r42 =>
                                                                                      (cond r42
                                                                                        (draymanlaw34_awake fun r43 =>
                                                                                          (k r43))
                                                                                        (k false)))))
                                                                                (k false))))))
                                                                      (k false)))))
                                                              (k false))))))
                                                    (k false)))))))
                                        (k false))
                                      (k false))
                                    (k false)))
                                (k false))
                              (k false))
                            (k false)))))))))))))
    (draymanlaw34_awake fun r44 =>
      (k r44)))

noncomputable def draymanlaw34_NetDoes {α : Type} : draymanlaw34_NetDoes_T α := draymanlaw34_NetDoes_g draymanlaw34_awake draymanlaw34_of net_Take draymanref34_Take net_Copy draymanref34_Copy net_Look draymanref34_Look draymanlaw34_same net_Ask draymanref34_Ask net_Tell draymanref34_Tell net_Fit draymanref34_Fit net_Same draymanref34_Same net_New draymanref34_New

noncomputable def draymanlaw34_NetDoes_sp {α : Type} (draymanlaw34_NetDoes : draymanlaw34_NetDoes_T α) : FunSpec α := ⟨4, [.agg [.int .i64, .sl (.int .i64 (.bool (.int .i64 (.int .i64 (.int .i64 (.int .i64 (.bool (.int .i64 (.int .i64 (.bool (.int .i64 (.int .i64 (.int .i64 (.int .i64 (.bool (.int .i64 (.int .i64 (.nil))))))))))))))))))], .agg [.int .i64, .sl (.int .i64 (.bool (.int .i64 (.int .i64 (.int .i64 (.int .i64 (.bool (.int .i64 (.int .i64 (.bool (.int .i64 (.int .i64 (.int .i64 (.int .i64 (.bool (.int .i64 (.int .i64 (.nil))))))))))))))))))], .agg [.int .i64, .bool, .int .i64, .int .i64, .int .i64, .int .i64, .bool, .int .i64, .int .i64, .bool, .int .i64, .int .i64, .int .i64, .int .i64, .bool, .int .i64, .int .i64], .int .i64], [], fun ds k => draymanlaw34_NetDoes (hdI ds, hdQ (.int .i64 (.bool (.int .i64 (.int .i64 (.int .i64 (.int .i64 (.bool (.int .i64 (.int .i64 (.bool (.int .i64 (.int .i64 (.int .i64 (.int .i64 (.bool (.int .i64 (.int .i64 (.nil)))))))))))))))))) ds.tail, ()) (hdI ds.tail.tail, hdQ (.int .i64 (.bool (.int .i64 (.int .i64 (.int .i64 (.int .i64 (.bool (.int .i64 (.int .i64 (.bool (.int .i64 (.int .i64 (.int .i64 (.int .i64 (.bool (.int .i64 (.int .i64 (.nil)))))))))))))))))) ds.tail.tail.tail, ()) (hdI ds.tail.tail.tail.tail, hdB ds.tail.tail.tail.tail.tail, hdI ds.tail.tail.tail.tail.tail.tail, hdI ds.tail.tail.tail.tail.tail.tail.tail, hdI ds.tail.tail.tail.tail.tail.tail.tail.tail, hdI ds.tail.tail.tail.tail.tail.tail.tail.tail.tail, hdB ds.tail.tail.tail.tail.tail.tail.tail.tail.tail.tail, hdI ds.tail.tail.tail.tail.tail.tail.tail.tail.tail.tail.tail, hdI ds.tail.tail.tail.tail.tail.tail.tail.tail.tail.tail.tail.tail, hdB ds.tail.tail.tail.tail.tail.tail.tail.tail.tail.tail.tail.tail.tail, hdI ds.tail.tail.tail.tail.tail.tail.tail.tail.tail.tail.tail.tail.tail.tail, hdI ds.tail.tail.tail.tail.tail.tail.tail.tail.tail.tail.tail.tail.tail.tail.tail, hdI ds.tail.tail.tail.tail.tail.tail.tail.tail.tail.tail.tail.tail.tail.tail.tail.tail, hdI ds.tail.tail.tail.tail.tail.tail.tail.tail.tail.tail.tail.tail.tail.tail.tail.tail.tail, hdB ds.tail.tail.tail.tail.tail.tail.tail.tail.tail.tail.tail.tail.tail.tail.tail.tail.tail.tail, hdI ds.tail.tail.tail.tail.tail.tail.tail.tail.tail.tail.tail.tail.tail.tail.tail.tail.tail.tail.tail, hdI ds.tail.tail.tail.tail.tail.tail.tail.tail.tail.tail.tail.tail.tail.tail.tail.tail.tail.tail.tail.tail, ()) (hdI ds.tail.tail.tail.tail.tail.tail.tail.tail.tail.tail.tail.tail.tail.tail.tail.tail.tail.tail.tail.tail.tail) (fun r1 => k (enc dep (.bool) [.b r1]).1 [])⟩

noncomputable def draymanlaw34_NetDoes_spec {α : Type} : FunSpec α := draymanlaw34_NetDoes_sp draymanlaw34_NetDoes

noncomputable def draymanlaw34_NetDoes_C {α : Type} (draymanlaw34_awake : draymanlaw34_awake_T α) (draymanlaw34_of : draymanlaw34_of_T α) (net_Take : net_Take_T α) (draymanref34_Take : draymanref34_Take_T α) (net_Copy : net_Copy_T α) (draymanref34_Copy : draymanref34_Copy_T α) (net_Look : net_Look_T α) (draymanref34_Look : draymanref34_Look_T α) (draymanlaw34_same : draymanlaw34_same_T α) (net_Ask : net_Ask_T α) (draymanref34_Ask : draymanref34_Ask_T α) (net_Tell : net_Tell_T α) (draymanref34_Tell : draymanref34_Tell_T α) (net_Fit : net_Fit_T α) (draymanref34_Fit : draymanref34_Fit_T α) (net_Same : net_Same_T α) (draymanref34_Same : draymanref34_Same_T α) (net_New : net_New_T α) (draymanref34_New : draymanref34_New_T α) : List (FunSpec α) := [draymanlaw34_awake_sp draymanlaw34_awake, draymanlaw34_of_sp draymanlaw34_of, net_Take_sp net_Take, draymanref34_Take_sp draymanref34_Take, net_Copy_sp net_Copy, draymanref34_Copy_sp draymanref34_Copy, net_Look_sp net_Look, draymanref34_Look_sp draymanref34_Look, draymanlaw34_same_sp draymanlaw34_same, net_Ask_sp net_Ask, draymanref34_Ask_sp draymanref34_Ask, net_Tell_sp net_Tell, draymanref34_Tell_sp draymanref34_Tell, net_Fit_sp net_Fit, draymanref34_Fit_sp draymanref34_Fit, net_Same_sp net_Same, draymanref34_Same_sp draymanref34_Same, net_New_sp net_New, draymanref34_New_sp draymanref34_New]

noncomputable def draymanlaw34_NetDoes_q : FuncId → Bool := fun f => Nat.beq f 14 || Nat.beq f 20 || Nat.beq f 24 || Nat.beq f 25 || Nat.beq f 26 || Nat.beq f 29 || Nat.beq f 30 || Nat.beq f 31

noncomputable def draymanlaw34_NetDoes_inl : FuncId → Bool := fun f => false

noncomputable def draymanlaw34_NetDoes_ann : FuncId → AnnT := fun f p => if f = 4 then (if p = [false, true, true, true, true, true, true, true, true, true] then ⟨[], [], [], [], 2, [], []⟩ else ⟨[], [], [], [], 0, [], []⟩) else ⟨[], [], [], [], 0, [], []⟩

noncomputable def draymanlaw34_NetDoes_loops {α : Type} (draymanlaw34_awake : draymanlaw34_awake_T α) (draymanlaw34_of : draymanlaw34_of_T α) (net_Take : net_Take_T α) (draymanref34_Take : draymanref34_Take_T α) (net_Copy : net_Copy_T α) (draymanref34_Copy : draymanref34_Copy_T α) (net_Look : net_Look_T α) (draymanref34_Look : draymanref34_Look_T α) (draymanlaw34_same : draymanlaw34_same_T α) (net_Ask : net_Ask_T α) (draymanref34_Ask : draymanref34_Ask_T α) (net_Tell : net_Tell_T α) (draymanref34_Tell : draymanref34_Tell_T α) (net_Fit : net_Fit_T α) (draymanref34_Fit : draymanref34_Fit_T α) (net_Same : net_Same_T α) (draymanref34_Same : draymanref34_Same_T α) (net_New : net_New_T α) (draymanref34_New : draymanref34_New_T α) : List (LoopSpec α) := []

theorem draymanlaw34_NetDoes_ev {α : Type} (draymanlaw34_awake : draymanlaw34_awake_T α) (draymanlaw34_of : draymanlaw34_of_T α) (net_Take : net_Take_T α) (draymanref34_Take : draymanref34_Take_T α) (net_Copy : net_Copy_T α) (draymanref34_Copy : draymanref34_Copy_T α) (net_Look : net_Look_T α) (draymanref34_Look : draymanref34_Look_T α) (draymanlaw34_same : draymanlaw34_same_T α) (net_Ask : net_Ask_T α) (draymanref34_Ask : draymanref34_Ask_T α) (net_Tell : net_Tell_T α) (draymanref34_Tell : draymanref34_Tell_T α) (net_Fit : net_Fit_T α) (draymanref34_Fit : draymanref34_Fit_T α) (net_Same : net_Same_T α) (draymanref34_Same : draymanref34_Same_T α) (net_New : net_New_T α) (draymanref34_New : draymanref34_New_T α) : EvOk (α := α) Go.Proofs.Try.prog (envOf (draymanlaw34_NetDoes_C draymanlaw34_awake draymanlaw34_of net_Take draymanref34_Take net_Copy draymanref34_Copy net_Look draymanref34_Look draymanlaw34_same net_Ask draymanref34_Ask net_Tell draymanref34_Tell net_Fit draymanref34_Fit net_Same draymanref34_Same net_New draymanref34_New) draymanlaw34_NetDoes_q draymanlaw34_NetDoes_inl 1000 draymanlaw34_NetDoes_ann false (draymanlaw34_NetDoes_loops draymanlaw34_awake draymanlaw34_of net_Take draymanref34_Take net_Copy draymanref34_Copy net_Look draymanref34_Look draymanlaw34_same net_Ask draymanref34_Ask net_Tell draymanref34_Tell net_Fit draymanref34_Fit net_Same draymanref34_Same net_New draymanref34_New) (fun _ => none)) 6 (draymanlaw34_NetDoes_sp (draymanlaw34_NetDoes_g draymanlaw34_awake draymanlaw34_of net_Take draymanref34_Take net_Copy draymanref34_Copy net_Look draymanref34_Look draymanlaw34_same net_Ask draymanref34_Ask net_Tell draymanref34_Tell net_Fit draymanref34_Fit net_Same draymanref34_Same net_New draymanref34_New)) := by intro ds k; kernel_rfl

theorem draymanlaw34_NetDoes_ok {α : Type} : (draymanlaw34_NetDoes_spec : FunSpec α).ok Go.Proofs.Try.prog :=
  FunSpec.ok_of (sp := draymanlaw34_NetDoes_spec) (C := draymanlaw34_NetDoes_C draymanlaw34_awake draymanlaw34_of net_Take draymanref34_Take net_Copy draymanref34_Copy net_Look draymanref34_Look draymanlaw34_same net_Ask draymanref34_Ask net_Tell draymanref34_Tell net_Fit draymanref34_Fit net_Same draymanref34_Same net_New draymanref34_New) (q := draymanlaw34_NetDoes_q) (inl := draymanlaw34_NetDoes_inl) (N := 1000) (ann := draymanlaw34_NetDoes_ann) (fr := false) (D := 6) (l := (draymanlaw34_NetDoes_loops draymanlaw34_awake draymanlaw34_of net_Take draymanref34_Take net_Copy draymanref34_Copy net_Look draymanref34_Look draymanlaw34_same net_Ask draymanref34_Ask net_Tell draymanref34_Tell net_Fit draymanref34_Fit net_Same draymanref34_Same net_New draymanref34_New)) (hk := (fun _ => none)) (okCons draymanlaw34_awake_ok (okCons draymanlaw34_of_ok (okCons net_Take_ok (okCons draymanref34_Take_ok (okCons net_Copy_ok (okCons draymanref34_Copy_ok (okCons net_Look_ok (okCons draymanref34_Look_ok (okCons draymanlaw34_same_ok (okCons net_Ask_ok (okCons draymanref34_Ask_ok (okCons net_Tell_ok (okCons draymanref34_Tell_ok (okCons net_Fit_ok (okCons draymanref34_Fit_ok (okCons net_Same_ok (okCons draymanref34_Same_ok (okCons net_New_ok (okCons draymanref34_New_ok okNil))))))))))))))))))) lokNil noHooks (draymanlaw34_NetDoes_ev draymanlaw34_awake draymanlaw34_of net_Take draymanref34_Take net_Copy draymanref34_Copy net_Look draymanref34_Look draymanlaw34_same net_Ask draymanref34_Ask net_Tell draymanref34_Tell net_Fit draymanref34_Fit net_Same draymanref34_Same net_New draymanref34_New)

end
end Go.Rv.Try
