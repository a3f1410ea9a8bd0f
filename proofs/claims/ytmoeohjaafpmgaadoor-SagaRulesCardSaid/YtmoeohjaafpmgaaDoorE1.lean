/- What the functions of the program compute, each with the proof that its code computes it. Written by a program (rvp2.py). -/
import Derived.Test.YtmoeohjaafpmgaaDoorProg
import Derived.Test.YtmoeohjaafpmgaaDoorRvP
import Derived.Test.YtmoeohjaafpmgaaDoorFx
import Derived.Test.YtmoeohjaafpmgaaDoorUtf8
import Derived.Test.YtmoeohjaafpmgaaDoorE0

set_option linter.unusedVariables false
set_option maxRecDepth 100000
set_option maxHeartbeats 4000000
namespace Go.Rv.Tryd
open Go Go.Rv Go.RowKit
noncomputable section

-- drayman/def.rules$4

abbrev def_rules_4_T (α : Type) : Type := (ByteArray × (Seq Z0) × Unit) → (Bool → Option α) → Option α

noncomputable def def_rules_4_l0_step {α : Type} (def_Pivot : def_Pivot_T α) (kr : (Bool) → (ByteArray × (Seq Z0) × Unit) → Option α) (k0 : (ByteArray × (Seq Z0) × Unit) → Option α) (rec : (Int) → (Seq Z0) → (Int) → (Int) → (ByteArray × (Seq Z0) × Unit) → Option α) (x3 : Int) (x4 : Seq Z0) (x5 : Int) (x6 : Int) (x7 : ByteArray × (Seq Z0) × Unit) : Option α :=
  (cond (decide (x6 < x5))
    (cond ((decide ((0 : Int) ≤ x6)) && (decide (x6 < (x4.n : Int))))
      (cond (decide (x3 ≥ 0))
        (cond (decide (x6 > x3))
          (cond (x6 != x3)
            (cond ((x4.g x6.toNat).2.1 != 3)
              (kr false x7)
              (rec x3 x4 x5 (IntKind.i64.wrap (x6 + 1)) x7))
            (rec x3 x4 x5 (IntKind.i64.wrap (x6 + 1)) x7))
          (cond (x6 != x3)
            (cond ((x4.g x6.toNat).2.1 != 1)
              (kr false x7)
              (rec x3 x4 x5 (IntKind.i64.wrap (x6 + 1)) x7))
            (rec x3 x4 x5 (IntKind.i64.wrap (x6 + 1)) x7)))
        (cond (x6 != x3)
          (cond ((x4.g x6.toNat).2.1 != 1)
            (kr false x7)
            (rec x3 x4 x5 (IntKind.i64.wrap (x6 + 1)) x7))
          (rec x3 x4 x5 (IntKind.i64.wrap (x6 + 1)) x7)))
      none)
    (k0 x7))

noncomputable def def_rules_4_l0_run {α : Type} (def_Pivot : def_Pivot_T α) (kr : (Bool) → (ByteArray × (Seq Z0) × Unit) → Option α) (k0 : (ByteArray × (Seq Z0) × Unit) → Option α) : Nat → (Int) → (Seq Z0) → (Int) → (Int) → (ByteArray × (Seq Z0) × Unit) → Option α
  | 0, _, _, _, _, _ => none
  | n + 1, x3, x4, x5, x6, x7 => def_rules_4_l0_step def_Pivot kr k0 (fun x3 x4 x5 x6 x7 => def_rules_4_l0_run def_Pivot kr k0 n x3 x4 x5 x6 x7) x3 x4 x5 x6 x7

noncomputable def def_rules_4_g {α : Type} (def_Pivot : def_Pivot_T α) (d1 : ByteArray × (Seq Z0) × Unit) (k : Bool → Option α) : Option α :=
  (def_Pivot d1 fun r2 =>
    (def_rules_4_l0_run def_Pivot
      (fun x8 x9 =>
        (k x8))
      (fun x10 =>
        (k true))
      1000 r2 d1.2.1 (d1.2.1.n : Int) 0 d1))

noncomputable def def_rules_4 {α : Type} : def_rules_4_T α := def_rules_4_g def_Pivot

noncomputable def def_rules_4_sp {α : Type} (def_rules_4 : def_rules_4_T α) : FunSpec α := ⟨125, [.agg [.str, .sl (.int .i64 (.int .i64 (.int .i64 (.int .i64 (.int .i64 (.int .i64 (.nil)))))))]], [], fun ds k => def_rules_4 (hdS ds, hdQ (.int .i64 (.int .i64 (.int .i64 (.int .i64 (.int .i64 (.int .i64 (.nil))))))) ds.tail, ()) (fun r1 => k (enc dep (.bool) [.b r1]).1 [])⟩

noncomputable def def_rules_4_spec {α : Type} : FunSpec α := def_rules_4_sp def_rules_4

noncomputable def def_rules_4_C {α : Type} (def_Pivot : def_Pivot_T α) : List (FunSpec α) := [def_Pivot_sp def_Pivot]

noncomputable def def_rules_4_q : FuncId → Bool := fun f => Nat.beq f 87

noncomputable def def_rules_4_inl : FuncId → Bool := fun f => false

noncomputable def def_rules_4_ann : FuncId → AnnT := fun f p => if f = 125 then (if p = [true, false, true, true] then ⟨[3, 10, 11, 12], [], [], [2], 0, [], [], none⟩ else ⟨[], [], [], [], 0, [], [], none⟩) else ⟨[], [], [], [], 0, [], [], none⟩

noncomputable def def_rules_4_l0_t : List Sh := [.dead, .dead, .dead, .int .i64, .dead, .dead, .dead, .dead, .dead, .dead, .sl (.int .i64 (.int .i64 (.int .i64 (.int .i64 (.int .i64 (.int .i64 (.nil))))))), .int .i64, .int .i64, .dead, .dead, .dead, .dead, .dead, .dead, .dead, .dead, .dead, .dead, .dead, .dead, .dead, .dead, .dead, .dead, .dead, .dead, .dead, .dead, .dead]
noncomputable def def_rules_4_l0_s : List (List Sh) := []
noncomputable def def_rules_4_l0_h : List BSh := [.box [.str, .sl (.int .i64 (.int .i64 (.int .i64 (.int .i64 (.int .i64 (.int .i64 (.nil)))))))]]

noncomputable def def_rules_4_l0_spec {α : Type} (def_Pivot : def_Pivot_T α) : LoopSpec α := ⟨6, 125, [true, false, true, true], def_rules_4_l0_t, def_rules_4_l0_s, def_rules_4_l0_h, fun ds k => def_rules_4_l0_run def_Pivot (fun y1 y2 => k .ret (encSt [.dead, .dead, .bool, .dead, .dead, .dead, .dead, .dead, .dead, .dead, .dead, .dead, .dead, .dead, .dead, .dead, .dead, .dead, .dead, .dead, .dead, .dead, .dead, .dead, .dead, .dead, .dead, .dead, .dead, .dead, .dead, .dead, .dead, .dead] [] [.box [.str, .sl (.int .i64 (.int .i64 (.int .i64 (.int .i64 (.int .i64 (.int .i64 (.nil)))))))]] [.b y1, .s y2.1, .q (.int .i64 (.int .i64 (.int .i64 (.int .i64 (.int .i64 (.int .i64 (.nil))))))) y2.2.1])) (fun y1 => k (.exit 0) (encSt [.dead, .dead, .dead, .dead, .dead, .dead, .dead, .dead, .dead, .dead, .dead, .dead, .dead, .dead, .dead, .dead, .dead, .dead, .dead, .dead, .dead, .dead, .dead, .dead, .dead, .dead, .dead, .dead, .dead, .dead, .dead, .dead, .dead, .dead] [] [.box [.str, .sl (.int .i64 (.int .i64 (.int .i64 (.int .i64 (.int .i64 (.int .i64 (.nil)))))))]] [.s y1.1, .q (.int .i64 (.int .i64 (.int .i64 (.int .i64 (.int .i64 (.int .i64 (.nil))))))) y1.2.1])) 1000 (hdI ds) (hdQ (.int .i64 (.int .i64 (.int .i64 (.int .i64 (.int .i64 (.int .i64 (.nil))))))) ds.tail) (hdI ds.tail.tail) (hdI ds.tail.tail.tail) (hdS ds.tail.tail.tail.tail, hdQ (.int .i64 (.int .i64 (.int .i64 (.int .i64 (.int .i64 (.int .i64 (.nil))))))) ds.tail.tail.tail.tail.tail, ())⟩

noncomputable def def_rules_4_loops {α : Type} (def_Pivot : def_Pivot_T α) : List (LoopSpec α) := [def_rules_4_l0_spec def_Pivot]

noncomputable def def_rules_4_l0_ev {α : Type} (def_Pivot : def_Pivot_T α) (n : Nat) (st : St) (k : X → St → Option α) : Option α := loopN (evCode Go.Proofs.Tryd.prog (callD Go.Proofs.Tryd.prog (envOf (def_rules_4_C def_Pivot) def_rules_4_q def_rules_4_inl 1000 def_rules_4_ann false (def_rules_4_loops def_Pivot) (fun _ => none)) 6) (((envOf (def_rules_4_C def_Pivot) def_rules_4_q def_rules_4_inl 1000 def_rules_4_ann false (def_rules_4_loops def_Pivot) (fun _ => none)) : Env α).L 6 125) 1000 (def_rules_4_ann 125) (false :: [true, false, true, true]) (loopC Go.Proofs.Tryd.prog 125 [true, false, true, true])) ((def_rules_4_ann 125 [true, false, true, true]).head 1) ((def_rules_4_ann 125 [true, false, true, true]).leave 1) n st k

theorem def_rules_4_l0_eq {α : Type} (def_Pivot : def_Pivot_T α) : ∀ (n : Nat) (x3 : Int) (x4 : Seq Z0) (x5 : Int) (x6 : Int) (x7 : ByteArray × (Seq Z0) × Unit) (k : X → St → Option α), def_rules_4_l0_ev def_Pivot n (encSt def_rules_4_l0_t def_rules_4_l0_s def_rules_4_l0_h [.i x3, .q (.int .i64 (.int .i64 (.int .i64 (.int .i64 (.int .i64 (.int .i64 (.nil))))))) x4, .i x5, .i x6, .s x7.1, .q (.int .i64 (.int .i64 (.int .i64 (.int .i64 (.int .i64 (.int .i64 (.nil))))))) x7.2.1]) k = def_rules_4_l0_run def_Pivot (fun y1 y2 => k .ret (encSt [.dead, .dead, .bool, .dead, .dead, .dead, .dead, .dead, .dead, .dead, .dead, .dead, .dead, .dead, .dead, .dead, .dead, .dead, .dead, .dead, .dead, .dead, .dead, .dead, .dead, .dead, .dead, .dead, .dead, .dead, .dead, .dead, .dead, .dead] [] [.box [.str, .sl (.int .i64 (.int .i64 (.int .i64 (.int .i64 (.int .i64 (.int .i64 (.nil)))))))]] [.b y1, .s y2.1, .q (.int .i64 (.int .i64 (.int .i64 (.int .i64 (.int .i64 (.int .i64 (.nil))))))) y2.2.1])) (fun y1 => k (.exit 0) (encSt [.dead, .dead, .dead, .dead, .dead, .dead, .dead, .dead, .dead, .dead, .dead, .dead, .dead, .dead, .dead, .dead, .dead, .dead, .dead, .dead, .dead, .dead, .dead, .dead, .dead, .dead, .dead, .dead, .dead, .dead, .dead, .dead, .dead, .dead] [] [.box [.str, .sl (.int .i64 (.int .i64 (.int .i64 (.int .i64 (.int .i64 (.int .i64 (.nil)))))))]] [.s y1.1, .q (.int .i64 (.int .i64 (.int .i64 (.int .i64 (.int .i64 (.int .i64 (.nil))))))) y1.2.1])) n x3 x4 x5 x6 x7 := by
  intro n
  induction n with
  | zero => intros; kernel_rfl
  | succ n ih =>
    intro x3 x4 x5 x6 x7 k
    have e : (fun (x3 : Int) (x4 : Seq Z0) (x5 : Int) (x6 : Int) (x7 : ByteArray × (Seq Z0) × Unit) => def_rules_4_l0_ev def_Pivot n (encSt def_rules_4_l0_t def_rules_4_l0_s def_rules_4_l0_h [.i x3, .q (.int .i64 (.int .i64 (.int .i64 (.int .i64 (.int .i64 (.int .i64 (.nil))))))) x4, .i x5, .i x6, .s x7.1, .q (.int .i64 (.int .i64 (.int .i64 (.int .i64 (.int .i64 (.int .i64 (.nil))))))) x7.2.1]) k) = (fun (x3 : Int) (x4 : Seq Z0) (x5 : Int) (x6 : Int) (x7 : ByteArray × (Seq Z0) × Unit) => def_rules_4_l0_run def_Pivot (fun y1 y2 => k .ret (encSt [.dead, .dead, .bool, .dead, .dead, .dead, .dead, .dead, .dead, .dead, .dead, .dead, .dead, .dead, .dead, .dead, .dead, .dead, .dead, .dead, .dead, .dead, .dead, .dead, .dead, .dead, .dead, .dead, .dead, .dead, .dead, .dead, .dead, .dead] [] [.box [.str, .sl (.int .i64 (.int .i64 (.int .i64 (.int .i64 (.int .i64 (.int .i64 (.nil)))))))]] [.b y1, .s y2.1, .q (.int .i64 (.int .i64 (.int .i64 (.int .i64 (.int .i64 (.int .i64 (.nil))))))) y2.2.1])) (fun y1 => k (.exit 0) (encSt [.dead, .dead, .dead, .dead, .dead, .dead, .dead, .dead, .dead, .dead, .dead, .dead, .dead, .dead, .dead, .dead, .dead, .dead, .dead, .dead, .dead, .dead, .dead, .dead, .dead, .dead, .dead, .dead, .dead, .dead, .dead, .dead, .dead, .dead] [] [.box [.str, .sl (.int .i64 (.int .i64 (.int .i64 (.int .i64 (.int .i64 (.int .i64 (.nil)))))))]] [.s y1.1, .q (.int .i64 (.int .i64 (.int .i64 (.int .i64 (.int .i64 (.int .i64 (.nil))))))) y1.2.1])) n x3 x4 x5 x6 x7) := by
      funext x3 x4 x5 x6 x7
      exact ih x3 x4 x5 x6 x7 k
    have h1 : def_rules_4_l0_ev def_Pivot (n + 1) (encSt def_rules_4_l0_t def_rules_4_l0_s def_rules_4_l0_h [.i x3, .q (.int .i64 (.int .i64 (.int .i64 (.int .i64 (.int .i64 (.int .i64 (.nil))))))) x4, .i x5, .i x6, .s x7.1, .q (.int .i64 (.int .i64 (.int .i64 (.int .i64 (.int .i64 (.int .i64 (.nil))))))) x7.2.1]) k = def_rules_4_l0_step def_Pivot (fun y1 y2 => k .ret (encSt [.dead, .dead, .bool, .dead, .dead, .dead, .dead, .dead, .dead, .dead, .dead, .dead, .dead, .dead, .dead, .dead, .dead, .dead, .dead, .dead, .dead, .dead, .dead, .dead, .dead, .dead, .dead, .dead, .dead, .dead, .dead, .dead, .dead, .dead] [] [.box [.str, .sl (.int .i64 (.int .i64 (.int .i64 (.int .i64 (.int .i64 (.int .i64 (.nil)))))))]] [.b y1, .s y2.1, .q (.int .i64 (.int .i64 (.int .i64 (.int .i64 (.int .i64 (.int .i64 (.nil))))))) y2.2.1])) (fun y1 => k (.exit 0) (encSt [.dead, .dead, .dead, .dead, .dead, .dead, .dead, .dead, .dead, .dead, .dead, .dead, .dead, .dead, .dead, .dead, .dead, .dead, .dead, .dead, .dead, .dead, .dead, .dead, .dead, .dead, .dead, .dead, .dead, .dead, .dead, .dead, .dead, .dead] [] [.box [.str, .sl (.int .i64 (.int .i64 (.int .i64 (.int .i64 (.int .i64 (.int .i64 (.nil)))))))]] [.s y1.1, .q (.int .i64 (.int .i64 (.int .i64 (.int .i64 (.int .i64 (.int .i64 (.nil))))))) y1.2.1])) (fun (x3 : Int) (x4 : Seq Z0) (x5 : Int) (x6 : Int) (x7 : ByteArray × (Seq Z0) × Unit) => def_rules_4_l0_ev def_Pivot n (encSt def_rules_4_l0_t def_rules_4_l0_s def_rules_4_l0_h [.i x3, .q (.int .i64 (.int .i64 (.int .i64 (.int .i64 (.int .i64 (.int .i64 (.nil))))))) x4, .i x5, .i x6, .s x7.1, .q (.int .i64 (.int .i64 (.int .i64 (.int .i64 (.int .i64 (.int .i64 (.nil))))))) x7.2.1]) k) x3 x4 x5 x6 x7 := by kernel_rfl
    have h2 := congrArg (fun r => def_rules_4_l0_step def_Pivot (fun y1 y2 => k .ret (encSt [.dead, .dead, .bool, .dead, .dead, .dead, .dead, .dead, .dead, .dead, .dead, .dead, .dead, .dead, .dead, .dead, .dead, .dead, .dead, .dead, .dead, .dead, .dead, .dead, .dead, .dead, .dead, .dead, .dead, .dead, .dead, .dead, .dead, .dead] [] [.box [.str, .sl (.int .i64 (.int .i64 (.int .i64 (.int .i64 (.int .i64 (.int .i64 (.nil)))))))]] [.b y1, .s y2.1, .q (.int .i64 (.int .i64 (.int .i64 (.int .i64 (.int .i64 (.int .i64 (.nil))))))) y2.2.1])) (fun y1 => k (.exit 0) (encSt [.dead, .dead, .dead, .dead, .dead, .dead, .dead, .dead, .dead, .dead, .dead, .dead, .dead, .dead, .dead, .dead, .dead, .dead, .dead, .dead, .dead, .dead, .dead, .dead, .dead, .dead, .dead, .dead, .dead, .dead, .dead, .dead, .dead, .dead] [] [.box [.str, .sl (.int .i64 (.int .i64 (.int .i64 (.int .i64 (.int .i64 (.int .i64 (.nil)))))))]] [.s y1.1, .q (.int .i64 (.int .i64 (.int .i64 (.int .i64 (.int .i64 (.int .i64 (.nil))))))) y1.2.1])) r x3 x4 x5 x6 x7) e
    have h3 : def_rules_4_l0_step def_Pivot (fun y1 y2 => k .ret (encSt [.dead, .dead, .bool, .dead, .dead, .dead, .dead, .dead, .dead, .dead, .dead, .dead, .dead, .dead, .dead, .dead, .dead, .dead, .dead, .dead, .dead, .dead, .dead, .dead, .dead, .dead, .dead, .dead, .dead, .dead, .dead, .dead, .dead, .dead] [] [.box [.str, .sl (.int .i64 (.int .i64 (.int .i64 (.int .i64 (.int .i64 (.int .i64 (.nil)))))))]] [.b y1, .s y2.1, .q (.int .i64 (.int .i64 (.int .i64 (.int .i64 (.int .i64 (.int .i64 (.nil))))))) y2.2.1])) (fun y1 => k (.exit 0) (encSt [.dead, .dead, .dead, .dead, .dead, .dead, .dead, .dead, .dead, .dead, .dead, .dead, .dead, .dead, .dead, .dead, .dead, .dead, .dead, .dead, .dead, .dead, .dead, .dead, .dead, .dead, .dead, .dead, .dead, .dead, .dead, .dead, .dead, .dead] [] [.box [.str, .sl (.int .i64 (.int .i64 (.int .i64 (.int .i64 (.int .i64 (.int .i64 (.nil)))))))]] [.s y1.1, .q (.int .i64 (.int .i64 (.int .i64 (.int .i64 (.int .i64 (.int .i64 (.nil))))))) y1.2.1])) (fun (x3 : Int) (x4 : Seq Z0) (x5 : Int) (x6 : Int) (x7 : ByteArray × (Seq Z0) × Unit) => def_rules_4_l0_run def_Pivot (fun y1 y2 => k .ret (encSt [.dead, .dead, .bool, .dead, .dead, .dead, .dead, .dead, .dead, .dead, .dead, .dead, .dead, .dead, .dead, .dead, .dead, .dead, .dead, .dead, .dead, .dead, .dead, .dead, .dead, .dead, .dead, .dead, .dead, .dead, .dead, .dead, .dead, .dead] [] [.box [.str, .sl (.int .i64 (.int .i64 (.int .i64 (.int .i64 (.int .i64 (.int .i64 (.nil)))))))]] [.b y1, .s y2.1, .q (.int .i64 (.int .i64 (.int .i64 (.int .i64 (.int .i64 (.int .i64 (.nil))))))) y2.2.1])) (fun y1 => k (.exit 0) (encSt [.dead, .dead, .dead, .dead, .dead, .dead, .dead, .dead, .dead, .dead, .dead, .dead, .dead, .dead, .dead, .dead, .dead, .dead, .dead, .dead, .dead, .dead, .dead, .dead, .dead, .dead, .dead, .dead, .dead, .dead, .dead, .dead, .dead, .dead] [] [.box [.str, .sl (.int .i64 (.int .i64 (.int .i64 (.int .i64 (.int .i64 (.int .i64 (.nil)))))))]] [.s y1.1, .q (.int .i64 (.int .i64 (.int .i64 (.int .i64 (.int .i64 (.int .i64 (.nil))))))) y1.2.1])) n x3 x4 x5 x6 x7) x3 x4 x5 x6 x7 = def_rules_4_l0_run def_Pivot (fun y1 y2 => k .ret (encSt [.dead, .dead, .bool, .dead, .dead, .dead, .dead, .dead, .dead, .dead, .dead, .dead, .dead, .dead, .dead, .dead, .dead, .dead, .dead, .dead, .dead, .dead, .dead, .dead, .dead, .dead, .dead, .dead, .dead, .dead, .dead, .dead, .dead, .dead] [] [.box [.str, .sl (.int .i64 (.int .i64 (.int .i64 (.int .i64 (.int .i64 (.int .i64 (.nil)))))))]] [.b y1, .s y2.1, .q (.int .i64 (.int .i64 (.int .i64 (.int .i64 (.int .i64 (.int .i64 (.nil))))))) y2.2.1])) (fun y1 => k (.exit 0) (encSt [.dead, .dead, .dead, .dead, .dead, .dead, .dead, .dead, .dead, .dead, .dead, .dead, .dead, .dead, .dead, .dead, .dead, .dead, .dead, .dead, .dead, .dead, .dead, .dead, .dead, .dead, .dead, .dead, .dead, .dead, .dead, .dead, .dead, .dead] [] [.box [.str, .sl (.int .i64 (.int .i64 (.int .i64 (.int .i64 (.int .i64 (.int .i64 (.nil)))))))]] [.s y1.1, .q (.int .i64 (.int .i64 (.int .i64 (.int .i64 (.int .i64 (.int .i64 (.nil))))))) y1.2.1])) (n + 1) x3 x4 x5 x6 x7 := by kernel_rfl
    exact h1.trans (h2.trans h3)

theorem def_rules_4_l0_ok {α : Type} (def_Pivot : def_Pivot_T α) : (def_rules_4_l0_spec def_Pivot : LoopSpec α).ok Go.Proofs.Tryd.prog (envOf (def_rules_4_C def_Pivot) def_rules_4_q def_rules_4_inl 1000 def_rules_4_ann false (def_rules_4_loops def_Pivot) (fun _ => none)) := by
  intro ds k
  have h1 : def_rules_4_l0_ev def_Pivot 1000 (encSt def_rules_4_l0_t def_rules_4_l0_s def_rules_4_l0_h ds) k = def_rules_4_l0_ev def_Pivot 1000 (encSt def_rules_4_l0_t def_rules_4_l0_s def_rules_4_l0_h [.i (hdI ds), .q (.int .i64 (.int .i64 (.int .i64 (.int .i64 (.int .i64 (.int .i64 (.nil))))))) (hdQ (.int .i64 (.int .i64 (.int .i64 (.int .i64 (.int .i64 (.int .i64 (.nil))))))) ds.tail), .i (hdI ds.tail.tail), .i (hdI ds.tail.tail.tail), .s ((hdS ds.tail.tail.tail.tail, hdQ (.int .i64 (.int .i64 (.int .i64 (.int .i64 (.int .i64 (.int .i64 (.nil))))))) ds.tail.tail.tail.tail.tail, ()).1), .q (.int .i64 (.int .i64 (.int .i64 (.int .i64 (.int .i64 (.int .i64 (.nil))))))) ((hdS ds.tail.tail.tail.tail, hdQ (.int .i64 (.int .i64 (.int .i64 (.int .i64 (.int .i64 (.int .i64 (.nil))))))) ds.tail.tail.tail.tail.tail, ()).2.1)]) k := by kernel_rfl
  have h2 := def_rules_4_l0_eq def_Pivot 1000 (hdI ds) (hdQ (.int .i64 (.int .i64 (.int .i64 (.int .i64 (.int .i64 (.int .i64 (.nil))))))) ds.tail) (hdI ds.tail.tail) (hdI ds.tail.tail.tail) (hdS ds.tail.tail.tail.tail, hdQ (.int .i64 (.int .i64 (.int .i64 (.int .i64 (.int .i64 (.int .i64 (.nil))))))) ds.tail.tail.tail.tail.tail, ()) k
  exact h1.trans h2

theorem def_rules_4_ev {α : Type} (def_Pivot : def_Pivot_T α) : EvOk (α := α) Go.Proofs.Tryd.prog (envOf (def_rules_4_C def_Pivot) def_rules_4_q def_rules_4_inl 1000 def_rules_4_ann false (def_rules_4_loops def_Pivot) (fun _ => none)) 6 (def_rules_4_sp (def_rules_4_g def_Pivot)) := by intro ds k; kernel_rfl

theorem def_rules_4_ok {α : Type} : (def_rules_4_spec : FunSpec α).ok Go.Proofs.Tryd.prog :=
  FunSpec.ok_of (sp := def_rules_4_spec) (C := def_rules_4_C def_Pivot) (q := def_rules_4_q) (inl := def_rules_4_inl) (N := 1000) (ann := def_rules_4_ann) (fr := false) (D := 6) (l := (def_rules_4_loops def_Pivot)) (hk := (fun _ => none)) (okCons def_Pivot_ok okNil) (lokCons (def_rules_4_l0_ok def_Pivot) lokNil) noHooks (def_rules_4_ev def_Pivot)

end
end Go.Rv.Tryd

set_option linter.unusedVariables false
set_option maxRecDepth 100000
set_option maxHeartbeats 4000000
namespace Go.Rv.Tryd
open Go Go.Rv Go.RowKit
noncomputable section

-- drayman/def.rules$5

abbrev def_rules_5_T (α : Type) : Type := (ByteArray × (Seq Z0) × Unit) → (Bool → Option α) → Option α

noncomputable def def_rules_5_g {α : Type} (def_Place : def_Place_T α) (d1 : ByteArray × (Seq Z0) × Unit) (k : Bool → Option α) : Option α :=
  (def_Place d1 1 fun r2 =>
    (def_Place d1 3 fun r3 =>
      (def_Place d1 5 fun r4 =>
        (cond (!(decide ((bif (decide (r4 > (bif (decide (r3 > r2)) then r3 else r2))) then r4 else (bif (decide (r3 > r2)) then r3 else r2)) < 0)))
          (cond (decide ((0 : Int) ≤ r2))
            (cond (decide (r2 < r3))
              (k (decide (r3 < r4)))
              (k false))
            (k false))
          (k true)))))

noncomputable def def_rules_5 {α : Type} : def_rules_5_T α := def_rules_5_g def_Place

noncomputable def def_rules_5_sp {α : Type} (def_rules_5 : def_rules_5_T α) : FunSpec α := ⟨126, [.agg [.str, .sl (.int .i64 (.int .i64 (.int .i64 (.int .i64 (.int .i64 (.int .i64 (.nil)))))))]], [], fun ds k => def_rules_5 (hdS ds, hdQ (.int .i64 (.int .i64 (.int .i64 (.int .i64 (.int .i64 (.int .i64 (.nil))))))) ds.tail, ()) (fun r1 => k (enc dep (.bool) [.b r1]).1 [])⟩

noncomputable def def_rules_5_spec {α : Type} : FunSpec α := def_rules_5_sp def_rules_5

noncomputable def def_rules_5_C {α : Type} (def_Place : def_Place_T α) : List (FunSpec α) := [def_Place_sp def_Place]

noncomputable def def_rules_5_q : FuncId → Bool := fun f => Nat.beq f 76

noncomputable def def_rules_5_inl : FuncId → Bool := fun f => false

noncomputable def def_rules_5_ann : FuncId → AnnT := fun f p => if f = 126 then (if p = [false, true] then ⟨[], [], [], [], 2, [], [], none⟩ else ⟨[], [], [], [], 0, [], [], none⟩) else ⟨[], [], [], [], 0, [], [], none⟩

noncomputable def def_rules_5_loops {α : Type} (def_Place : def_Place_T α) : List (LoopSpec α) := []

theorem def_rules_5_ev {α : Type} (def_Place : def_Place_T α) : EvOk (α := α) Go.Proofs.Tryd.prog (envOf (def_rules_5_C def_Place) def_rules_5_q def_rules_5_inl 1000 def_rules_5_ann false (def_rules_5_loops def_Place) (fun _ => none)) 6 (def_rules_5_sp (def_rules_5_g def_Place)) := by intro ds k; kernel_rfl

theorem def_rules_5_ok {α : Type} : (def_rules_5_spec : FunSpec α).ok Go.Proofs.Tryd.prog :=
  FunSpec.ok_of (sp := def_rules_5_spec) (C := def_rules_5_C def_Place) (q := def_rules_5_q) (inl := def_rules_5_inl) (N := 1000) (ann := def_rules_5_ann) (fr := false) (D := 6) (l := (def_rules_5_loops def_Place)) (hk := (fun _ => none)) (okCons def_Place_ok okNil) lokNil noHooks (def_rules_5_ev def_Place)

end
end Go.Rv.Tryd

set_option linter.unusedVariables false
set_option maxRecDepth 100000
set_option maxHeartbeats 4000000
namespace Go.Rv.Tryd
open Go Go.Rv Go.RowKit
noncomputable section

-- drayman/def.rules$6

abbrev def_rules_6_T (α : Type) : Type := (ByteArray × (Seq Z0) × Unit) → (Bool → Option α) → Option α

noncomputable def def_rules_6_g {α : Type} (def_Place : def_Place_T α) (d1 : ByteArray × (Seq Z0) × Unit) (k : Bool → Option α) : Option α :=
  (def_Place d1 2 fun r2 =>
    (def_Place d1 6 fun r3 =>
      (cond (!(decide (r3 < 0)))
        (cond (decide ((0 : Int) ≤ r2))
          (k (decide (r2 < r3)))
          (k false))
        (k true))))

noncomputable def def_rules_6 {α : Type} : def_rules_6_T α := def_rules_6_g def_Place

noncomputable def def_rules_6_sp {α : Type} (def_rules_6 : def_rules_6_T α) : FunSpec α := ⟨127, [.agg [.str, .sl (.int .i64 (.int .i64 (.int .i64 (.int .i64 (.int .i64 (.int .i64 (.nil)))))))]], [], fun ds k => def_rules_6 (hdS ds, hdQ (.int .i64 (.int .i64 (.int .i64 (.int .i64 (.int .i64 (.int .i64 (.nil))))))) ds.tail, ()) (fun r1 => k (enc dep (.bool) [.b r1]).1 [])⟩

noncomputable def def_rules_6_spec {α : Type} : FunSpec α := def_rules_6_sp def_rules_6

noncomputable def def_rules_6_C {α : Type} (def_Place : def_Place_T α) : List (FunSpec α) := [def_Place_sp def_Place]

noncomputable def def_rules_6_q : FuncId → Bool := fun f => Nat.beq f 76

noncomputable def def_rules_6_inl : FuncId → Bool := fun f => false

noncomputable def def_rules_6_ann : FuncId → AnnT := fun f p => if f = 127 then (if p = [false, true] then ⟨[], [], [], [], 2, [], [], none⟩ else ⟨[], [], [], [], 0, [], [], none⟩) else ⟨[], [], [], [], 0, [], [], none⟩

noncomputable def def_rules_6_loops {α : Type} (def_Place : def_Place_T α) : List (LoopSpec α) := []

theorem def_rules_6_ev {α : Type} (def_Place : def_Place_T α) : EvOk (α := α) Go.Proofs.Tryd.prog (envOf (def_rules_6_C def_Place) def_rules_6_q def_rules_6_inl 1000 def_rules_6_ann false (def_rules_6_loops def_Place) (fun _ => none)) 6 (def_rules_6_sp (def_rules_6_g def_Place)) := by intro ds k; kernel_rfl

theorem def_rules_6_ok {α : Type} : (def_rules_6_spec : FunSpec α).ok Go.Proofs.Tryd.prog :=
  FunSpec.ok_of (sp := def_rules_6_spec) (C := def_rules_6_C def_Place) (q := def_rules_6_q) (inl := def_rules_6_inl) (N := 1000) (ann := def_rules_6_ann) (fr := false) (D := 6) (l := (def_rules_6_loops def_Place)) (hk := (fun _ => none)) (okCons def_Place_ok okNil) lokNil noHooks (def_rules_6_ev def_Place)

end
end Go.Rv.Tryd

set_option linter.unusedVariables false
set_option maxRecDepth 100000
set_option maxHeartbeats 4000000
namespace Go.Rv.Tryd
open Go Go.Rv Go.RowKit
noncomputable section

-- drayman/def.Fit

abbrev def_Fit_T (α : Type) : Type := (ByteArray × (Seq Z0) × Unit) → (Bool → Option α) → Option α

noncomputable def def_Fit_g {α : Type} (def_rules_1 : def_rules_1_T α) (def_rules_2 : def_rules_2_T α) (def_rules_3 : def_rules_3_T α) (def_rules_4 : def_rules_4_T α) (def_rules_5 : def_rules_5_T α) (def_rules_6 : def_rules_6_T α) (d1 : ByteArray × (Seq Z0) × Unit) (k : Bool → Option α) : Option α :=
  (def_rules_1 d1 fun r2 =>
    (cond (!r2)
      (k false)
      (def_rules_2 d1 fun r3 =>
        (cond (!r3)
          (k false)
          (def_rules_3 d1 fun r4 =>
            (cond (!r4)
              (k false)
              (def_rules_4 d1 fun r5 =>
                (cond (!r5)
                  (k false)
                  (def_rules_5 d1 fun r6 =>
                    (cond (!r6)
                      (k false)
                      (def_rules_6 d1 fun r7 =>
                        (cond (!r7)
                          (k false)
                          (k true)))))))))))))

noncomputable def def_Fit {α : Type} : def_Fit_T α := def_Fit_g def_rules_1 def_rules_2 def_rules_3 def_rules_4 def_rules_5 def_rules_6

noncomputable def def_Fit_sp {α : Type} (def_Fit : def_Fit_T α) : FunSpec α := ⟨75, [.agg [.str, .sl (.int .i64 (.int .i64 (.int .i64 (.int .i64 (.int .i64 (.int .i64 (.nil)))))))]], [], fun ds k => def_Fit (hdS ds, hdQ (.int .i64 (.int .i64 (.int .i64 (.int .i64 (.int .i64 (.int .i64 (.nil))))))) ds.tail, ()) (fun r1 => k (enc dep (.bool) [.b r1]).1 [])⟩

noncomputable def def_Fit_spec {α : Type} : FunSpec α := def_Fit_sp def_Fit

noncomputable def def_Fit_C {α : Type} (def_rules_1 : def_rules_1_T α) (def_rules_2 : def_rules_2_T α) (def_rules_3 : def_rules_3_T α) (def_rules_4 : def_rules_4_T α) (def_rules_5 : def_rules_5_T α) (def_rules_6 : def_rules_6_T α) : List (FunSpec α) := [def_rules_1_sp def_rules_1, def_rules_2_sp def_rules_2, def_rules_3_sp def_rules_3, def_rules_4_sp def_rules_4, def_rules_5_sp def_rules_5, def_rules_6_sp def_rules_6]

noncomputable def def_Fit_q : FuncId → Bool := fun f => Nat.beq f 119 || Nat.beq f 120 || Nat.beq f 124 || Nat.beq f 125 || Nat.beq f 126 || Nat.beq f 127

noncomputable def def_Fit_inl : FuncId → Bool := fun f => Nat.beq f 107

noncomputable def def_Fit_ann : FuncId → AnnT := fun f p => if f = 75 then (if p = [true, false, true] then ⟨[1, 5, 6, 7], [0, 1, 2, 3, 4, 5, 6, 7, 8, 9, 10, 11, 12, 13, 14, 15, 16, 17, 18, 19, 20, 21, 22, 23, 24, 25, 26, 27, 28, 29, 30, 31, 32, 33, 34, 35, 36, 37, 38, 39, 40, 41, 42, 43, 44, 45, 46, 47], [], [2], 0, [], [], none⟩ else ⟨[], [], [], [], 0, [], [], none⟩) else ⟨[], [], [], [], 0, [], [], none⟩

noncomputable def def_Fit_loops {α : Type} (def_rules_1 : def_rules_1_T α) (def_rules_2 : def_rules_2_T α) (def_rules_3 : def_rules_3_T α) (def_rules_4 : def_rules_4_T α) (def_rules_5 : def_rules_5_T α) (def_rules_6 : def_rules_6_T α) : List (LoopSpec α) := []

theorem def_Fit_ev {α : Type} (def_rules_1 : def_rules_1_T α) (def_rules_2 : def_rules_2_T α) (def_rules_3 : def_rules_3_T α) (def_rules_4 : def_rules_4_T α) (def_rules_5 : def_rules_5_T α) (def_rules_6 : def_rules_6_T α) : EvOk (α := α) Go.Proofs.Tryd.prog (envOf (def_Fit_C def_rules_1 def_rules_2 def_rules_3 def_rules_4 def_rules_5 def_rules_6) def_Fit_q def_Fit_inl 1000 def_Fit_ann false (def_Fit_loops def_rules_1 def_rules_2 def_rules_3 def_rules_4 def_rules_5 def_rules_6) (fun _ => none)) 6 (def_Fit_sp (def_Fit_g def_rules_1 def_rules_2 def_rules_3 def_rules_4 def_rules_5 def_rules_6)) := by intro ds k; kernel_rfl

theorem def_Fit_ok {α : Type} : (def_Fit_spec : FunSpec α).ok Go.Proofs.Tryd.prog :=
  FunSpec.ok_of (sp := def_Fit_spec) (C := def_Fit_C def_rules_1 def_rules_2 def_rules_3 def_rules_4 def_rules_5 def_rules_6) (q := def_Fit_q) (inl := def_Fit_inl) (N := 1000) (ann := def_Fit_ann) (fr := false) (D := 6) (l := (def_Fit_loops def_rules_1 def_rules_2 def_rules_3 def_rules_4 def_rules_5 def_rules_6)) (hk := (fun _ => none)) (okCons def_rules_1_ok (okCons def_rules_2_ok (okCons def_rules_3_ok (okCons def_rules_4_ok (okCons def_rules_5_ok (okCons def_rules_6_ok okNil)))))) lokNil noHooks (def_Fit_ev def_rules_1 def_rules_2 def_rules_3 def_rules_4 def_rules_5 def_rules_6)

end
end Go.Rv.Tryd

set_option linter.unusedVariables false
set_option maxRecDepth 100000
set_option maxHeartbeats 4000000
namespace Go.Rv.Tryd
open Go Go.Rv Go.RowKit
noncomputable section

-- slices.Index[[]int,int]

abbrev slices_Index_int_int_T (α : Type) : Type := (Seq (Int × Unit)) → Int → (Int → Option α) → Option α

noncomputable def slices_Index_int_int_l0_step {α : Type} (kr : (Int) → Option α) (k0 : Option α) (rec : (Seq (Int × Unit)) → (Int) → (Int) → (Int) → Option α) (s3 : Seq (Int × Unit)) (v4 : Int) (x5 : Int) (x6 : Int) : Option α :=
  (cond (decide (x6 < x5))
    (cond ((decide ((0 : Int) ≤ x6)) && (decide (x6 < (s3.n : Int))))
      (cond (v4 == (s3.g x6.toNat).1)
        (kr x6)
        (rec s3 v4 x5 (IntKind.i64.wrap (x6 + 1))))
      none)
    (k0))

noncomputable def slices_Index_int_int_l0_run {α : Type} (kr : (Int) → Option α) (k0 : Option α) : Nat → (Seq (Int × Unit)) → (Int) → (Int) → (Int) → Option α
  | 0, _, _, _, _ => none
  | n + 1, s3, v4, x5, x6 => slices_Index_int_int_l0_step kr k0 (fun s3 v4 x5 x6 => slices_Index_int_int_l0_run kr k0 n s3 v4 x5 x6) s3 v4 x5 x6

noncomputable def slices_Index_int_int {α : Type} (s1 : Seq (Int × Unit)) (v2 : Int) (k : Int → Option α) : Option α :=
  (slices_Index_int_int_l0_run
    (fun x7 =>
      (k x7))
    ((k (-1)))
    1000 s1 v2 (s1.n : Int) 0)

noncomputable def slices_Index_int_int_sp {α : Type} (slices_Index_int_int : slices_Index_int_int_T α) : FunSpec α := ⟨130, [.sl (.int .i64 (.nil)), .int .i64], [], fun ds k => slices_Index_int_int (hdQ (.int .i64 (.nil)) ds) (hdI ds.tail) (fun r1 => k (enc dep (.int .i64) [.i r1]).1 [])⟩

noncomputable def slices_Index_int_int_spec {α : Type} : FunSpec α := slices_Index_int_int_sp slices_Index_int_int

noncomputable def slices_Index_int_int_C {α : Type} : List (FunSpec α) := []

noncomputable def slices_Index_int_int_q : FuncId → Bool := fun f => false

noncomputable def slices_Index_int_int_inl : FuncId → Bool := fun f => false

noncomputable def slices_Index_int_int_ann : FuncId → AnnT := fun f p => if f = 130 then (if p = [true, false, true] then ⟨[0, 1, 7, 8], [], [], [4], 0, [], [], none⟩ else ⟨[], [], [], [], 0, [], [], none⟩) else ⟨[], [], [], [], 0, [], [], none⟩

noncomputable def slices_Index_int_int_l0_t : List Sh := [.sl (.int .i64 (.nil)), .int .i64, .dead, .dead, .dead, .dead, .dead, .int .i64, .int .i64, .dead, .dead, .dead, .dead, .dead, .dead, .dead, .dead, .dead, .dead]
noncomputable def slices_Index_int_int_l0_s : List (List Sh) := []
noncomputable def slices_Index_int_int_l0_h : List BSh := []

noncomputable def slices_Index_int_int_l0_spec {α : Type} : LoopSpec α := ⟨6, 130, [true, false, true], slices_Index_int_int_l0_t, slices_Index_int_int_l0_s, slices_Index_int_int_l0_h, fun ds k => slices_Index_int_int_l0_run (fun y1 => k .ret (encSt [.dead, .dead, .dead, .dead, .int .i64, .dead, .dead, .dead, .dead, .dead, .dead, .dead, .dead, .dead, .dead, .dead, .dead, .dead, .dead] [] [] [.i y1])) (k (.exit 0) (encSt [.dead, .dead, .dead, .dead, .dead, .dead, .dead, .dead, .dead, .dead, .dead, .dead, .dead, .dead, .dead, .dead, .dead, .dead, .dead] [] [] [])) 1000 (hdQ (.int .i64 (.nil)) ds) (hdI ds.tail) (hdI ds.tail.tail) (hdI ds.tail.tail.tail)⟩

noncomputable def slices_Index_int_int_loops {α : Type} : List (LoopSpec α) := [slices_Index_int_int_l0_spec]

noncomputable def slices_Index_int_int_l0_ev {α : Type} (n : Nat) (st : St) (k : X → St → Option α) : Option α := loopN (evCode Go.Proofs.Tryd.prog (callD Go.Proofs.Tryd.prog (envOf (slices_Index_int_int_C) slices_Index_int_int_q slices_Index_int_int_inl 1000 slices_Index_int_int_ann false (slices_Index_int_int_loops) (fun _ => none)) 6) (((envOf (slices_Index_int_int_C) slices_Index_int_int_q slices_Index_int_int_inl 1000 slices_Index_int_int_ann false (slices_Index_int_int_loops) (fun _ => none)) : Env α).L 6 130) 1000 (slices_Index_int_int_ann 130) (false :: [true, false, true]) (loopC Go.Proofs.Tryd.prog 130 [true, false, true])) ((slices_Index_int_int_ann 130 [true, false, true]).head 0) ((slices_Index_int_int_ann 130 [true, false, true]).leave 0) n st k

theorem slices_Index_int_int_l0_eq {α : Type} : ∀ (n : Nat) (s3 : Seq (Int × Unit)) (v4 : Int) (x5 : Int) (x6 : Int) (k : X → St → Option α), slices_Index_int_int_l0_ev n (encSt slices_Index_int_int_l0_t slices_Index_int_int_l0_s slices_Index_int_int_l0_h [.q (.int .i64 (.nil)) s3, .i v4, .i x5, .i x6]) k = slices_Index_int_int_l0_run (fun y1 => k .ret (encSt [.dead, .dead, .dead, .dead, .int .i64, .dead, .dead, .dead, .dead, .dead, .dead, .dead, .dead, .dead, .dead, .dead, .dead, .dead, .dead] [] [] [.i y1])) (k (.exit 0) (encSt [.dead, .dead, .dead, .dead, .dead, .dead, .dead, .dead, .dead, .dead, .dead, .dead, .dead, .dead, .dead, .dead, .dead, .dead, .dead] [] [] [])) n s3 v4 x5 x6 := by
  intro n
  induction n with
  | zero => intros; kernel_rfl
  | succ n ih =>
    intro s3 v4 x5 x6 k
    have e : (fun (s3 : Seq (Int × Unit)) (v4 : Int) (x5 : Int) (x6 : Int) => slices_Index_int_int_l0_ev n (encSt slices_Index_int_int_l0_t slices_Index_int_int_l0_s slices_Index_int_int_l0_h [.q (.int .i64 (.nil)) s3, .i v4, .i x5, .i x6]) k) = (fun (s3 : Seq (Int × Unit)) (v4 : Int) (x5 : Int) (x6 : Int) => slices_Index_int_int_l0_run (fun y1 => k .ret (encSt [.dead, .dead, .dead, .dead, .int .i64, .dead, .dead, .dead, .dead, .dead, .dead, .dead, .dead, .dead, .dead, .dead, .dead, .dead, .dead] [] [] [.i y1])) (k (.exit 0) (encSt [.dead, .dead, .dead, .dead, .dead, .dead, .dead, .dead, .dead, .dead, .dead, .dead, .dead, .dead, .dead, .dead, .dead, .dead, .dead] [] [] [])) n s3 v4 x5 x6) := by
      funext s3 v4 x5 x6
      exact ih s3 v4 x5 x6 k
    have h1 : slices_Index_int_int_l0_ev (n + 1) (encSt slices_Index_int_int_l0_t slices_Index_int_int_l0_s slices_Index_int_int_l0_h [.q (.int .i64 (.nil)) s3, .i v4, .i x5, .i x6]) k = slices_Index_int_int_l0_step (fun y1 => k .ret (encSt [.dead, .dead, .dead, .dead, .int .i64, .dead, .dead, .dead, .dead, .dead, .dead, .dead, .dead, .dead, .dead, .dead, .dead, .dead, .dead] [] [] [.i y1])) (k (.exit 0) (encSt [.dead, .dead, .dead, .dead, .dead, .dead, .dead, .dead, .dead, .dead, .dead, .dead, .dead, .dead, .dead, .dead, .dead, .dead, .dead] [] [] [])) (fun (s3 : Seq (Int × Unit)) (v4 : Int) (x5 : Int) (x6 : Int) => slices_Index_int_int_l0_ev n (encSt slices_Index_int_int_l0_t slices_Index_int_int_l0_s slices_Index_int_int_l0_h [.q (.int .i64 (.nil)) s3, .i v4, .i x5, .i x6]) k) s3 v4 x5 x6 := by kernel_rfl
    have h2 := congrArg (fun r => slices_Index_int_int_l0_step (fun y1 => k .ret (encSt [.dead, .dead, .dead, .dead, .int .i64, .dead, .dead, .dead, .dead, .dead, .dead, .dead, .dead, .dead, .dead, .dead, .dead, .dead, .dead] [] [] [.i y1])) (k (.exit 0) (encSt [.dead, .dead, .dead, .dead, .dead, .dead, .dead, .dead, .dead, .dead, .dead, .dead, .dead, .dead, .dead, .dead, .dead, .dead, .dead] [] [] [])) r s3 v4 x5 x6) e
    have h3 : slices_Index_int_int_l0_step (fun y1 => k .ret (encSt [.dead, .dead, .dead, .dead, .int .i64, .dead, .dead, .dead, .dead, .dead, .dead, .dead, .dead, .dead, .dead, .dead, .dead, .dead, .dead] [] [] [.i y1])) (k (.exit 0) (encSt [.dead, .dead, .dead, .dead, .dead, .dead, .dead, .dead, .dead, .dead, .dead, .dead, .dead, .dead, .dead, .dead, .dead, .dead, .dead] [] [] [])) (fun (s3 : Seq (Int × Unit)) (v4 : Int) (x5 : Int) (x6 : Int) => slices_Index_int_int_l0_run (fun y1 => k .ret (encSt [.dead, .dead, .dead, .dead, .int .i64, .dead, .dead, .dead, .dead, .dead, .dead, .dead, .dead, .dead, .dead, .dead, .dead, .dead, .dead] [] [] [.i y1])) (k (.exit 0) (encSt [.dead, .dead, .dead, .dead, .dead, .dead, .dead, .dead, .dead, .dead, .dead, .dead, .dead, .dead, .dead, .dead, .dead, .dead, .dead] [] [] [])) n s3 v4 x5 x6) s3 v4 x5 x6 = slices_Index_int_int_l0_run (fun y1 => k .ret (encSt [.dead, .dead, .dead, .dead, .int .i64, .dead, .dead, .dead, .dead, .dead, .dead, .dead, .dead, .dead, .dead, .dead, .dead, .dead, .dead] [] [] [.i y1])) (k (.exit 0) (encSt [.dead, .dead, .dead, .dead, .dead, .dead, .dead, .dead, .dead, .dead, .dead, .dead, .dead, .dead, .dead, .dead, .dead, .dead, .dead] [] [] [])) (n + 1) s3 v4 x5 x6 := by kernel_rfl
    exact h1.trans (h2.trans h3)

theorem slices_Index_int_int_l0_ok {α : Type} : (slices_Index_int_int_l0_spec : LoopSpec α).ok Go.Proofs.Tryd.prog (envOf (slices_Index_int_int_C) slices_Index_int_int_q slices_Index_int_int_inl 1000 slices_Index_int_int_ann false (slices_Index_int_int_loops) (fun _ => none)) := by
  intro ds k
  have h1 : slices_Index_int_int_l0_ev 1000 (encSt slices_Index_int_int_l0_t slices_Index_int_int_l0_s slices_Index_int_int_l0_h ds) k = slices_Index_int_int_l0_ev 1000 (encSt slices_Index_int_int_l0_t slices_Index_int_int_l0_s slices_Index_int_int_l0_h [.q (.int .i64 (.nil)) (hdQ (.int .i64 (.nil)) ds), .i (hdI ds.tail), .i (hdI ds.tail.tail), .i (hdI ds.tail.tail.tail)]) k := by kernel_rfl
  have h2 := slices_Index_int_int_l0_eq 1000 (hdQ (.int .i64 (.nil)) ds) (hdI ds.tail) (hdI ds.tail.tail) (hdI ds.tail.tail.tail) k
  exact h1.trans h2

theorem slices_Index_int_int_ev {α : Type} : EvOk (α := α) Go.Proofs.Tryd.prog (envOf (slices_Index_int_int_C) slices_Index_int_int_q slices_Index_int_int_inl 1000 slices_Index_int_int_ann false (slices_Index_int_int_loops) (fun _ => none)) 6 (slices_Index_int_int_sp (slices_Index_int_int)) := by intro ds k; kernel_rfl

theorem slices_Index_int_int_ok {α : Type} : (slices_Index_int_int_spec : FunSpec α).ok Go.Proofs.Tryd.prog :=
  FunSpec.ok_of (sp := slices_Index_int_int_spec) (C := slices_Index_int_int_C) (q := slices_Index_int_int_q) (inl := slices_Index_int_int_inl) (N := 1000) (ann := slices_Index_int_int_ann) (fr := false) (D := 6) (l := (slices_Index_int_int_loops)) (hk := (fun _ => none)) okNil (lokCons (slices_Index_int_int_l0_ok) lokNil) noHooks (slices_Index_int_int_ev)

end
end Go.Rv.Tryd

set_option linter.unusedVariables false
set_option maxRecDepth 100000
set_option maxHeartbeats 4000000
namespace Go.Rv.Tryd
open Go Go.Rv Go.RowKit
noncomputable section

-- slices.Contains[[]int,int]

abbrev slices_Contains_int_int_T (α : Type) : Type := (Seq (Int × Unit)) → Int → (Bool → Option α) → Option α

noncomputable def slices_Contains_int_int_g {α : Type} (slices_Index_int_int : slices_Index_int_int_T α) (s1 : Seq (Int × Unit)) (v2 : Int) (k : Bool → Option α) : Option α :=
  (slices_Index_int_int s1 v2 fun r3 =>
    (k (decide (r3 ≥ 0))))

noncomputable def slices_Contains_int_int {α : Type} : slices_Contains_int_int_T α := slices_Contains_int_int_g slices_Index_int_int

noncomputable def slices_Contains_int_int_sp {α : Type} (slices_Contains_int_int : slices_Contains_int_int_T α) : FunSpec α := ⟨113, [.sl (.int .i64 (.nil)), .int .i64], [], fun ds k => slices_Contains_int_int (hdQ (.int .i64 (.nil)) ds) (hdI ds.tail) (fun r1 => k (enc dep (.bool) [.b r1]).1 [])⟩

noncomputable def slices_Contains_int_int_spec {α : Type} : FunSpec α := slices_Contains_int_int_sp slices_Contains_int_int

noncomputable def slices_Contains_int_int_C {α : Type} (slices_Index_int_int : slices_Index_int_int_T α) : List (FunSpec α) := [slices_Index_int_int_sp slices_Index_int_int]

noncomputable def slices_Contains_int_int_q : FuncId → Bool := fun f => Nat.beq f 130

noncomputable def slices_Contains_int_int_inl : FuncId → Bool := fun f => false

noncomputable def slices_Contains_int_int_ann : FuncId → AnnT := fun f p => ⟨[], [], [], [], 0, [], [], none⟩

noncomputable def slices_Contains_int_int_loops {α : Type} (slices_Index_int_int : slices_Index_int_int_T α) : List (LoopSpec α) := []

theorem slices_Contains_int_int_ev {α : Type} (slices_Index_int_int : slices_Index_int_int_T α) : EvOk (α := α) Go.Proofs.Tryd.prog (envOf (slices_Contains_int_int_C slices_Index_int_int) slices_Contains_int_int_q slices_Contains_int_int_inl 1000 slices_Contains_int_int_ann false (slices_Contains_int_int_loops slices_Index_int_int) (fun _ => none)) 6 (slices_Contains_int_int_sp (slices_Contains_int_int_g slices_Index_int_int)) := by intro ds k; kernel_rfl

theorem slices_Contains_int_int_ok {α : Type} : (slices_Contains_int_int_spec : FunSpec α).ok Go.Proofs.Tryd.prog :=
  FunSpec.ok_of (sp := slices_Contains_int_int_spec) (C := slices_Contains_int_int_C slices_Index_int_int) (q := slices_Contains_int_int_q) (inl := slices_Contains_int_int_inl) (N := 1000) (ann := slices_Contains_int_int_ann) (fr := false) (D := 6) (l := (slices_Contains_int_int_loops slices_Index_int_int)) (hk := (fun _ => none)) (okCons slices_Index_int_int_ok okNil) lokNil noHooks (slices_Contains_int_int_ev slices_Index_int_int)

end
end Go.Rv.Tryd

set_option linter.unusedVariables false
set_option maxRecDepth 100000
set_option maxHeartbeats 4000000
namespace Go.Rv.Tryd
open Go Go.Rv Go.RowKit
noncomputable section

-- drayman/saga.all$1

abbrev saga_all_1_T (α : Type) : Type := Int → (Seq (Int × Unit)) → (Bool → (Seq (Int × Unit)) → Option α) → Option α

noncomputable def saga_all_1_g {α : Type} (slices_Contains_int_int : slices_Contains_int_int_T α) (m1 : Int) (x2 : Seq (Int × Unit)) (k : Bool → (Seq (Int × Unit)) → Option α) : Option α :=
  (slices_Contains_int_int x2 m1 fun r3 =>
    (k (!r3) x2))

noncomputable def saga_all_1 {α : Type} : saga_all_1_T α := saga_all_1_g slices_Contains_int_int

noncomputable def saga_all_1_sp {α : Type} (saga_all_1 : saga_all_1_T α) : FunSpec α := ⟨112, [.int .i64, .ref 0 0], [.box [.sl (.int .i64 (.nil))]], fun ds k => saga_all_1 (hdI ds) (hdQ (.int .i64 (.nil)) ds.tail) (fun r1 r2 => k (enc dep (.bool) [.b r1]).1 (encBs [.box [.sl (.int .i64 (.nil))]] [.q (.int .i64 (.nil)) r2]).1)⟩

noncomputable def saga_all_1_spec {α : Type} : FunSpec α := saga_all_1_sp saga_all_1

noncomputable def saga_all_1_C {α : Type} (slices_Contains_int_int : slices_Contains_int_int_T α) : List (FunSpec α) := [slices_Contains_int_int_sp slices_Contains_int_int]

noncomputable def saga_all_1_q : FuncId → Bool := fun f => Nat.beq f 113

noncomputable def saga_all_1_inl : FuncId → Bool := fun f => false

noncomputable def saga_all_1_ann : FuncId → AnnT := fun f p => ⟨[], [], [], [], 0, [], [], none⟩

noncomputable def saga_all_1_loops {α : Type} (slices_Contains_int_int : slices_Contains_int_int_T α) : List (LoopSpec α) := []

theorem saga_all_1_ev {α : Type} (slices_Contains_int_int : slices_Contains_int_int_T α) : EvOk (α := α) Go.Proofs.Tryd.prog (envOf (saga_all_1_C slices_Contains_int_int) saga_all_1_q saga_all_1_inl 1000 saga_all_1_ann false (saga_all_1_loops slices_Contains_int_int) (fun _ => none)) 6 (saga_all_1_sp (saga_all_1_g slices_Contains_int_int)) := by intro ds k; kernel_rfl

theorem saga_all_1_ok {α : Type} : (saga_all_1_spec : FunSpec α).ok Go.Proofs.Tryd.prog :=
  FunSpec.ok_of (sp := saga_all_1_spec) (C := saga_all_1_C slices_Contains_int_int) (q := saga_all_1_q) (inl := saga_all_1_inl) (N := 1000) (ann := saga_all_1_ann) (fr := false) (D := 6) (l := (saga_all_1_loops slices_Contains_int_int)) (hk := (fun _ => none)) (okCons slices_Contains_int_int_ok okNil) lokNil noHooks (saga_all_1_ev slices_Contains_int_int)

end
end Go.Rv.Tryd

set_option linter.unusedVariables false
set_option maxRecDepth 100000
set_option maxHeartbeats 4000000
namespace Go.Rv.Tryd
open Go Go.Rv Go.RowKit
noncomputable section

-- slices.IndexFunc[[]int,int]

abbrev slices_IndexFunc_int_int_T (α : Type) : Type := (Seq (Int × Unit)) → (Seq (Int × Unit)) → (Int → (Seq (Int × Unit)) → Option α) → Option α

noncomputable def slices_IndexFunc_int_int_l0_step {α : Type} (saga_all_1 : saga_all_1_T α) (kr : (Int) → (Seq (Int × Unit)) → Option α) (k0 : (Seq (Int × Unit)) → Option α) (rec : (Seq (Int × Unit)) → (Int) → (Int) → (Seq (Int × Unit)) → Option α) (s3 : Seq (Int × Unit)) (x4 : Int) (x5 : Int) (x6 : Seq (Int × Unit)) : Option α :=
  (cond (decide (x5 < x4))
    (cond ((decide ((0 : Int) ≤ x5)) && (decide (x5 < (s3.n : Int))))
      (saga_all_1 ((s3.g x5.toNat).1) x6 fun r7 x8 =>
        (cond r7
          (kr x5 x8)
          (rec s3 x4 (IntKind.i64.wrap (x5 + 1)) x8)))
      none)
    (k0 x6))

noncomputable def slices_IndexFunc_int_int_l0_run {α : Type} (saga_all_1 : saga_all_1_T α) (kr : (Int) → (Seq (Int × Unit)) → Option α) (k0 : (Seq (Int × Unit)) → Option α) : Nat → (Seq (Int × Unit)) → (Int) → (Int) → (Seq (Int × Unit)) → Option α
  | 0, _, _, _, _ => none
  | n + 1, s3, x4, x5, x6 => slices_IndexFunc_int_int_l0_step saga_all_1 kr k0 (fun s3 x4 x5 x6 => slices_IndexFunc_int_int_l0_run saga_all_1 kr k0 n s3 x4 x5 x6) s3 x4 x5 x6

noncomputable def slices_IndexFunc_int_int_g {α : Type} (saga_all_1 : saga_all_1_T α) (s1 : Seq (Int × Unit)) (x2 : Seq (Int × Unit)) (k : Int → (Seq (Int × Unit)) → Option α) : Option α :=
  (slices_IndexFunc_int_int_l0_run saga_all_1
    (fun x9 x10 =>
      (k x9 x10))
    (fun x11 =>
      (k (-1) x11))
    1000 s1 (s1.n : Int) 0 x2)

noncomputable def slices_IndexFunc_int_int {α : Type} : slices_IndexFunc_int_int_T α := slices_IndexFunc_int_int_g saga_all_1

noncomputable def slices_IndexFunc_int_int_sp {α : Type} (slices_IndexFunc_int_int : slices_IndexFunc_int_int_T α) : FunSpec α := ⟨129, [.sl (.int .i64 (.nil)), .func (.func 112) [] [.ref 0 0]], [.box [.sl (.int .i64 (.nil))]], fun ds k => slices_IndexFunc_int_int (hdQ (.int .i64 (.nil)) ds) (hdQ (.int .i64 (.nil)) ds.tail) (fun r1 r2 => k (enc dep (.int .i64) [.i r1]).1 (encBs [.box [.sl (.int .i64 (.nil))]] [.q (.int .i64 (.nil)) r2]).1)⟩

noncomputable def slices_IndexFunc_int_int_spec {α : Type} : FunSpec α := slices_IndexFunc_int_int_sp slices_IndexFunc_int_int

noncomputable def slices_IndexFunc_int_int_C {α : Type} (saga_all_1 : saga_all_1_T α) : List (FunSpec α) := [saga_all_1_sp saga_all_1]

noncomputable def slices_IndexFunc_int_int_q : FuncId → Bool := fun f => false

noncomputable def slices_IndexFunc_int_int_inl : FuncId → Bool := fun f => false

noncomputable def slices_IndexFunc_int_int_ann : FuncId → AnnT := fun f p => if f = 129 then (if p = [true, false, true] then ⟨[0, 1, 7, 8], [], [], [4], 0, [], [], none⟩ else ⟨[], [], [], [], 0, [], [], none⟩) else ⟨[], [], [], [], 0, [], [], none⟩

noncomputable def slices_IndexFunc_int_int_l0_t : List Sh := [.sl (.int .i64 (.nil)), .func (.func 112) [] [.ref 0 0], .dead, .dead, .dead, .dead, .dead, .int .i64, .int .i64, .dead, .dead, .dead, .dead, .dead, .dead, .dead, .dead, .dead, .dead]
noncomputable def slices_IndexFunc_int_int_l0_s : List (List Sh) := []
noncomputable def slices_IndexFunc_int_int_l0_h : List BSh := [.box [.sl (.int .i64 (.nil))]]

noncomputable def slices_IndexFunc_int_int_l0_spec {α : Type} (saga_all_1 : saga_all_1_T α) : LoopSpec α := ⟨6, 129, [true, false, true], slices_IndexFunc_int_int_l0_t, slices_IndexFunc_int_int_l0_s, slices_IndexFunc_int_int_l0_h, fun ds k => slices_IndexFunc_int_int_l0_run saga_all_1 (fun y1 y2 => k .ret (encSt [.dead, .dead, .dead, .dead, .int .i64, .dead, .dead, .dead, .dead, .dead, .dead, .dead, .dead, .dead, .dead, .dead, .dead, .dead, .dead] [] [.box [.sl (.int .i64 (.nil))]] [.i y1, .q (.int .i64 (.nil)) y2])) (fun y1 => k (.exit 0) (encSt [.dead, .dead, .dead, .dead, .dead, .dead, .dead, .dead, .dead, .dead, .dead, .dead, .dead, .dead, .dead, .dead, .dead, .dead, .dead] [] [.box [.sl (.int .i64 (.nil))]] [.q (.int .i64 (.nil)) y1])) 1000 (hdQ (.int .i64 (.nil)) ds) (hdI ds.tail) (hdI ds.tail.tail) (hdQ (.int .i64 (.nil)) ds.tail.tail.tail)⟩

noncomputable def slices_IndexFunc_int_int_loops {α : Type} (saga_all_1 : saga_all_1_T α) : List (LoopSpec α) := [slices_IndexFunc_int_int_l0_spec saga_all_1]

noncomputable def slices_IndexFunc_int_int_l0_ev {α : Type} (saga_all_1 : saga_all_1_T α) (n : Nat) (st : St) (k : X → St → Option α) : Option α := loopN (evCode Go.Proofs.Tryd.prog (callD Go.Proofs.Tryd.prog (envOf (slices_IndexFunc_int_int_C saga_all_1) slices_IndexFunc_int_int_q slices_IndexFunc_int_int_inl 1000 slices_IndexFunc_int_int_ann false (slices_IndexFunc_int_int_loops saga_all_1) (fun _ => none)) 6) (((envOf (slices_IndexFunc_int_int_C saga_all_1) slices_IndexFunc_int_int_q slices_IndexFunc_int_int_inl 1000 slices_IndexFunc_int_int_ann false (slices_IndexFunc_int_int_loops saga_all_1) (fun _ => none)) : Env α).L 6 129) 1000 (slices_IndexFunc_int_int_ann 129) (false :: [true, false, true]) (loopC Go.Proofs.Tryd.prog 129 [true, false, true])) ((slices_IndexFunc_int_int_ann 129 [true, false, true]).head 1) ((slices_IndexFunc_int_int_ann 129 [true, false, true]).leave 1) n st k

theorem slices_IndexFunc_int_int_l0_eq {α : Type} (saga_all_1 : saga_all_1_T α) : ∀ (n : Nat) (s3 : Seq (Int × Unit)) (x4 : Int) (x5 : Int) (x6 : Seq (Int × Unit)) (k : X → St → Option α), slices_IndexFunc_int_int_l0_ev saga_all_1 n (encSt slices_IndexFunc_int_int_l0_t slices_IndexFunc_int_int_l0_s slices_IndexFunc_int_int_l0_h [.q (.int .i64 (.nil)) s3, .i x4, .i x5, .q (.int .i64 (.nil)) x6]) k = slices_IndexFunc_int_int_l0_run saga_all_1 (fun y1 y2 => k .ret (encSt [.dead, .dead, .dead, .dead, .int .i64, .dead, .dead, .dead, .dead, .dead, .dead, .dead, .dead, .dead, .dead, .dead, .dead, .dead, .dead] [] [.box [.sl (.int .i64 (.nil))]] [.i y1, .q (.int .i64 (.nil)) y2])) (fun y1 => k (.exit 0) (encSt [.dead, .dead, .dead, .dead, .dead, .dead, .dead, .dead, .dead, .dead, .dead, .dead, .dead, .dead, .dead, .dead, .dead, .dead, .dead] [] [.box [.sl (.int .i64 (.nil))]] [.q (.int .i64 (.nil)) y1])) n s3 x4 x5 x6 := by
  intro n
  induction n with
  | zero => intros; kernel_rfl
  | succ n ih =>
    intro s3 x4 x5 x6 k
    have e : (fun (s3 : Seq (Int × Unit)) (x4 : Int) (x5 : Int) (x6 : Seq (Int × Unit)) => slices_IndexFunc_int_int_l0_ev saga_all_1 n (encSt slices_IndexFunc_int_int_l0_t slices_IndexFunc_int_int_l0_s slices_IndexFunc_int_int_l0_h [.q (.int .i64 (.nil)) s3, .i x4, .i x5, .q (.int .i64 (.nil)) x6]) k) = (fun (s3 : Seq (Int × Unit)) (x4 : Int) (x5 : Int) (x6 : Seq (Int × Unit)) => slices_IndexFunc_int_int_l0_run saga_all_1 (fun y1 y2 => k .ret (encSt [.dead, .dead, .dead, .dead, .int .i64, .dead, .dead, .dead, .dead, .dead, .dead, .dead, .dead, .dead, .dead, .dead, .dead, .dead, .dead] [] [.box [.sl (.int .i64 (.nil))]] [.i y1, .q (.int .i64 (.nil)) y2])) (fun y1 => k (.exit 0) (encSt [.dead, .dead, .dead, .dead, .dead, .dead, .dead, .dead, .dead, .dead, .dead, .dead, .dead, .dead, .dead, .dead, .dead, .dead, .dead] [] [.box [.sl (.int .i64 (.nil))]] [.q (.int .i64 (.nil)) y1])) n s3 x4 x5 x6) := by
      funext s3 x4 x5 x6
      exact ih s3 x4 x5 x6 k
    have h1 : slices_IndexFunc_int_int_l0_ev saga_all_1 (n + 1) (encSt slices_IndexFunc_int_int_l0_t slices_IndexFunc_int_int_l0_s slices_IndexFunc_int_int_l0_h [.q (.int .i64 (.nil)) s3, .i x4, .i x5, .q (.int .i64 (.nil)) x6]) k = slices_IndexFunc_int_int_l0_step saga_all_1 (fun y1 y2 => k .ret (encSt [.dead, .dead, .dead, .dead, .int .i64, .dead, .dead, .dead, .dead, .dead, .dead, .dead, .dead, .dead, .dead, .dead, .dead, .dead, .dead] [] [.box [.sl (.int .i64 (.nil))]] [.i y1, .q (.int .i64 (.nil)) y2])) (fun y1 => k (.exit 0) (encSt [.dead, .dead, .dead, .dead, .dead, .dead, .dead, .dead, .dead, .dead, .dead, .dead, .dead, .dead, .dead, .dead, .dead, .dead, .dead] [] [.box [.sl (.int .i64 (.nil))]] [.q (.int .i64 (.nil)) y1])) (fun (s3 : Seq (Int × Unit)) (x4 : Int) (x5 : Int) (x6 : Seq (Int × Unit)) => slices_IndexFunc_int_int_l0_ev saga_all_1 n (encSt slices_IndexFunc_int_int_l0_t slices_IndexFunc_int_int_l0_s slices_IndexFunc_int_int_l0_h [.q (.int .i64 (.nil)) s3, .i x4, .i x5, .q (.int .i64 (.nil)) x6]) k) s3 x4 x5 x6 := by kernel_rfl
    have h2 := congrArg (fun r => slices_IndexFunc_int_int_l0_step saga_all_1 (fun y1 y2 => k .ret (encSt [.dead, .dead, .dead, .dead, .int .i64, .dead, .dead, .dead, .dead, .dead, .dead, .dead, .dead, .dead, .dead, .dead, .dead, .dead, .dead] [] [.box [.sl (.int .i64 (.nil))]] [.i y1, .q (.int .i64 (.nil)) y2])) (fun y1 => k (.exit 0) (encSt [.dead, .dead, .dead, .dead, .dead, .dead, .dead, .dead, .dead, .dead, .dead, .dead, .dead, .dead, .dead, .dead, .dead, .dead, .dead] [] [.box [.sl (.int .i64 (.nil))]] [.q (.int .i64 (.nil)) y1])) r s3 x4 x5 x6) e
    have h3 : slices_IndexFunc_int_int_l0_step saga_all_1 (fun y1 y2 => k .ret (encSt [.dead, .dead, .dead, .dead, .int .i64, .dead, .dead, .dead, .dead, .dead, .dead, .dead, .dead, .dead, .dead, .dead, .dead, .dead, .dead] [] [.box [.sl (.int .i64 (.nil))]] [.i y1, .q (.int .i64 (.nil)) y2])) (fun y1 => k (.exit 0) (encSt [.dead, .dead, .dead, .dead, .dead, .dead, .dead, .dead, .dead, .dead, .dead, .dead, .dead, .dead, .dead, .dead, .dead, .dead, .dead] [] [.box [.sl (.int .i64 (.nil))]] [.q (.int .i64 (.nil)) y1])) (fun (s3 : Seq (Int × Unit)) (x4 : Int) (x5 : Int) (x6 : Seq (Int × Unit)) => slices_IndexFunc_int_int_l0_run saga_all_1 (fun y1 y2 => k .ret (encSt [.dead, .dead, .dead, .dead, .int .i64, .dead, .dead, .dead, .dead, .dead, .dead, .dead, .dead, .dead, .dead, .dead, .dead, .dead, .dead] [] [.box [.sl (.int .i64 (.nil))]] [.i y1, .q (.int .i64 (.nil)) y2])) (fun y1 => k (.exit 0) (encSt [.dead, .dead, .dead, .dead, .dead, .dead, .dead, .dead, .dead, .dead, .dead, .dead, .dead, .dead, .dead, .dead, .dead, .dead, .dead] [] [.box [.sl (.int .i64 (.nil))]] [.q (.int .i64 (.nil)) y1])) n s3 x4 x5 x6) s3 x4 x5 x6 = slices_IndexFunc_int_int_l0_run saga_all_1 (fun y1 y2 => k .ret (encSt [.dead, .dead, .dead, .dead, .int .i64, .dead, .dead, .dead, .dead, .dead, .dead, .dead, .dead, .dead, .dead, .dead, .dead, .dead, .dead] [] [.box [.sl (.int .i64 (.nil))]] [.i y1, .q (.int .i64 (.nil)) y2])) (fun y1 => k (.exit 0) (encSt [.dead, .dead, .dead, .dead, .dead, .dead, .dead, .dead, .dead, .dead, .dead, .dead, .dead, .dead, .dead, .dead, .dead, .dead, .dead] [] [.box [.sl (.int .i64 (.nil))]] [.q (.int .i64 (.nil)) y1])) (n + 1) s3 x4 x5 x6 := by kernel_rfl
    exact h1.trans (h2.trans h3)

theorem slices_IndexFunc_int_int_l0_ok {α : Type} (saga_all_1 : saga_all_1_T α) : (slices_IndexFunc_int_int_l0_spec saga_all_1 : LoopSpec α).ok Go.Proofs.Tryd.prog (envOf (slices_IndexFunc_int_int_C saga_all_1) slices_IndexFunc_int_int_q slices_IndexFunc_int_int_inl 1000 slices_IndexFunc_int_int_ann false (slices_IndexFunc_int_int_loops saga_all_1) (fun _ => none)) := by
  intro ds k
  have h1 : slices_IndexFunc_int_int_l0_ev saga_all_1 1000 (encSt slices_IndexFunc_int_int_l0_t slices_IndexFunc_int_int_l0_s slices_IndexFunc_int_int_l0_h ds) k = slices_IndexFunc_int_int_l0_ev saga_all_1 1000 (encSt slices_IndexFunc_int_int_l0_t slices_IndexFunc_int_int_l0_s slices_IndexFunc_int_int_l0_h [.q (.int .i64 (.nil)) (hdQ (.int .i64 (.nil)) ds), .i (hdI ds.tail), .i (hdI ds.tail.tail), .q (.int .i64 (.nil)) (hdQ (.int .i64 (.nil)) ds.tail.tail.tail)]) k := by kernel_rfl
  have h2 := slices_IndexFunc_int_int_l0_eq saga_all_1 1000 (hdQ (.int .i64 (.nil)) ds) (hdI ds.tail) (hdI ds.tail.tail) (hdQ (.int .i64 (.nil)) ds.tail.tail.tail) k
  exact h1.trans h2

theorem slices_IndexFunc_int_int_ev {α : Type} (saga_all_1 : saga_all_1_T α) : EvOk (α := α) Go.Proofs.Tryd.prog (envOf (slices_IndexFunc_int_int_C saga_all_1) slices_IndexFunc_int_int_q slices_IndexFunc_int_int_inl 1000 slices_IndexFunc_int_int_ann false (slices_IndexFunc_int_int_loops saga_all_1) (fun _ => none)) 6 (slices_IndexFunc_int_int_sp (slices_IndexFunc_int_int_g saga_all_1)) := by intro ds k; kernel_rfl

theorem slices_IndexFunc_int_int_ok {α : Type} : (slices_IndexFunc_int_int_spec : FunSpec α).ok Go.Proofs.Tryd.prog :=
  FunSpec.ok_of (sp := slices_IndexFunc_int_int_spec) (C := slices_IndexFunc_int_int_C saga_all_1) (q := slices_IndexFunc_int_int_q) (inl := slices_IndexFunc_int_int_inl) (N := 1000) (ann := slices_IndexFunc_int_int_ann) (fr := false) (D := 6) (l := (slices_IndexFunc_int_int_loops saga_all_1)) (hk := (fun _ => none)) (okCons saga_all_1_ok okNil) (lokCons (slices_IndexFunc_int_int_l0_ok saga_all_1) lokNil) noHooks (slices_IndexFunc_int_int_ev saga_all_1)

end
end Go.Rv.Tryd

set_option linter.unusedVariables false
set_option maxRecDepth 100000
set_option maxHeartbeats 4000000
namespace Go.Rv.Tryd
open Go Go.Rv Go.RowKit
noncomputable section

-- slices.ContainsFunc[[]int,int]

abbrev slices_ContainsFunc_int_int_T (α : Type) : Type := (Seq (Int × Unit)) → (Seq (Int × Unit)) → (Bool → (Seq (Int × Unit)) → Option α) → Option α

noncomputable def slices_ContainsFunc_int_int_g {α : Type} (slices_IndexFunc_int_int : slices_IndexFunc_int_int_T α) (s1 : Seq (Int × Unit)) (x2 : Seq (Int × Unit)) (k : Bool → (Seq (Int × Unit)) → Option α) : Option α :=
  (slices_IndexFunc_int_int s1 x2 fun r3 x4 =>
    (k (decide (r3 ≥ 0)) x4))

noncomputable def slices_ContainsFunc_int_int {α : Type} : slices_ContainsFunc_int_int_T α := slices_ContainsFunc_int_int_g slices_IndexFunc_int_int

noncomputable def slices_ContainsFunc_int_int_sp {α : Type} (slices_ContainsFunc_int_int : slices_ContainsFunc_int_int_T α) : FunSpec α := ⟨111, [.sl (.int .i64 (.nil)), .func (.func 112) [] [.ref 0 0]], [.box [.sl (.int .i64 (.nil))]], fun ds k => slices_ContainsFunc_int_int (hdQ (.int .i64 (.nil)) ds) (hdQ (.int .i64 (.nil)) ds.tail) (fun r1 r2 => k (enc dep (.bool) [.b r1]).1 (encBs [.box [.sl (.int .i64 (.nil))]] [.q (.int .i64 (.nil)) r2]).1)⟩

noncomputable def slices_ContainsFunc_int_int_spec {α : Type} : FunSpec α := slices_ContainsFunc_int_int_sp slices_ContainsFunc_int_int

noncomputable def slices_ContainsFunc_int_int_C {α : Type} (slices_IndexFunc_int_int : slices_IndexFunc_int_int_T α) : List (FunSpec α) := [slices_IndexFunc_int_int_sp slices_IndexFunc_int_int]

noncomputable def slices_ContainsFunc_int_int_q : FuncId → Bool := fun f => false

noncomputable def slices_ContainsFunc_int_int_inl : FuncId → Bool := fun f => false

noncomputable def slices_ContainsFunc_int_int_ann : FuncId → AnnT := fun f p => ⟨[], [], [], [], 0, [], [], none⟩

noncomputable def slices_ContainsFunc_int_int_loops {α : Type} (slices_IndexFunc_int_int : slices_IndexFunc_int_int_T α) : List (LoopSpec α) := []

theorem slices_ContainsFunc_int_int_ev {α : Type} (slices_IndexFunc_int_int : slices_IndexFunc_int_int_T α) : EvOk (α := α) Go.Proofs.Tryd.prog (envOf (slices_ContainsFunc_int_int_C slices_IndexFunc_int_int) slices_ContainsFunc_int_int_q slices_ContainsFunc_int_int_inl 1000 slices_ContainsFunc_int_int_ann false (slices_ContainsFunc_int_int_loops slices_IndexFunc_int_int) (fun _ => none)) 6 (slices_ContainsFunc_int_int_sp (slices_ContainsFunc_int_int_g slices_IndexFunc_int_int)) := by intro ds k; kernel_rfl

theorem slices_ContainsFunc_int_int_ok {α : Type} : (slices_ContainsFunc_int_int_spec : FunSpec α).ok Go.Proofs.Tryd.prog :=
  FunSpec.ok_of (sp := slices_ContainsFunc_int_int_spec) (C := slices_ContainsFunc_int_int_C slices_IndexFunc_int_int) (q := slices_ContainsFunc_int_int_q) (inl := slices_ContainsFunc_int_int_inl) (N := 1000) (ann := slices_ContainsFunc_int_int_ann) (fr := false) (D := 6) (l := (slices_ContainsFunc_int_int_loops slices_IndexFunc_int_int)) (hk := (fun _ => none)) (okCons slices_IndexFunc_int_int_ok okNil) lokNil noHooks (slices_ContainsFunc_int_int_ev slices_IndexFunc_int_int)

end
end Go.Rv.Tryd

set_option linter.unusedVariables false
set_option maxRecDepth 100000
set_option maxHeartbeats 4000000
namespace Go.Rv.Tryd
open Go Go.Rv Go.RowKit
noncomputable section

-- drayman/saga.all

abbrev saga_all_T (α : Type) : Type := (Seq (Int × Unit)) → (Seq (Int × Unit)) → (Bool → Option α) → Option α

noncomputable def saga_all_g {α : Type} (slices_ContainsFunc_int_int : slices_ContainsFunc_int_int_T α) (l1 : Seq (Int × Unit)) (x2 : Seq (Int × Unit)) (k : Bool → Option α) : Option α :=
  (slices_ContainsFunc_int_int l1 x2 fun r3 x4 =>
    (k (!r3)))

noncomputable def saga_all {α : Type} : saga_all_T α := saga_all_g slices_ContainsFunc_int_int

noncomputable def saga_all_sp {α : Type} (saga_all : saga_all_T α) : FunSpec α := ⟨82, [.sl (.int .i64 (.nil)), .sl (.int .i64 (.nil))], [], fun ds k => saga_all (hdQ (.int .i64 (.nil)) ds) (hdQ (.int .i64 (.nil)) ds.tail) (fun r1 => k (enc dep (.bool) [.b r1]).1 [])⟩

noncomputable def saga_all_spec {α : Type} : FunSpec α := saga_all_sp saga_all

noncomputable def saga_all_C {α : Type} (slices_ContainsFunc_int_int : slices_ContainsFunc_int_int_T α) : List (FunSpec α) := [slices_ContainsFunc_int_int_sp slices_ContainsFunc_int_int]

noncomputable def saga_all_q : FuncId → Bool := fun f => false

noncomputable def saga_all_inl : FuncId → Bool := fun f => false

noncomputable def saga_all_ann : FuncId → AnnT := fun f p => ⟨[], [], [], [], 0, [], [], none⟩

noncomputable def saga_all_loops {α : Type} (slices_ContainsFunc_int_int : slices_ContainsFunc_int_int_T α) : List (LoopSpec α) := []

theorem saga_all_ev {α : Type} (slices_ContainsFunc_int_int : slices_ContainsFunc_int_int_T α) : EvOk (α := α) Go.Proofs.Tryd.prog (envOf (saga_all_C slices_ContainsFunc_int_int) saga_all_q saga_all_inl 1000 saga_all_ann false (saga_all_loops slices_ContainsFunc_int_int) (fun _ => none)) 6 (saga_all_sp (saga_all_g slices_ContainsFunc_int_int)) := by intro ds k; kernel_rfl

theorem saga_all_ok {α : Type} : (saga_all_spec : FunSpec α).ok Go.Proofs.Tryd.prog :=
  FunSpec.ok_of (sp := saga_all_spec) (C := saga_all_C slices_ContainsFunc_int_int) (q := saga_all_q) (inl := saga_all_inl) (N := 1000) (ann := saga_all_ann) (fr := false) (D := 6) (l := (saga_all_loops slices_ContainsFunc_int_int)) (hk := (fun _ => none)) (okCons slices_ContainsFunc_int_int_ok okNil) lokNil noHooks (saga_all_ev slices_ContainsFunc_int_int)

end
end Go.Rv.Tryd

set_option linter.unusedVariables false
set_option maxRecDepth 100000
set_option maxHeartbeats 4000000
namespace Go.Rv.Tryd
open Go Go.Rv Go.RowKit
noncomputable section

-- drayman/saga.moves

abbrev saga_moves_T (α : Type) : Type := (Int × ByteArray × ByteArray × (Seq (ByteArray × Int × Unit)) × Int × Int × Int × Int × Int × Int × (Seq (Int × Unit)) × Unit) → (ByteArray × (Seq Z0) × Unit) → Int → (Seq (Int × Unit)) → (Bool → Option α) → Option α

noncomputable def saga_moves_g {α : Type} (saga_mark : saga_mark_T α) (step_Outside : step_Outside_T α) (saga_all : saga_all_T α) (s1 : Int × ByteArray × ByteArray × (Seq (ByteArray × Int × Unit)) × Int × Int × Int × Int × Int × Int × (Seq (Int × Unit)) × Unit) (d2 : ByteArray × (Seq Z0) × Unit) (x3 : Int) (behind4 : Seq (Int × Unit)) (k : Bool → Option α) : Option α :=
  (saga_mark s1 s1.2.2.2.2.2.2.2.1 fun r5 =>
    (cond (!(r5 != x3))
      (cond ((decide ((0 : Int) ≤ s1.2.2.2.2.2.2.2.1)) && (decide (s1.2.2.2.2.2.2.2.1 < (d2.2.1.n : Int))))
        (step_Outside (d2.2.1.g s1.2.2.2.2.2.2.2.1.toNat) fun r6 =>
          (cond (!(!r6))
            (cond (!(decide (s1.2.2.2.2.2.2.2.2.1 < 0)))
              (cond ((decide ((0 : Int) ≤ s1.2.2.2.2.2.2.2.1)) && (decide (s1.2.2.2.2.2.2.2.1 < (d2.2.1.n : Int))))
                (cond (decide (s1.2.2.2.2.2.2.2.2.1 > (d2.2.1.g s1.2.2.2.2.2.2.2.1.toNat).2.2.1))
                  (k false)
                  (cond ((decide ((0 : Int) ≤ s1.2.2.2.2.2.2.2.1)) && (decide (s1.2.2.2.2.2.2.2.1 ≤ (s1.2.2.2.2.2.2.2.2.2.2.1.n : Int))))
                    (saga_all (⟨s1.2.2.2.2.2.2.2.2.2.2.1.nl, s1.2.2.2.2.2.2.2.1.toNat, s1.2.2.2.2.2.2.2.2.2.2.1.g⟩ : Seq (Int × Unit)) (⟨false, 1, (fun _ => (2, ()))⟩ : Seq (Int × Unit)) fun r7 =>
                      (cond r7
                        (cond ((decide ((0 : Int) ≤ (IntKind.i64.wrap (s1.2.2.2.2.2.2.2.1 + 1)))) && (decide ((IntKind.i64.wrap (s1.2.2.2.2.2.2.2.1 + 1)) ≤ (s1.2.2.2.2.2.2.2.2.2.2.1.n : Int))))
                          (saga_all (⟨s1.2.2.2.2.2.2.2.2.2.2.1.nl, (s1.2.2.2.2.2.2.2.2.2.2.1.n - (IntKind.i64.wrap (s1.2.2.2.2.2.2.2.1 + 1)).toNat), (tShift (IntKind.i64.wrap (s1.2.2.2.2.2.2.2.1 + 1)).toNat s1.2.2.2.2.2.2.2.2.2.2.1.g)⟩ : Seq (Int × Unit)) behind4 fun r8 =>
                            (k r8))
                          none)
                        (k false)))
                    none))
                none)
              (k false))
            (k false)))
        none)
      (k false)))

noncomputable def saga_moves {α : Type} : saga_moves_T α := saga_moves_g saga_mark step_Outside saga_all

noncomputable def saga_moves_sp {α : Type} (saga_moves : saga_moves_T α) : FunSpec α := ⟨78, [.agg [.int .i64, .str, .str, .sl (.str (.int .i64 (.nil))), .int .i64, .int .i64, .int .i64, .int .i64, .int .i64, .int .i64, .sl (.int .i64 (.nil))], .agg [.str, .sl (.int .i64 (.int .i64 (.int .i64 (.int .i64 (.int .i64 (.int .i64 (.nil)))))))], .int .i64, .sl (.int .i64 (.nil))], [], fun ds k => saga_moves (hdI ds, hdS ds.tail, hdS ds.tail.tail, hdQ (.str (.int .i64 (.nil))) ds.tail.tail.tail, hdI ds.tail.tail.tail.tail, hdI ds.tail.tail.tail.tail.tail, hdI ds.tail.tail.tail.tail.tail.tail, hdI ds.tail.tail.tail.tail.tail.tail.tail, hdI ds.tail.tail.tail.tail.tail.tail.tail.tail, hdI ds.tail.tail.tail.tail.tail.tail.tail.tail.tail, hdQ (.int .i64 (.nil)) ds.tail.tail.tail.tail.tail.tail.tail.tail.tail.tail, ()) (hdS ds.tail.tail.tail.tail.tail.tail.tail.tail.tail.tail.tail, hdQ (.int .i64 (.int .i64 (.int .i64 (.int .i64 (.int .i64 (.int .i64 (.nil))))))) ds.tail.tail.tail.tail.tail.tail.tail.tail.tail.tail.tail.tail, ()) (hdI ds.tail.tail.tail.tail.tail.tail.tail.tail.tail.tail.tail.tail.tail) (hdQ (.int .i64 (.nil)) ds.tail.tail.tail.tail.tail.tail.tail.tail.tail.tail.tail.tail.tail.tail) (fun r1 => k (enc dep (.bool) [.b r1]).1 [])⟩

noncomputable def saga_moves_spec {α : Type} : FunSpec α := saga_moves_sp saga_moves

noncomputable def saga_moves_C {α : Type} (saga_mark : saga_mark_T α) (step_Outside : step_Outside_T α) (saga_all : saga_all_T α) : List (FunSpec α) := [saga_mark_sp saga_mark, step_Outside_sp step_Outside, saga_all_sp saga_all]

noncomputable def saga_moves_q : FuncId → Bool := fun f => Nat.beq f 82 || Nat.beq f 86 || Nat.beq f 110

noncomputable def saga_moves_inl : FuncId → Bool := fun f => false

noncomputable def saga_moves_ann : FuncId → AnnT := fun f p => if f = 78 then (if p = [false, false, true] then ⟨[], [], [], [], 2, [], [], none⟩ else ⟨[], [], [], [], 0, [], [], none⟩) else ⟨[], [], [], [], 0, [], [], none⟩

noncomputable def saga_moves_loops {α : Type} (saga_mark : saga_mark_T α) (step_Outside : step_Outside_T α) (saga_all : saga_all_T α) : List (LoopSpec α) := []

theorem saga_moves_ev {α : Type} (saga_mark : saga_mark_T α) (step_Outside : step_Outside_T α) (saga_all : saga_all_T α) : EvOk (α := α) Go.Proofs.Tryd.prog (envOf (saga_moves_C saga_mark step_Outside saga_all) saga_moves_q saga_moves_inl 1000 saga_moves_ann false (saga_moves_loops saga_mark step_Outside saga_all) (fun _ => none)) 6 (saga_moves_sp (saga_moves_g saga_mark step_Outside saga_all)) := by intro ds k; kernel_rfl

theorem saga_moves_ok {α : Type} : (saga_moves_spec : FunSpec α).ok Go.Proofs.Tryd.prog :=
  FunSpec.ok_of (sp := saga_moves_spec) (C := saga_moves_C saga_mark step_Outside saga_all) (q := saga_moves_q) (inl := saga_moves_inl) (N := 1000) (ann := saga_moves_ann) (fr := false) (D := 6) (l := (saga_moves_loops saga_mark step_Outside saga_all)) (hk := (fun _ => none)) (okCons saga_mark_ok (okCons step_Outside_ok (okCons saga_all_ok okNil))) lokNil noHooks (saga_moves_ev saga_mark step_Outside saga_all)

end
end Go.Rv.Tryd

set_option linter.unusedVariables false
set_option maxRecDepth 100000
set_option maxHeartbeats 4000000
namespace Go.Rv.Tryd
open Go Go.Rv Go.RowKit
noncomputable section

-- drayman/saga.Fit$1

abbrev saga_Fit_1_T (α : Type) : Type := (Int × ByteArray × ByteArray × (Seq (ByteArray × Int × Unit)) × Int × Int × Int × Int × Int × Int × (Seq (Int × Unit)) × Unit) → (ByteArray × (Seq Z0) × Unit) → (Bool → (Int × ByteArray × ByteArray × (Seq (ByteArray × Int × Unit)) × Int × Int × Int × Int × Int × Int × (Seq (Int × Unit)) × Unit) → (ByteArray × (Seq Z0) × Unit) → Option α) → Option α

noncomputable def saga_Fit_1_g {α : Type} (saga_moves : saga_moves_T α) (x1 : Int × ByteArray × ByteArray × (Seq (ByteArray × Int × Unit)) × Int × Int × Int × Int × Int × Int × (Seq (Int × Unit)) × Unit) (x2 : ByteArray × (Seq Z0) × Unit) (k : Bool → (Int × ByteArray × ByteArray × (Seq (ByteArray × Int × Unit)) × Int × Int × Int × Int × Int × Int × (Seq (Int × Unit)) × Unit) → (ByteArray × (Seq Z0) × Unit) → Option α) : Option α :=
  (cond (x1.2.2.2.2.2.2.2.2.2.1 == 0)
    (saga_moves x1 x2 1 (⟨false, 1, (fun _ => (0, ()))⟩ : Seq (Int × Unit)) fun r3 =>
      (k r3 x1 x2))
    (k false x1 x2))

noncomputable def saga_Fit_1 {α : Type} : saga_Fit_1_T α := saga_Fit_1_g saga_moves

noncomputable def saga_Fit_1_sp {α : Type} (saga_Fit_1 : saga_Fit_1_T α) : FunSpec α := ⟨77, [.ref 0 0, .ref 1 0], [.box [.int .i64, .str, .str, .sl (.str (.int .i64 (.nil))), .int .i64, .int .i64, .int .i64, .int .i64, .int .i64, .int .i64, .sl (.int .i64 (.nil))], .box [.str, .sl (.int .i64 (.int .i64 (.int .i64 (.int .i64 (.int .i64 (.int .i64 (.nil)))))))]], fun ds k => saga_Fit_1 (hdI ds, hdS ds.tail, hdS ds.tail.tail, hdQ (.str (.int .i64 (.nil))) ds.tail.tail.tail, hdI ds.tail.tail.tail.tail, hdI ds.tail.tail.tail.tail.tail, hdI ds.tail.tail.tail.tail.tail.tail, hdI ds.tail.tail.tail.tail.tail.tail.tail, hdI ds.tail.tail.tail.tail.tail.tail.tail.tail, hdI ds.tail.tail.tail.tail.tail.tail.tail.tail.tail, hdQ (.int .i64 (.nil)) ds.tail.tail.tail.tail.tail.tail.tail.tail.tail.tail, ()) (hdS ds.tail.tail.tail.tail.tail.tail.tail.tail.tail.tail.tail, hdQ (.int .i64 (.int .i64 (.int .i64 (.int .i64 (.int .i64 (.int .i64 (.nil))))))) ds.tail.tail.tail.tail.tail.tail.tail.tail.tail.tail.tail.tail, ()) (fun r1 r2 r3 => k (enc dep (.bool) [.b r1]).1 (encBs [.box [.int .i64, .str, .str, .sl (.str (.int .i64 (.nil))), .int .i64, .int .i64, .int .i64, .int .i64, .int .i64, .int .i64, .sl (.int .i64 (.nil))], .box [.str, .sl (.int .i64 (.int .i64 (.int .i64 (.int .i64 (.int .i64 (.int .i64 (.nil)))))))]] [.i r2.1, .s r2.2.1, .s r2.2.2.1, .q (.str (.int .i64 (.nil))) r2.2.2.2.1, .i r2.2.2.2.2.1, .i r2.2.2.2.2.2.1, .i r2.2.2.2.2.2.2.1, .i r2.2.2.2.2.2.2.2.1, .i r2.2.2.2.2.2.2.2.2.1, .i r2.2.2.2.2.2.2.2.2.2.1, .q (.int .i64 (.nil)) r2.2.2.2.2.2.2.2.2.2.2.1, .s r3.1, .q (.int .i64 (.int .i64 (.int .i64 (.int .i64 (.int .i64 (.int .i64 (.nil))))))) r3.2.1]).1)⟩

noncomputable def saga_Fit_1_spec {α : Type} : FunSpec α := saga_Fit_1_sp saga_Fit_1

noncomputable def saga_Fit_1_C {α : Type} (saga_moves : saga_moves_T α) : List (FunSpec α) := [saga_moves_sp saga_moves]

noncomputable def saga_Fit_1_q : FuncId → Bool := fun f => Nat.beq f 78

noncomputable def saga_Fit_1_inl : FuncId → Bool := fun f => false

noncomputable def saga_Fit_1_ann : FuncId → AnnT := fun f p => ⟨[], [], [], [], 0, [], [], none⟩

noncomputable def saga_Fit_1_loops {α : Type} (saga_moves : saga_moves_T α) : List (LoopSpec α) := []

theorem saga_Fit_1_ev {α : Type} (saga_moves : saga_moves_T α) : EvOk (α := α) Go.Proofs.Tryd.prog (envOf (saga_Fit_1_C saga_moves) saga_Fit_1_q saga_Fit_1_inl 1000 saga_Fit_1_ann false (saga_Fit_1_loops saga_moves) (fun _ => none)) 6 (saga_Fit_1_sp (saga_Fit_1_g saga_moves)) := by intro ds k; kernel_rfl

theorem saga_Fit_1_ok {α : Type} : (saga_Fit_1_spec : FunSpec α).ok Go.Proofs.Tryd.prog :=
  FunSpec.ok_of (sp := saga_Fit_1_spec) (C := saga_Fit_1_C saga_moves) (q := saga_Fit_1_q) (inl := saga_Fit_1_inl) (N := 1000) (ann := saga_Fit_1_ann) (fr := false) (D := 6) (l := (saga_Fit_1_loops saga_moves)) (hk := (fun _ => none)) (okCons saga_moves_ok okNil) lokNil noHooks (saga_Fit_1_ev saga_moves)

end
end Go.Rv.Tryd

set_option linter.unusedVariables false
set_option maxRecDepth 100000
set_option maxHeartbeats 4000000
namespace Go.Rv.Tryd
open Go Go.Rv Go.RowKit
noncomputable section

-- drayman/saga.why

abbrev saga_why_T (α : Type) : Type := (Int × ByteArray × ByteArray × (Seq (ByteArray × Int × Unit)) × Int × Int × Int × Int × Int × Int × (Seq (Int × Unit)) × Unit) → (Bool → Option α) → Option α

noncomputable def saga_why {α : Type} (s1 : Int × ByteArray × ByteArray × (Seq (ByteArray × Int × Unit)) × Int × Int × Int × Int × Int × Int × (Seq (Int × Unit)) × Unit) (k : Bool → Option α) : Option α :=
  (cond (decide ((1 : Int) ≤ s1.2.2.2.2.2.2.2.2.2.1))
    (k (decide (s1.2.2.2.2.2.2.2.2.2.1 ≤ 6)))
    (k false))

noncomputable def saga_why_sp {α : Type} (saga_why : saga_why_T α) : FunSpec α := ⟨80, [.agg [.int .i64, .str, .str, .sl (.str (.int .i64 (.nil))), .int .i64, .int .i64, .int .i64, .int .i64, .int .i64, .int .i64, .sl (.int .i64 (.nil))]], [], fun ds k => saga_why (hdI ds, hdS ds.tail, hdS ds.tail.tail, hdQ (.str (.int .i64 (.nil))) ds.tail.tail.tail, hdI ds.tail.tail.tail.tail, hdI ds.tail.tail.tail.tail.tail, hdI ds.tail.tail.tail.tail.tail.tail, hdI ds.tail.tail.tail.tail.tail.tail.tail, hdI ds.tail.tail.tail.tail.tail.tail.tail.tail, hdI ds.tail.tail.tail.tail.tail.tail.tail.tail.tail, hdQ (.int .i64 (.nil)) ds.tail.tail.tail.tail.tail.tail.tail.tail.tail.tail, ()) (fun r1 => k (enc dep (.bool) [.b r1]).1 [])⟩

noncomputable def saga_why_spec {α : Type} : FunSpec α := saga_why_sp saga_why

noncomputable def saga_why_C {α : Type} : List (FunSpec α) := []

noncomputable def saga_why_q : FuncId → Bool := fun f => false

noncomputable def saga_why_inl : FuncId → Bool := fun f => false

noncomputable def saga_why_ann : FuncId → AnnT := fun f p => ⟨[], [], [], [], 0, [], [], none⟩

noncomputable def saga_why_loops {α : Type} : List (LoopSpec α) := []

theorem saga_why_ev {α : Type} : EvOk (α := α) Go.Proofs.Tryd.prog (envOf (saga_why_C) saga_why_q saga_why_inl 1000 saga_why_ann false (saga_why_loops) (fun _ => none)) 6 (saga_why_sp (saga_why)) := by intro ds k; kernel_rfl

theorem saga_why_ok {α : Type} : (saga_why_spec : FunSpec α).ok Go.Proofs.Tryd.prog :=
  FunSpec.ok_of (sp := saga_why_spec) (C := saga_why_C) (q := saga_why_q) (inl := saga_why_inl) (N := 1000) (ann := saga_why_ann) (fr := false) (D := 6) (l := (saga_why_loops)) (hk := (fun _ => none)) okNil lokNil noHooks (saga_why_ev)

end
end Go.Rv.Tryd

set_option linter.unusedVariables false
set_option maxRecDepth 100000
set_option maxHeartbeats 4000000
namespace Go.Rv.Tryd
open Go Go.Rv Go.RowKit
noncomputable section

-- drayman/saga.Bound

abbrev saga_Bound_T (α : Type) : Type := (Int × ByteArray × ByteArray × (Seq (ByteArray × Int × Unit)) × Int × Int × Int × Int × Int × Int × (Seq (Int × Unit)) × Unit) → (ByteArray × (Seq Z0) × Unit) → (Bool → Option α) → Option α

noncomputable def saga_Bound_g {α : Type} (def_Pivot : def_Pivot_T α) (saga_mark : saga_mark_T α) (s1 : Int × ByteArray × ByteArray × (Seq (ByteArray × Int × Unit)) × Int × Int × Int × Int × Int × Int × (Seq (Int × Unit)) × Unit) (d2 : ByteArray × (Seq Z0) × Unit) (k : Bool → Option α) : Option α :=
  (def_Pivot d2 fun r3 =>
    (saga_mark s1 r3 fun r4 =>
      (k (r4 == 2))))

noncomputable def saga_Bound {α : Type} : saga_Bound_T α := saga_Bound_g def_Pivot saga_mark

noncomputable def saga_Bound_sp {α : Type} (saga_Bound : saga_Bound_T α) : FunSpec α := ⟨48, [.agg [.int .i64, .str, .str, .sl (.str (.int .i64 (.nil))), .int .i64, .int .i64, .int .i64, .int .i64, .int .i64, .int .i64, .sl (.int .i64 (.nil))], .agg [.str, .sl (.int .i64 (.int .i64 (.int .i64 (.int .i64 (.int .i64 (.int .i64 (.nil)))))))]], [], fun ds k => saga_Bound (hdI ds, hdS ds.tail, hdS ds.tail.tail, hdQ (.str (.int .i64 (.nil))) ds.tail.tail.tail, hdI ds.tail.tail.tail.tail, hdI ds.tail.tail.tail.tail.tail, hdI ds.tail.tail.tail.tail.tail.tail, hdI ds.tail.tail.tail.tail.tail.tail.tail, hdI ds.tail.tail.tail.tail.tail.tail.tail.tail, hdI ds.tail.tail.tail.tail.tail.tail.tail.tail.tail, hdQ (.int .i64 (.nil)) ds.tail.tail.tail.tail.tail.tail.tail.tail.tail.tail, ()) (hdS ds.tail.tail.tail.tail.tail.tail.tail.tail.tail.tail.tail, hdQ (.int .i64 (.int .i64 (.int .i64 (.int .i64 (.int .i64 (.int .i64 (.nil))))))) ds.tail.tail.tail.tail.tail.tail.tail.tail.tail.tail.tail.tail, ()) (fun r1 => k (enc dep (.bool) [.b r1]).1 [])⟩

noncomputable def saga_Bound_spec {α : Type} : FunSpec α := saga_Bound_sp saga_Bound

noncomputable def saga_Bound_C {α : Type} (def_Pivot : def_Pivot_T α) (saga_mark : saga_mark_T α) : List (FunSpec α) := [def_Pivot_sp def_Pivot, saga_mark_sp saga_mark]

noncomputable def saga_Bound_q : FuncId → Bool := fun f => Nat.beq f 86 || Nat.beq f 87

noncomputable def saga_Bound_inl : FuncId → Bool := fun f => false

noncomputable def saga_Bound_ann : FuncId → AnnT := fun f p => if f = 48 then (if p = [false, true] then ⟨[], [], [], [], 2, [], [], none⟩ else ⟨[], [], [], [], 0, [], [], none⟩) else ⟨[], [], [], [], 0, [], [], none⟩

noncomputable def saga_Bound_loops {α : Type} (def_Pivot : def_Pivot_T α) (saga_mark : saga_mark_T α) : List (LoopSpec α) := []

theorem saga_Bound_ev {α : Type} (def_Pivot : def_Pivot_T α) (saga_mark : saga_mark_T α) : EvOk (α := α) Go.Proofs.Tryd.prog (envOf (saga_Bound_C def_Pivot saga_mark) saga_Bound_q saga_Bound_inl 1000 saga_Bound_ann false (saga_Bound_loops def_Pivot saga_mark) (fun _ => none)) 6 (saga_Bound_sp (saga_Bound_g def_Pivot saga_mark)) := by intro ds k; kernel_rfl

theorem saga_Bound_ok {α : Type} : (saga_Bound_spec : FunSpec α).ok Go.Proofs.Tryd.prog :=
  FunSpec.ok_of (sp := saga_Bound_spec) (C := saga_Bound_C def_Pivot saga_mark) (q := saga_Bound_q) (inl := saga_Bound_inl) (N := 1000) (ann := saga_Bound_ann) (fr := false) (D := 6) (l := (saga_Bound_loops def_Pivot saga_mark)) (hk := (fun _ => none)) (okCons def_Pivot_ok (okCons saga_mark_ok okNil)) lokNil noHooks (saga_Bound_ev def_Pivot saga_mark)

end
end Go.Rv.Tryd

set_option linter.unusedVariables false
set_option maxRecDepth 100000
set_option maxHeartbeats 4000000
namespace Go.Rv.Tryd
open Go Go.Rv Go.RowKit
noncomputable section

-- drayman/saga.gone

abbrev saga_gone_T (α : Type) : Type := ((Seq (Int × Unit)) → Option α) → Option α

noncomputable def saga_gone {α : Type} (k : (Seq (Int × Unit)) → Option α) : Option α :=
  (k (⟨false, 3, (tSel [(0, ()), (4, ()), (5, ())] (0, ()))⟩ : Seq (Int × Unit)))

noncomputable def saga_gone_sp {α : Type} (saga_gone : saga_gone_T α) : FunSpec α := ⟨81, [], [], fun ds k => saga_gone  (fun q1 => k (enc dep (.own 0) []).1 (encBs [.row true (.int .i64 (.nil))] [.q (.int .i64 (.nil)) q1]).1)⟩

noncomputable def saga_gone_spec {α : Type} : FunSpec α := saga_gone_sp saga_gone

noncomputable def saga_gone_C {α : Type} : List (FunSpec α) := []

noncomputable def saga_gone_q : FuncId → Bool := fun f => false

noncomputable def saga_gone_inl : FuncId → Bool := fun f => false

noncomputable def saga_gone_ann : FuncId → AnnT := fun f p => ⟨[], [], [], [], 0, [], [], none⟩

noncomputable def saga_gone_loops {α : Type} : List (LoopSpec α) := []

theorem saga_gone_ev {α : Type} : EvOk (α := α) Go.Proofs.Tryd.prog (envOf (saga_gone_C) saga_gone_q saga_gone_inl 1000 saga_gone_ann false (saga_gone_loops) (fun _ => none)) 6 (saga_gone_sp (saga_gone)) := by intro ds k; kernel_rfl

theorem saga_gone_ok {α : Type} : (saga_gone_spec : FunSpec α).ok Go.Proofs.Tryd.prog :=
  FunSpec.ok_of (sp := saga_gone_spec) (C := saga_gone_C) (q := saga_gone_q) (inl := saga_gone_inl) (N := 1000) (ann := saga_gone_ann) (fr := false) (D := 6) (l := (saga_gone_loops)) (hk := (fun _ => none)) okNil lokNil noHooks (saga_gone_ev)

end
end Go.Rv.Tryd

set_option linter.unusedVariables false
set_option maxRecDepth 100000
set_option maxHeartbeats 4000000
namespace Go.Rv.Tryd
open Go Go.Rv Go.RowKit
noncomputable section

-- drayman/saga.Fit$2

abbrev saga_Fit_2_T (α : Type) : Type := (Int × ByteArray × ByteArray × (Seq (ByteArray × Int × Unit)) × Int × Int × Int × Int × Int × Int × (Seq (Int × Unit)) × Unit) → (ByteArray × (Seq Z0) × Unit) → (Bool → (Int × ByteArray × ByteArray × (Seq (ByteArray × Int × Unit)) × Int × Int × Int × Int × Int × Int × (Seq (Int × Unit)) × Unit) → (ByteArray × (Seq Z0) × Unit) → Option α) → Option α

noncomputable def saga_Fit_2_g {α : Type} (saga_why : saga_why_T α) (saga_Bound : saga_Bound_T α) (saga_gone : saga_gone_T α) (saga_moves : saga_moves_T α) (x1 : Int × ByteArray × ByteArray × (Seq (ByteArray × Int × Unit)) × Int × Int × Int × Int × Int × Int × (Seq (Int × Unit)) × Unit) (x2 : ByteArray × (Seq Z0) × Unit) (k : Bool → (Int × ByteArray × ByteArray × (Seq (ByteArray × Int × Unit)) × Int × Int × Int × Int × Int × Int × (Seq (Int × Unit)) × Unit) → (ByteArray × (Seq Z0) × Unit) → Option α) : Option α :=
  (saga_why x1 fun r3 =>
    (cond r3
      (saga_Bound x1 x2 fun r4 =>
        (cond (!r4)
          (saga_gone fun r5 =>
            (saga_moves x1 x2 3 r5 fun r6 =>
              (k r6 x1 x2)))
          (k false x1 x2)))
      (k false x1 x2)))

noncomputable def saga_Fit_2 {α : Type} : saga_Fit_2_T α := saga_Fit_2_g saga_why saga_Bound saga_gone saga_moves

noncomputable def saga_Fit_2_sp {α : Type} (saga_Fit_2 : saga_Fit_2_T α) : FunSpec α := ⟨79, [.ref 0 0, .ref 1 0], [.box [.int .i64, .str, .str, .sl (.str (.int .i64 (.nil))), .int .i64, .int .i64, .int .i64, .int .i64, .int .i64, .int .i64, .sl (.int .i64 (.nil))], .box [.str, .sl (.int .i64 (.int .i64 (.int .i64 (.int .i64 (.int .i64 (.int .i64 (.nil)))))))]], fun ds k => saga_Fit_2 (hdI ds, hdS ds.tail, hdS ds.tail.tail, hdQ (.str (.int .i64 (.nil))) ds.tail.tail.tail, hdI ds.tail.tail.tail.tail, hdI ds.tail.tail.tail.tail.tail, hdI ds.tail.tail.tail.tail.tail.tail, hdI ds.tail.tail.tail.tail.tail.tail.tail, hdI ds.tail.tail.tail.tail.tail.tail.tail.tail, hdI ds.tail.tail.tail.tail.tail.tail.tail.tail.tail, hdQ (.int .i64 (.nil)) ds.tail.tail.tail.tail.tail.tail.tail.tail.tail.tail, ()) (hdS ds.tail.tail.tail.tail.tail.tail.tail.tail.tail.tail.tail, hdQ (.int .i64 (.int .i64 (.int .i64 (.int .i64 (.int .i64 (.int .i64 (.nil))))))) ds.tail.tail.tail.tail.tail.tail.tail.tail.tail.tail.tail.tail, ()) (fun r1 r2 r3 => k (enc dep (.bool) [.b r1]).1 (encBs [.box [.int .i64, .str, .str, .sl (.str (.int .i64 (.nil))), .int .i64, .int .i64, .int .i64, .int .i64, .int .i64, .int .i64, .sl (.int .i64 (.nil))], .box [.str, .sl (.int .i64 (.int .i64 (.int .i64 (.int .i64 (.int .i64 (.int .i64 (.nil)))))))]] [.i r2.1, .s r2.2.1, .s r2.2.2.1, .q (.str (.int .i64 (.nil))) r2.2.2.2.1, .i r2.2.2.2.2.1, .i r2.2.2.2.2.2.1, .i r2.2.2.2.2.2.2.1, .i r2.2.2.2.2.2.2.2.1, .i r2.2.2.2.2.2.2.2.2.1, .i r2.2.2.2.2.2.2.2.2.2.1, .q (.int .i64 (.nil)) r2.2.2.2.2.2.2.2.2.2.2.1, .s r3.1, .q (.int .i64 (.int .i64 (.int .i64 (.int .i64 (.int .i64 (.int .i64 (.nil))))))) r3.2.1]).1)⟩

noncomputable def saga_Fit_2_spec {α : Type} : FunSpec α := saga_Fit_2_sp saga_Fit_2

noncomputable def saga_Fit_2_C {α : Type} (saga_why : saga_why_T α) (saga_Bound : saga_Bound_T α) (saga_gone : saga_gone_T α) (saga_moves : saga_moves_T α) : List (FunSpec α) := [saga_why_sp saga_why, saga_Bound_sp saga_Bound, saga_gone_sp saga_gone, saga_moves_sp saga_moves]

noncomputable def saga_Fit_2_q : FuncId → Bool := fun f => Nat.beq f 48 || Nat.beq f 78 || Nat.beq f 80

noncomputable def saga_Fit_2_inl : FuncId → Bool := fun f => false

noncomputable def saga_Fit_2_ann : FuncId → AnnT := fun f p => if f = 79 then (if p = [false, true] then ⟨[], [], [], [], 2, [], [], none⟩ else ⟨[], [], [], [], 0, [], [], none⟩) else ⟨[], [], [], [], 0, [], [], none⟩

noncomputable def saga_Fit_2_loops {α : Type} (saga_why : saga_why_T α) (saga_Bound : saga_Bound_T α) (saga_gone : saga_gone_T α) (saga_moves : saga_moves_T α) : List (LoopSpec α) := []

theorem saga_Fit_2_ev {α : Type} (saga_why : saga_why_T α) (saga_Bound : saga_Bound_T α) (saga_gone : saga_gone_T α) (saga_moves : saga_moves_T α) : EvOk (α := α) Go.Proofs.Tryd.prog (envOf (saga_Fit_2_C saga_why saga_Bound saga_gone saga_moves) saga_Fit_2_q saga_Fit_2_inl 1000 saga_Fit_2_ann false (saga_Fit_2_loops saga_why saga_Bound saga_gone saga_moves) (fun _ => none)) 6 (saga_Fit_2_sp (saga_Fit_2_g saga_why saga_Bound saga_gone saga_moves)) := by intro ds k; kernel_rfl

theorem saga_Fit_2_ok {α : Type} : (saga_Fit_2_spec : FunSpec α).ok Go.Proofs.Tryd.prog :=
  FunSpec.ok_of (sp := saga_Fit_2_spec) (C := saga_Fit_2_C saga_why saga_Bound saga_gone saga_moves) (q := saga_Fit_2_q) (inl := saga_Fit_2_inl) (N := 1000) (ann := saga_Fit_2_ann) (fr := false) (D := 6) (l := (saga_Fit_2_loops saga_why saga_Bound saga_gone saga_moves)) (hk := (fun _ => none)) (okCons saga_why_ok (okCons saga_Bound_ok (okCons saga_gone_ok (okCons saga_moves_ok okNil)))) lokNil noHooks (saga_Fit_2_ev saga_why saga_Bound saga_gone saga_moves)

end
end Go.Rv.Tryd

set_option linter.unusedVariables false
set_option maxRecDepth 100000
set_option maxHeartbeats 4000000
namespace Go.Rv.Tryd
open Go Go.Rv Go.RowKit
noncomputable section

-- drayman/saga.Fit

abbrev saga_Fit_T (α : Type) : Type := (Int × ByteArray × ByteArray × (Seq (ByteArray × Int × Unit)) × Int × Int × Int × Int × Int × Int × (Seq (Int × Unit)) × Unit) → (ByteArray × (Seq Z0) × Unit) → (Bool → Option α) → Option α

noncomputable def saga_Fit_g {α : Type} (name_Fit : name_Fit_T α) (lines_Fit : lines_Fit_T α) (num_Fit : num_Fit_T α) (def_Fit : def_Fit_T α) (def_Place : def_Place_T α) (saga_Fit_1 : saga_Fit_1_T α) (saga_Fit_2 : saga_Fit_2_T α) (saga_all : saga_all_T α) (saga_why : saga_why_T α) (saga_gone : saga_gone_T α) (x1 : Int × ByteArray × ByteArray × (Seq (ByteArray × Int × Unit)) × Int × Int × Int × Int × Int × Int × (Seq (Int × Unit)) × Unit) (x2 : ByteArray × (Seq Z0) × Unit) (k : Bool → Option α) : Option α :=
  (cond (!(decide (x1.1 < 1)))
    (cond (!(decide (x1.1 > 1099511627776)))
      (name_Fit x1.2.1 fun r3 =>
        (cond (!(!r3))
          (cond (!(!(x1.2.2.1.toList == x2.1.toList)))
            (lines_Fit x1.2.2.2.1 fun r4 =>
              (cond (!(!r4))
                (num_Fit x1.2.2.2.2.1 fun r5 =>
                  (cond (!r5)
                    (k false)
                    (def_Fit x2 fun r6 =>
                      (cond (!(!r6))
                        (cond (!((x1.2.2.2.2.2.2.2.2.2.2.1.n : Int) != (x2.2.1.n : Int)))
                          (cond ((x1.2.2.2.1.n : Int) == 0)
                            (def_Place x2 1 fun r7 =>
                              (cond (decide (r7 ≥ 0))
                                (k false)
                                (cond (x1.2.2.2.2.2.1 == 3)
                                  (cond (x1.2.2.2.2.2.2.1 == 1)
                                    (saga_Fit_1 x1 x2 fun r8 r9 r10 =>
                                      (cond (!r8)
                                        (cond (r9.2.2.2.2.2.2.1 == 2)
                                          (saga_Fit_2 r9 r10 fun r11 r12 r13 =>
                                            (k r11))
                                          (k false))
                                        (k true)))
                                    (cond (x1.2.2.2.2.2.2.1 == 2)
                                      (saga_Fit_2 x1 x2 fun r14 r15 r16 =>
                                        (k r14))
                                      (k false)))
                                  (cond (x1.2.2.2.2.2.2.1 != 0)
                                    (k false)
                                    (cond (x1.2.2.2.2.2.1 == 1)
                                      (saga_Fit_1 x1 x2 fun r17 r18 r19 =>
                                        (k r17))
                                      (cond (x1.2.2.2.2.2.1 == 2)
                                        (saga_Fit_2 x1 x2 fun r20 r21 r22 =>
                                          (k r20))
                                        (cond (x1.2.2.2.2.2.1 == 4)
                                          (cond (x1.2.2.2.2.2.2.2.2.1 == 0)
                                            (cond (x1.2.2.2.2.2.2.2.2.2.1 == 0)
                                              (cond (x1.2.2.2.2.2.2.2.1 == (x2.2.1.n : Int))
                                                (saga_all x1.2.2.2.2.2.2.2.2.2.2.1 (⟨false, 1, (fun _ => (2, ()))⟩ : Seq (Int × Unit)) fun r23 =>
                                                  (k r23))
                                                (k false))
                                              (k false))
                                            (k false))
                                          (cond (x1.2.2.2.2.2.1 == 5)
                                            (cond (x1.2.2.2.2.2.2.2.2.1 == 0)
                                              (saga_why x1 fun r24 =>
                                                (cond r24
                                                  (cond (x1.2.2.2.2.2.2.2.1 == 0)
                                                    (saga_gone fun r25 =>
                                                      (saga_all x1.2.2.2.2.2.2.2.2.2.2.1 r25 fun r26 =>
                                                        (k r26)))
                                                    (k false))
                                                  (k false)))
                                              (k false))
                                            (k false)))))))))
                            (cond (x1.2.2.2.2.2.1 == 3)
                              (cond (x1.2.2.2.2.2.2.1 == 1)
                                (saga_Fit_1 x1 x2 fun r27 r28 r29 =>
                                  (cond (!r27)
                                    (cond (r28.2.2.2.2.2.2.1 == 2)
                                      (saga_Fit_2 r28 r29 fun r30 r31 r32 =>
                                        (k r30))
                                      (k false))
                                    (k true)))
                                (cond (x1.2.2.2.2.2.2.1 == 2)
                                  (saga_Fit_2 x1 x2 fun r33 r34 r35 =>
                                    (k r33))
                                  (k false)))
                              (cond (x1.2.2.2.2.2.2.1 != 0)
                                (k false)
                                (cond (x1.2.2.2.2.2.1 == 1)
                                  (saga_Fit_1 x1 x2 fun r36 r37 r38 =>
                                    (k r36))
                                  (cond (x1.2.2.2.2.2.1 == 2)
                                    (saga_Fit_2 x1 x2 fun r39 r40 r41 =>
                                      (k r39))
                                    (cond (x1.2.2.2.2.2.1 == 4)
                                      (cond (x1.2.2.2.2.2.2.2.2.1 == 0)
                                        (cond (x1.2.2.2.2.2.2.2.2.2.1 == 0)
                                          (cond (x1.2.2.2.2.2.2.2.1 == (x2.2.1.n : Int))
                                            (saga_all x1.2.2.2.2.2.2.2.2.2.2.1 (⟨false, 1, (fun _ => (2, ()))⟩ : Seq (Int × Unit)) fun r42 =>
                                              (k r42))
                                            (k false))
                                          (k false))
                                        (k false))
                                      (cond (x1.2.2.2.2.2.1 == 5)
                                        (cond (x1.2.2.2.2.2.2.2.2.1 == 0)
                                          (saga_why x1 fun r43 =>
                                            (cond r43
                                              (cond (x1.2.2.2.2.2.2.2.1 == 0)
                                                (saga_gone fun r44 =>
                                                  (saga_all x1.2.2.2.2.2.2.2.2.2.2.1 r44 fun r45 =>
                                                    (k r45)))
                                                (k false))
                                              (k false)))
                                          (k false))
                                        (k false))))))))
                          (k false))
                        (k false)))))
                (k false)))
            (k false))
          (k false)))
      (k false))
    (k false))

noncomputable def saga_Fit {α : Type} : saga_Fit_T α := saga_Fit_g name_Fit lines_Fit num_Fit def_Fit def_Place saga_Fit_1 saga_Fit_2 saga_all saga_why saga_gone

noncomputable def saga_Fit_sp {α : Type} (saga_Fit : saga_Fit_T α) : FunSpec α := ⟨43, [.agg [.int .i64, .str, .str, .sl (.str (.int .i64 (.nil))), .int .i64, .int .i64, .int .i64, .int .i64, .int .i64, .int .i64, .sl (.int .i64 (.nil))], .agg [.str, .sl (.int .i64 (.int .i64 (.int .i64 (.int .i64 (.int .i64 (.int .i64 (.nil)))))))]], [], fun ds k => saga_Fit (hdI ds, hdS ds.tail, hdS ds.tail.tail, hdQ (.str (.int .i64 (.nil))) ds.tail.tail.tail, hdI ds.tail.tail.tail.tail, hdI ds.tail.tail.tail.tail.tail, hdI ds.tail.tail.tail.tail.tail.tail, hdI ds.tail.tail.tail.tail.tail.tail.tail, hdI ds.tail.tail.tail.tail.tail.tail.tail.tail, hdI ds.tail.tail.tail.tail.tail.tail.tail.tail.tail, hdQ (.int .i64 (.nil)) ds.tail.tail.tail.tail.tail.tail.tail.tail.tail.tail, ()) (hdS ds.tail.tail.tail.tail.tail.tail.tail.tail.tail.tail.tail, hdQ (.int .i64 (.int .i64 (.int .i64 (.int .i64 (.int .i64 (.int .i64 (.nil))))))) ds.tail.tail.tail.tail.tail.tail.tail.tail.tail.tail.tail.tail, ()) (fun r1 => k (enc dep (.bool) [.b r1]).1 [])⟩

noncomputable def saga_Fit_spec {α : Type} : FunSpec α := saga_Fit_sp saga_Fit

noncomputable def saga_Fit_C {α : Type} (name_Fit : name_Fit_T α) (lines_Fit : lines_Fit_T α) (num_Fit : num_Fit_T α) (def_Fit : def_Fit_T α) (def_Place : def_Place_T α) (saga_Fit_1 : saga_Fit_1_T α) (saga_Fit_2 : saga_Fit_2_T α) (saga_all : saga_all_T α) (saga_why : saga_why_T α) (saga_gone : saga_gone_T α) : List (FunSpec α) := [name_Fit_sp name_Fit, lines_Fit_sp lines_Fit, num_Fit_sp num_Fit, def_Fit_sp def_Fit, def_Place_sp def_Place, saga_Fit_1_sp saga_Fit_1, saga_Fit_2_sp saga_Fit_2, saga_all_sp saga_all, saga_why_sp saga_why, saga_gone_sp saga_gone]

noncomputable def saga_Fit_q : FuncId → Bool := fun f => Nat.beq f 52 || Nat.beq f 73 || Nat.beq f 74 || Nat.beq f 75 || Nat.beq f 76 || Nat.beq f 80 || Nat.beq f 82

noncomputable def saga_Fit_inl : FuncId → Bool := fun f => false

noncomputable def saga_Fit_ann : FuncId → AnnT := fun f p => if f = 43 then (if p = [false, false, true, true, true, true, true, true, true, true, false, true, true, true, true, true, true, true, true] then ⟨[], [], [], [], 2, [], [], none⟩ else ⟨[], [], [], [], 0, [], [], none⟩) else ⟨[], [], [], [], 0, [], [], none⟩

noncomputable def saga_Fit_loops {α : Type} (name_Fit : name_Fit_T α) (lines_Fit : lines_Fit_T α) (num_Fit : num_Fit_T α) (def_Fit : def_Fit_T α) (def_Place : def_Place_T α) (saga_Fit_1 : saga_Fit_1_T α) (saga_Fit_2 : saga_Fit_2_T α) (saga_all : saga_all_T α) (saga_why : saga_why_T α) (saga_gone : saga_gone_T α) : List (LoopSpec α) := []

theorem saga_Fit_ev {α : Type} (name_Fit : name_Fit_T α) (lines_Fit : lines_Fit_T α) (num_Fit : num_Fit_T α) (def_Fit : def_Fit_T α) (def_Place : def_Place_T α) (saga_Fit_1 : saga_Fit_1_T α) (saga_Fit_2 : saga_Fit_2_T α) (saga_all : saga_all_T α) (saga_why : saga_why_T α) (saga_gone : saga_gone_T α) : EvOk (α := α) Go.Proofs.Tryd.prog (envOf (saga_Fit_C name_Fit lines_Fit num_Fit def_Fit def_Place saga_Fit_1 saga_Fit_2 saga_all saga_why saga_gone) saga_Fit_q saga_Fit_inl 1000 saga_Fit_ann false (saga_Fit_loops name_Fit lines_Fit num_Fit def_Fit def_Place saga_Fit_1 saga_Fit_2 saga_all saga_why saga_gone) (fun _ => none)) 6 (saga_Fit_sp (saga_Fit_g name_Fit lines_Fit num_Fit def_Fit def_Place saga_Fit_1 saga_Fit_2 saga_all saga_why saga_gone)) := by intro ds k; kernel_rfl

theorem saga_Fit_ok {α : Type} : (saga_Fit_spec : FunSpec α).ok Go.Proofs.Tryd.prog :=
  FunSpec.ok_of (sp := saga_Fit_spec) (C := saga_Fit_C name_Fit lines_Fit num_Fit def_Fit def_Place saga_Fit_1 saga_Fit_2 saga_all saga_why saga_gone) (q := saga_Fit_q) (inl := saga_Fit_inl) (N := 1000) (ann := saga_Fit_ann) (fr := false) (D := 6) (l := (saga_Fit_loops name_Fit lines_Fit num_Fit def_Fit def_Place saga_Fit_1 saga_Fit_2 saga_all saga_why saga_gone)) (hk := (fun _ => none)) (okCons name_Fit_ok (okCons lines_Fit_ok (okCons num_Fit_ok (okCons def_Fit_ok (okCons def_Place_ok (okCons saga_Fit_1_ok (okCons saga_Fit_2_ok (okCons saga_all_ok (okCons saga_why_ok (okCons saga_gone_ok okNil)))))))))) lokNil noHooks (saga_Fit_ev name_Fit lines_Fit num_Fit def_Fit def_Place saga_Fit_1 saga_Fit_2 saga_all saga_why saga_gone)

end
end Go.Rv.Tryd

set_option linter.unusedVariables false
set_option maxRecDepth 100000
set_option maxHeartbeats 4000000
namespace Go.Rv.Tryd
open Go Go.Rv Go.RowKit
noncomputable section

-- drayman/saga.Back

abbrev saga_Back_T (α : Type) : Type := (Int × ByteArray × ByteArray × (Seq (ByteArray × Int × Unit)) × Int × Int × Int × Int × Int × Int × (Seq (Int × Unit)) × Unit) → (Bool → Option α) → Option α

noncomputable def saga_Back {α : Type} (s1 : Int × ByteArray × ByteArray × (Seq (ByteArray × Int × Unit)) × Int × Int × Int × Int × Int × Int × (Seq (Int × Unit)) × Unit) (k : Bool → Option α) : Option α :=
  (cond (s1.2.2.2.2.2.1 == 2)
    (k true)
    (cond (s1.2.2.2.2.2.1 == 3)
      (k (s1.2.2.2.2.2.2.1 == 2))
      (k false)))

noncomputable def saga_Back_sp {α : Type} (saga_Back : saga_Back_T α) : FunSpec α := ⟨49, [.agg [.int .i64, .str, .str, .sl (.str (.int .i64 (.nil))), .int .i64, .int .i64, .int .i64, .int .i64, .int .i64, .int .i64, .sl (.int .i64 (.nil))]], [], fun ds k => saga_Back (hdI ds, hdS ds.tail, hdS ds.tail.tail, hdQ (.str (.int .i64 (.nil))) ds.tail.tail.tail, hdI ds.tail.tail.tail.tail, hdI ds.tail.tail.tail.tail.tail, hdI ds.tail.tail.tail.tail.tail.tail, hdI ds.tail.tail.tail.tail.tail.tail.tail, hdI ds.tail.tail.tail.tail.tail.tail.tail.tail, hdI ds.tail.tail.tail.tail.tail.tail.tail.tail.tail, hdQ (.int .i64 (.nil)) ds.tail.tail.tail.tail.tail.tail.tail.tail.tail.tail, ()) (fun r1 => k (enc dep (.bool) [.b r1]).1 [])⟩

noncomputable def saga_Back_spec {α : Type} : FunSpec α := saga_Back_sp saga_Back

noncomputable def saga_Back_C {α : Type} : List (FunSpec α) := []

noncomputable def saga_Back_q : FuncId → Bool := fun f => false

noncomputable def saga_Back_inl : FuncId → Bool := fun f => false

noncomputable def saga_Back_ann : FuncId → AnnT := fun f p => ⟨[], [], [], [], 0, [], [], none⟩

noncomputable def saga_Back_loops {α : Type} : List (LoopSpec α) := []

theorem saga_Back_ev {α : Type} : EvOk (α := α) Go.Proofs.Tryd.prog (envOf (saga_Back_C) saga_Back_q saga_Back_inl 1000 saga_Back_ann false (saga_Back_loops) (fun _ => none)) 6 (saga_Back_sp (saga_Back)) := by intro ds k; kernel_rfl

theorem saga_Back_ok {α : Type} : (saga_Back_spec : FunSpec α).ok Go.Proofs.Tryd.prog :=
  FunSpec.ok_of (sp := saga_Back_spec) (C := saga_Back_C) (q := saga_Back_q) (inl := saga_Back_inl) (N := 1000) (ann := saga_Back_ann) (fr := false) (D := 6) (l := (saga_Back_loops)) (hk := (fun _ => none)) okNil lokNil noHooks (saga_Back_ev)

end
end Go.Rv.Tryd

set_option linter.unusedVariables false
set_option maxRecDepth 100000
set_option maxHeartbeats 4000000
namespace Go.Rv.Tryd
open Go Go.Rv Go.RowKit
noncomputable section

-- drayman/draymanlaw24.awake

abbrev draymanlaw24_awake_T (α : Type) : Type := (Bool → Option α) → Option α

noncomputable def draymanlaw24_awake_g {α : Type} (draymanref21_Built : draymanref21_Built_T α) (saga_Word : saga_Word_T α) (saga_Fit : saga_Fit_T α) (saga_Live : saga_Live_T α) (saga_Back : saga_Back_T α) (saga_Bound : saga_Bound_T α) (k : Bool → Option α) : Option α :=
  (draymanref21_Built fun r1 =>
    (saga_Word 2 fun r2 =>
      (cond (r2.toList == (⟨#[117, 110, 100, 111, 105, 110, 103]⟩ : ByteArray).toList)
        (saga_Word 0 fun r3 =>
          (cond (r3.toList == (⟨#[]⟩ : ByteArray).toList)
            (cond (decide ((2 : Int) < (r1.n : Int)))
              (cond (Nat.blt 2 r1.n)
                (saga_Fit (1, (⟨#[97]⟩ : ByteArray), (⟨#[112, 114, 101, 112, 97, 105, 100]⟩ : ByteArray), (⟨true, 0, (fun _ => (ByteArray.empty, 0, ()))⟩ : Seq (ByteArray × Int × Unit)), 5, 1, 0, 1, 0, 0, (⟨false, 3, (tSel [(2, ()), (1, ()), (0, ())] (0, ()))⟩ : Seq (Int × Unit)), ()) (r1.g 2) fun r4 =>
                  (cond r4
                    (cond (decide ((0 : Int) < (r1.n : Int)))
                      (cond (Nat.blt 0 r1.n)
                        (saga_Fit (1, (⟨#[97]⟩ : ByteArray), (⟨#[112, 114, 101, 112, 97, 105, 100]⟩ : ByteArray), (⟨true, 0, (fun _ => (ByteArray.empty, 0, ()))⟩ : Seq (ByteArray × Int × Unit)), 5, 1, 0, 1, 0, 0, (⟨false, 3, (tSel [(2, ()), (1, ()), (0, ())] (0, ()))⟩ : Seq (Int × Unit)), ()) (r1.g 0) fun r5 =>
                          (cond (!r5)
                            (saga_Live (1, (⟨#[97]⟩ : ByteArray), (⟨#[112, 114, 101, 112, 97, 105, 100]⟩ : ByteArray), (⟨true, 0, (fun _ => (ByteArray.empty, 0, ()))⟩ : Seq (ByteArray × Int × Unit)), 5, 1, 0, 1, 0, 0, (⟨false, 3, (tSel [(2, ()), (1, ()), (0, ())] (0, ()))⟩ : Seq (Int × Unit)), ()) fun r6 =>
                              (cond r6
                                (saga_Back (1, (⟨#[97]⟩ : ByteArray), (⟨#[112, 114, 101, 112, 97, 105, 100]⟩ : ByteArray), (⟨true, 0, (fun _ => (ByteArray.empty, 0, ()))⟩ : Seq (ByteArray × Int × Unit)), 5, 1, 0, 1, 0, 0, (⟨false, 3, (tSel [(2, ()), (1, ()), (0, ())] (0, ()))⟩ : Seq (Int × Unit)), ()) fun r7 =>
                                  (cond (!r7)
                                    (cond (decide ((2 : Int) < (r1.n : Int)))
                                      (cond (Nat.blt 2 r1.n)
                                        (saga_Bound (1, (⟨#[97]⟩ : ByteArray), (⟨#[112, 114, 101, 112, 97, 105, 100]⟩ : ByteArray), (⟨true, 0, (fun _ => (ByteArray.empty, 0, ()))⟩ : Seq (ByteArray × Int × Unit)), 5, 1, 0, 1, 0, 0, (⟨false, 3, (tSel [(2, ()), (1, ()), (0, ())] (0, ()))⟩ : Seq (Int × Unit)), ()) (r1.g 2) fun r8 =>
                                          (k (!r8)))
                                        none)
                                      none)
                                    (k false)))
                                (k false)))
                            (k false)))
                        none)
                      none)
                    (k false)))
                none)
              none)
            (k false)))
        (k false))))

noncomputable def draymanlaw24_awake {α : Type} : draymanlaw24_awake_T α := draymanlaw24_awake_g draymanref21_Built saga_Word saga_Fit saga_Live saga_Back saga_Bound

noncomputable def draymanlaw24_awake_sp {α : Type} (draymanlaw24_awake : draymanlaw24_awake_T α) : FunSpec α := ⟨44, [], [], fun ds k => draymanlaw24_awake  (fun r1 => k (enc dep (.bool) [.b r1]).1 [])⟩

noncomputable def draymanlaw24_awake_spec {α : Type} : FunSpec α := draymanlaw24_awake_sp draymanlaw24_awake

noncomputable def draymanlaw24_awake_C {α : Type} (draymanref21_Built : draymanref21_Built_T α) (saga_Word : saga_Word_T α) (saga_Fit : saga_Fit_T α) (saga_Live : saga_Live_T α) (saga_Back : saga_Back_T α) (saga_Bound : saga_Bound_T α) : List (FunSpec α) := [draymanref21_Built_sp draymanref21_Built, saga_Word_sp saga_Word, saga_Fit_sp saga_Fit, saga_Live_sp saga_Live, saga_Back_sp saga_Back, saga_Bound_sp saga_Bound]

noncomputable def draymanlaw24_awake_q : FuncId → Bool := fun f => Nat.beq f 43 || Nat.beq f 47 || Nat.beq f 48 || Nat.beq f 49 || Nat.beq f 84

noncomputable def draymanlaw24_awake_inl : FuncId → Bool := fun f => false

noncomputable def draymanlaw24_awake_ann : FuncId → AnnT := fun f p => if f = 44 then (if p = [false, true, true, true] then ⟨[7, 14, 22, 26, 31], [1, 2], [], [], 2, [], [], none⟩ else ⟨[], [], [], [], 0, [], [], none⟩) else ⟨[], [], [], [], 0, [], [], none⟩

noncomputable def draymanlaw24_awake_loops {α : Type} (draymanref21_Built : draymanref21_Built_T α) (saga_Word : saga_Word_T α) (saga_Fit : saga_Fit_T α) (saga_Live : saga_Live_T α) (saga_Back : saga_Back_T α) (saga_Bound : saga_Bound_T α) : List (LoopSpec α) := []

theorem draymanlaw24_awake_ev {α : Type} (draymanref21_Built : draymanref21_Built_T α) (saga_Word : saga_Word_T α) (saga_Fit : saga_Fit_T α) (saga_Live : saga_Live_T α) (saga_Back : saga_Back_T α) (saga_Bound : saga_Bound_T α) : EvOk (α := α) Go.Proofs.Tryd.prog (envOf (draymanlaw24_awake_C draymanref21_Built saga_Word saga_Fit saga_Live saga_Back saga_Bound) draymanlaw24_awake_q draymanlaw24_awake_inl 1000 draymanlaw24_awake_ann false (draymanlaw24_awake_loops draymanref21_Built saga_Word saga_Fit saga_Live saga_Back saga_Bound) (fun _ => none)) 6 (draymanlaw24_awake_sp (draymanlaw24_awake_g draymanref21_Built saga_Word saga_Fit saga_Live saga_Back saga_Bound)) := by intro ds k; kernel_rfl

theorem draymanlaw24_awake_ok {α : Type} : (draymanlaw24_awake_spec : FunSpec α).ok Go.Proofs.Tryd.prog :=
  FunSpec.ok_of (sp := draymanlaw24_awake_spec) (C := draymanlaw24_awake_C draymanref21_Built saga_Word saga_Fit saga_Live saga_Back saga_Bound) (q := draymanlaw24_awake_q) (inl := draymanlaw24_awake_inl) (N := 1000) (ann := draymanlaw24_awake_ann) (fr := false) (D := 6) (l := (draymanlaw24_awake_loops draymanref21_Built saga_Word saga_Fit saga_Live saga_Back saga_Bound)) (hk := (fun _ => none)) (okCons draymanref21_Built_ok (okCons saga_Word_ok (okCons saga_Fit_ok (okCons saga_Live_ok (okCons saga_Back_ok (okCons saga_Bound_ok okNil)))))) lokNil noHooks (draymanlaw24_awake_ev draymanref21_Built saga_Word saga_Fit saga_Live saga_Back saga_Bound)

end
end Go.Rv.Tryd

set_option linter.unusedVariables false
set_option maxRecDepth 100000
set_option maxHeartbeats 4000000
namespace Go.Rv.Tryd
open Go Go.Rv Go.RowKit
noncomputable section

-- drayman/draymanref11.Few

abbrev draymanref11_Few_T (α : Type) : Type := (Seq (ByteArray × Int × Unit)) → (Bool → Option α) → Option α

noncomputable def draymanref11_Few_l0_step {α : Type} (kr : (Bool) → Option α) (k0 : (Seq (ByteArray × Int × Unit)) → Option α) (rec : (Seq (ByteArray × Int × Unit)) → (Int) → Option α) (l2 : Seq (ByteArray × Int × Unit)) (i3 : Int) : Option α :=
  (cond (decide (i3 < (l2.n : Int)))
    (cond (decide (i3 < 8))
      (cond ((decide ((0 : Int) ≤ i3)) && (decide (i3 < (l2.n : Int))))
        (cond (decide (((l2.g i3.toNat).1.size : Int) > 60))
          (kr false)
          (rec l2 (IntKind.i64.wrap (i3 + 1))))
        none)
      (k0 l2))
    (k0 l2))

noncomputable def draymanref11_Few_l0_run {α : Type} (kr : (Bool) → Option α) (k0 : (Seq (ByteArray × Int × Unit)) → Option α) : Nat → (Seq (ByteArray × Int × Unit)) → (Int) → Option α
  | 0, _, _ => none
  | n + 1, l2, i3 => draymanref11_Few_l0_step kr k0 (fun l2 i3 => draymanref11_Few_l0_run kr k0 n l2 i3) l2 i3

noncomputable def draymanref11_Few {α : Type} (l1 : Seq (ByteArray × Int × Unit)) (k : Bool → Option α) : Option α :=
  (draymanref11_Few_l0_run
    (fun x4 =>
      (k x4))
    (fun x5 =>
      (k (decide ((x5.n : Int) ≤ 8))))
    1000 l1 0)

noncomputable def draymanref11_Few_sp {α : Type} (draymanref11_Few : draymanref11_Few_T α) : FunSpec α := ⟨23, [.sl (.str (.int .i64 (.nil)))], [], fun ds k => draymanref11_Few (hdQ (.str (.int .i64 (.nil))) ds) (fun r1 => k (enc dep (.bool) [.b r1]).1 [])⟩

noncomputable def draymanref11_Few_spec {α : Type} : FunSpec α := draymanref11_Few_sp draymanref11_Few

noncomputable def draymanref11_Few_C {α : Type} : List (FunSpec α) := []

noncomputable def draymanref11_Few_q : FuncId → Bool := fun f => false

noncomputable def draymanref11_Few_inl : FuncId → Bool := fun f => false

noncomputable def draymanref11_Few_ann : FuncId → AnnT := fun f p => if f = 23 then (if p = [true, false, true] then ⟨[0, 3], [], [0], [2], 0, [], [], none⟩ else ⟨[], [], [], [], 0, [], [], none⟩) else ⟨[], [], [], [], 0, [], [], none⟩

noncomputable def draymanref11_Few_l0_t : List Sh := [.sl (.str (.int .i64 (.nil))), .dead, .dead, .int .i64, .dead, .dead, .dead, .dead, .dead, .dead, .dead, .dead, .dead, .dead, .dead, .dead, .dead, .dead, .dead, .dead, .dead, .dead, .dead, .dead]
noncomputable def draymanref11_Few_l0_s : List (List Sh) := []
noncomputable def draymanref11_Few_l0_h : List BSh := []

noncomputable def draymanref11_Few_l0_spec {α : Type} : LoopSpec α := ⟨6, 23, [true, false, true], draymanref11_Few_l0_t, draymanref11_Few_l0_s, draymanref11_Few_l0_h, fun ds k => draymanref11_Few_l0_run (fun y1 => k .ret (encSt [.dead, .dead, .bool, .dead, .dead, .dead, .dead, .dead, .dead, .dead, .dead, .dead, .dead, .dead, .dead, .dead, .dead, .dead, .dead, .dead, .dead, .dead, .dead, .dead] [] [] [.b y1])) (fun y1 => k (.exit 0) (encSt [.sl (.str (.int .i64 (.nil))), .dead, .dead, .dead, .dead, .dead, .dead, .dead, .dead, .dead, .dead, .dead, .dead, .dead, .dead, .dead, .dead, .dead, .dead, .dead, .dead, .dead, .dead, .dead] [] [] [.q (.str (.int .i64 (.nil))) y1])) 1000 (hdQ (.str (.int .i64 (.nil))) ds) (hdI ds.tail)⟩

noncomputable def draymanref11_Few_loops {α : Type} : List (LoopSpec α) := [draymanref11_Few_l0_spec]

noncomputable def draymanref11_Few_l0_ev {α : Type} (n : Nat) (st : St) (k : X → St → Option α) : Option α := loopN (evCode Go.Proofs.Tryd.prog (callD Go.Proofs.Tryd.prog (envOf (draymanref11_Few_C) draymanref11_Few_q draymanref11_Few_inl 1000 draymanref11_Few_ann false (draymanref11_Few_loops) (fun _ => none)) 6) (((envOf (draymanref11_Few_C) draymanref11_Few_q draymanref11_Few_inl 1000 draymanref11_Few_ann false (draymanref11_Few_loops) (fun _ => none)) : Env α).L 6 23) 1000 (draymanref11_Few_ann 23) (false :: [true, false, true]) (loopC Go.Proofs.Tryd.prog 23 [true, false, true])) ((draymanref11_Few_ann 23 [true, false, true]).head 0) ((draymanref11_Few_ann 23 [true, false, true]).leave 0) n st k

theorem draymanref11_Few_l0_eq {α : Type} : ∀ (n : Nat) (l2 : Seq (ByteArray × Int × Unit)) (i3 : Int) (k : X → St → Option α), draymanref11_Few_l0_ev n (encSt draymanref11_Few_l0_t draymanref11_Few_l0_s draymanref11_Few_l0_h [.q (.str (.int .i64 (.nil))) l2, .i i3]) k = draymanref11_Few_l0_run (fun y1 => k .ret (encSt [.dead, .dead, .bool, .dead, .dead, .dead, .dead, .dead, .dead, .dead, .dead, .dead, .dead, .dead, .dead, .dead, .dead, .dead, .dead, .dead, .dead, .dead, .dead, .dead] [] [] [.b y1])) (fun y1 => k (.exit 0) (encSt [.sl (.str (.int .i64 (.nil))), .dead, .dead, .dead, .dead, .dead, .dead, .dead, .dead, .dead, .dead, .dead, .dead, .dead, .dead, .dead, .dead, .dead, .dead, .dead, .dead, .dead, .dead, .dead] [] [] [.q (.str (.int .i64 (.nil))) y1])) n l2 i3 := by
  intro n
  induction n with
  | zero => intros; kernel_rfl
  | succ n ih =>
    intro l2 i3 k
    have e : (fun (l2 : Seq (ByteArray × Int × Unit)) (i3 : Int) => draymanref11_Few_l0_ev n (encSt draymanref11_Few_l0_t draymanref11_Few_l0_s draymanref11_Few_l0_h [.q (.str (.int .i64 (.nil))) l2, .i i3]) k) = (fun (l2 : Seq (ByteArray × Int × Unit)) (i3 : Int) => draymanref11_Few_l0_run (fun y1 => k .ret (encSt [.dead, .dead, .bool, .dead, .dead, .dead, .dead, .dead, .dead, .dead, .dead, .dead, .dead, .dead, .dead, .dead, .dead, .dead, .dead, .dead, .dead, .dead, .dead, .dead] [] [] [.b y1])) (fun y1 => k (.exit 0) (encSt [.sl (.str (.int .i64 (.nil))), .dead, .dead, .dead, .dead, .dead, .dead, .dead, .dead, .dead, .dead, .dead, .dead, .dead, .dead, .dead, .dead, .dead, .dead, .dead, .dead, .dead, .dead, .dead] [] [] [.q (.str (.int .i64 (.nil))) y1])) n l2 i3) := by
      funext l2 i3
      exact ih l2 i3 k
    have h1 : draymanref11_Few_l0_ev (n + 1) (encSt draymanref11_Few_l0_t draymanref11_Few_l0_s draymanref11_Few_l0_h [.q (.str (.int .i64 (.nil))) l2, .i i3]) k = draymanref11_Few_l0_step (fun y1 => k .ret (encSt [.dead, .dead, .bool, .dead, .dead, .dead, .dead, .dead, .dead, .dead, .dead, .dead, .dead, .dead, .dead, .dead, .dead, .dead, .dead, .dead, .dead, .dead, .dead, .dead] [] [] [.b y1])) (fun y1 => k (.exit 0) (encSt [.sl (.str (.int .i64 (.nil))), .dead, .dead, .dead, .dead, .dead, .dead, .dead, .dead, .dead, .dead, .dead, .dead, .dead, .dead, .dead, .dead, .dead, .dead, .dead, .dead, .dead, .dead, .dead] [] [] [.q (.str (.int .i64 (.nil))) y1])) (fun (l2 : Seq (ByteArray × Int × Unit)) (i3 : Int) => draymanref11_Few_l0_ev n (encSt draymanref11_Few_l0_t draymanref11_Few_l0_s draymanref11_Few_l0_h [.q (.str (.int .i64 (.nil))) l2, .i i3]) k) l2 i3 := by kernel_rfl
    have h2 := congrArg (fun r => draymanref11_Few_l0_step (fun y1 => k .ret (encSt [.dead, .dead, .bool, .dead, .dead, .dead, .dead, .dead, .dead, .dead, .dead, .dead, .dead, .dead, .dead, .dead, .dead, .dead, .dead, .dead, .dead, .dead, .dead, .dead] [] [] [.b y1])) (fun y1 => k (.exit 0) (encSt [.sl (.str (.int .i64 (.nil))), .dead, .dead, .dead, .dead, .dead, .dead, .dead, .dead, .dead, .dead, .dead, .dead, .dead, .dead, .dead, .dead, .dead, .dead, .dead, .dead, .dead, .dead, .dead] [] [] [.q (.str (.int .i64 (.nil))) y1])) r l2 i3) e
    have h3 : draymanref11_Few_l0_step (fun y1 => k .ret (encSt [.dead, .dead, .bool, .dead, .dead, .dead, .dead, .dead, .dead, .dead, .dead, .dead, .dead, .dead, .dead, .dead, .dead, .dead, .dead, .dead, .dead, .dead, .dead, .dead] [] [] [.b y1])) (fun y1 => k (.exit 0) (encSt [.sl (.str (.int .i64 (.nil))), .dead, .dead, .dead, .dead, .dead, .dead, .dead, .dead, .dead, .dead, .dead, .dead, .dead, .dead, .dead, .dead, .dead, .dead, .dead, .dead, .dead, .dead, .dead] [] [] [.q (.str (.int .i64 (.nil))) y1])) (fun (l2 : Seq (ByteArray × Int × Unit)) (i3 : Int) => draymanref11_Few_l0_run (fun y1 => k .ret (encSt [.dead, .dead, .bool, .dead, .dead, .dead, .dead, .dead, .dead, .dead, .dead, .dead, .dead, .dead, .dead, .dead, .dead, .dead, .dead, .dead, .dead, .dead, .dead, .dead] [] [] [.b y1])) (fun y1 => k (.exit 0) (encSt [.sl (.str (.int .i64 (.nil))), .dead, .dead, .dead, .dead, .dead, .dead, .dead, .dead, .dead, .dead, .dead, .dead, .dead, .dead, .dead, .dead, .dead, .dead, .dead, .dead, .dead, .dead, .dead] [] [] [.q (.str (.int .i64 (.nil))) y1])) n l2 i3) l2 i3 = draymanref11_Few_l0_run (fun y1 => k .ret (encSt [.dead, .dead, .bool, .dead, .dead, .dead, .dead, .dead, .dead, .dead, .dead, .dead, .dead, .dead, .dead, .dead, .dead, .dead, .dead, .dead, .dead, .dead, .dead, .dead] [] [] [.b y1])) (fun y1 => k (.exit 0) (encSt [.sl (.str (.int .i64 (.nil))), .dead, .dead, .dead, .dead, .dead, .dead, .dead, .dead, .dead, .dead, .dead, .dead, .dead, .dead, .dead, .dead, .dead, .dead, .dead, .dead, .dead, .dead, .dead] [] [] [.q (.str (.int .i64 (.nil))) y1])) (n + 1) l2 i3 := by kernel_rfl
    exact h1.trans (h2.trans h3)

theorem draymanref11_Few_l0_ok {α : Type} : (draymanref11_Few_l0_spec : LoopSpec α).ok Go.Proofs.Tryd.prog (envOf (draymanref11_Few_C) draymanref11_Few_q draymanref11_Few_inl 1000 draymanref11_Few_ann false (draymanref11_Few_loops) (fun _ => none)) := by
  intro ds k
  have h1 : draymanref11_Few_l0_ev 1000 (encSt draymanref11_Few_l0_t draymanref11_Few_l0_s draymanref11_Few_l0_h ds) k = draymanref11_Few_l0_ev 1000 (encSt draymanref11_Few_l0_t draymanref11_Few_l0_s draymanref11_Few_l0_h [.q (.str (.int .i64 (.nil))) (hdQ (.str (.int .i64 (.nil))) ds), .i (hdI ds.tail)]) k := by kernel_rfl
  have h2 := draymanref11_Few_l0_eq 1000 (hdQ (.str (.int .i64 (.nil))) ds) (hdI ds.tail) k
  exact h1.trans h2

theorem draymanref11_Few_ev {α : Type} : EvOk (α := α) Go.Proofs.Tryd.prog (envOf (draymanref11_Few_C) draymanref11_Few_q draymanref11_Few_inl 1000 draymanref11_Few_ann false (draymanref11_Few_loops) (fun _ => none)) 6 (draymanref11_Few_sp (draymanref11_Few)) := by intro ds k; kernel_rfl

theorem draymanref11_Few_ok {α : Type} : (draymanref11_Few_spec : FunSpec α).ok Go.Proofs.Tryd.prog :=
  FunSpec.ok_of (sp := draymanref11_Few_spec) (C := draymanref11_Few_C) (q := draymanref11_Few_q) (inl := draymanref11_Few_inl) (N := 1000) (ann := draymanref11_Few_ann) (fr := false) (D := 6) (l := (draymanref11_Few_loops)) (hk := (fun _ => none)) okNil (lokCons (draymanref11_Few_l0_ok) lokNil) noHooks (draymanref11_Few_ev)

end
end Go.Rv.Tryd

set_option linter.unusedVariables false
set_option maxRecDepth 100000
set_option maxHeartbeats 4000000
namespace Go.Rv.Tryd
open Go Go.Rv Go.RowKit
noncomputable section

-- drayman/draymanref24.Few

abbrev draymanref24_Few_T (α : Type) : Type := (Int × ByteArray × ByteArray × (Seq (ByteArray × Int × Unit)) × Int × Int × Int × Int × Int × Int × (Seq (Int × Unit)) × Unit) → (Bool → Option α) → Option α

noncomputable def draymanref24_Few_g {α : Type} (draymanref11_Few : draymanref11_Few_T α) (s1 : Int × ByteArray × ByteArray × (Seq (ByteArray × Int × Unit)) × Int × Int × Int × Int × Int × Int × (Seq (Int × Unit)) × Unit) (k : Bool → Option α) : Option α :=
  (cond (decide ((s1.2.1.size : Int) ≤ 60))
    (cond (decide ((s1.2.2.1.size : Int) ≤ 60))
      (draymanref11_Few s1.2.2.2.1 fun r2 =>
        (cond r2
          (k (decide ((s1.2.2.2.2.2.2.2.2.2.2.1.n : Int) ≤ 10)))
          (k false)))
      (k false))
    (k false))

noncomputable def draymanref24_Few {α : Type} : draymanref24_Few_T α := draymanref24_Few_g draymanref11_Few

noncomputable def draymanref24_Few_sp {α : Type} (draymanref24_Few : draymanref24_Few_T α) : FunSpec α := ⟨41, [.agg [.int .i64, .str, .str, .sl (.str (.int .i64 (.nil))), .int .i64, .int .i64, .int .i64, .int .i64, .int .i64, .int .i64, .sl (.int .i64 (.nil))]], [], fun ds k => draymanref24_Few (hdI ds, hdS ds.tail, hdS ds.tail.tail, hdQ (.str (.int .i64 (.nil))) ds.tail.tail.tail, hdI ds.tail.tail.tail.tail, hdI ds.tail.tail.tail.tail.tail, hdI ds.tail.tail.tail.tail.tail.tail, hdI ds.tail.tail.tail.tail.tail.tail.tail, hdI ds.tail.tail.tail.tail.tail.tail.tail.tail, hdI ds.tail.tail.tail.tail.tail.tail.tail.tail.tail, hdQ (.int .i64 (.nil)) ds.tail.tail.tail.tail.tail.tail.tail.tail.tail.tail, ()) (fun r1 => k (enc dep (.bool) [.b r1]).1 [])⟩

noncomputable def draymanref24_Few_spec {α : Type} : FunSpec α := draymanref24_Few_sp draymanref24_Few

noncomputable def draymanref24_Few_C {α : Type} (draymanref11_Few : draymanref11_Few_T α) : List (FunSpec α) := [draymanref11_Few_sp draymanref11_Few]

noncomputable def draymanref24_Few_q : FuncId → Bool := fun f => Nat.beq f 23

noncomputable def draymanref24_Few_inl : FuncId → Bool := fun f => false

noncomputable def draymanref24_Few_ann : FuncId → AnnT := fun f p => ⟨[], [], [], [], 0, [], [], none⟩

noncomputable def draymanref24_Few_loops {α : Type} (draymanref11_Few : draymanref11_Few_T α) : List (LoopSpec α) := []

theorem draymanref24_Few_ev {α : Type} (draymanref11_Few : draymanref11_Few_T α) : EvOk (α := α) Go.Proofs.Tryd.prog (envOf (draymanref24_Few_C draymanref11_Few) draymanref24_Few_q draymanref24_Few_inl 1000 draymanref24_Few_ann false (draymanref24_Few_loops draymanref11_Few) (fun _ => none)) 6 (draymanref24_Few_sp (draymanref24_Few_g draymanref11_Few)) := by intro ds k; kernel_rfl

theorem draymanref24_Few_ok {α : Type} : (draymanref24_Few_spec : FunSpec α).ok Go.Proofs.Tryd.prog :=
  FunSpec.ok_of (sp := draymanref24_Few_spec) (C := draymanref24_Few_C draymanref11_Few) (q := draymanref24_Few_q) (inl := draymanref24_Few_inl) (N := 1000) (ann := draymanref24_Few_ann) (fr := false) (D := 6) (l := (draymanref24_Few_loops draymanref11_Few)) (hk := (fun _ => none)) (okCons draymanref11_Few_ok okNil) lokNil noHooks (draymanref24_Few_ev draymanref11_Few)

end
end Go.Rv.Tryd

set_option linter.unusedVariables false
set_option maxRecDepth 100000
set_option maxHeartbeats 4000000
namespace Go.Rv.Tryd
open Go Go.Rv Go.RowKit
noncomputable section

-- drayman/draymanref21.Few

abbrev draymanref21_Few_T (α : Type) : Type := (ByteArray × (Seq Z0) × Unit) → (Bool → Option α) → Option α

noncomputable def draymanref21_Few {α : Type} (d1 : ByteArray × (Seq Z0) × Unit) (k : Bool → Option α) : Option α :=
  (cond (decide ((d1.1.size : Int) ≤ 60))
    (k (decide ((d1.2.1.n : Int) ≤ 10)))
    (k false))

noncomputable def draymanref21_Few_sp {α : Type} (draymanref21_Few : draymanref21_Few_T α) : FunSpec α := ⟨42, [.agg [.str, .sl (.int .i64 (.int .i64 (.int .i64 (.int .i64 (.int .i64 (.int .i64 (.nil)))))))]], [], fun ds k => draymanref21_Few (hdS ds, hdQ (.int .i64 (.int .i64 (.int .i64 (.int .i64 (.int .i64 (.int .i64 (.nil))))))) ds.tail, ()) (fun r1 => k (enc dep (.bool) [.b r1]).1 [])⟩

noncomputable def draymanref21_Few_spec {α : Type} : FunSpec α := draymanref21_Few_sp draymanref21_Few

noncomputable def draymanref21_Few_C {α : Type} : List (FunSpec α) := []

noncomputable def draymanref21_Few_q : FuncId → Bool := fun f => false

noncomputable def draymanref21_Few_inl : FuncId → Bool := fun f => false

noncomputable def draymanref21_Few_ann : FuncId → AnnT := fun f p => ⟨[], [], [], [], 0, [], [], none⟩

noncomputable def draymanref21_Few_loops {α : Type} : List (LoopSpec α) := []

theorem draymanref21_Few_ev {α : Type} : EvOk (α := α) Go.Proofs.Tryd.prog (envOf (draymanref21_Few_C) draymanref21_Few_q draymanref21_Few_inl 1000 draymanref21_Few_ann false (draymanref21_Few_loops) (fun _ => none)) 6 (draymanref21_Few_sp (draymanref21_Few)) := by intro ds k; kernel_rfl

theorem draymanref21_Few_ok {α : Type} : (draymanref21_Few_spec : FunSpec α).ok Go.Proofs.Tryd.prog :=
  FunSpec.ok_of (sp := draymanref21_Few_spec) (C := draymanref21_Few_C) (q := draymanref21_Few_q) (inl := draymanref21_Few_inl) (N := 1000) (ann := draymanref21_Few_ann) (fr := false) (D := 6) (l := (draymanref21_Few_loops)) (hk := (fun _ => none)) okNil lokNil noHooks (draymanref21_Few_ev)

end
end Go.Rv.Tryd

set_option linter.unusedVariables false
set_option maxRecDepth 100000
set_option maxHeartbeats 4000000
namespace Go.Rv.Tryd
open Go Go.Rv Go.RowKit
noncomputable section

-- drayman/draymanlaw24.SagaRules

abbrev draymanlaw24_SagaRules_T (α : Type) : Type := (Int × ByteArray × ByteArray × (Seq (ByteArray × Int × Unit)) × Int × Int × Int × Int × Int × Int × (Seq (Int × Unit)) × Unit) → (ByteArray × (Seq Z0) × Unit) → (Bool → Option α) → Option α

noncomputable def draymanlaw24_SagaRules_g {α : Type} (saga_Holds : saga_Holds_T α) (saga_Keeps : saga_Keeps_T α) (saga_Live : saga_Live_T α) (draymanlaw24_awake : draymanlaw24_awake_T α) (saga_Back : saga_Back_T α) (saga_Bound : saga_Bound_T α) (draymanref24_Few : draymanref24_Few_T α) (draymanref21_Few : draymanref21_Few_T α) (saga_Fit : saga_Fit_T α) (x1 : Int × ByteArray × ByteArray × (Seq (ByteArray × Int × Unit)) × Int × Int × Int × Int × Int × Int × (Seq (Int × Unit)) × Unit) (x2 : ByteArray × (Seq Z0) × Unit) (k : Bool → Option α) : Option α :=
  (joinD
    (fun ds => (fun (x3 : Int × ByteArray × ByteArray × (Seq (ByteArray × Int × Unit)) × Int × Int × Int × Int × Int × Int × (Seq (Int × Unit)) × Unit) (x4 : ByteArray × (Seq Z0) × Unit) =>
      (saga_Holds x3 x4 fun r6 =>
        (saga_Keeps x3 x4 fun r7 =>
          (joinD
            (fun ds => (fun (x8 : Int × ByteArray × ByteArray × (Seq (ByteArray × Int × Unit)) × Int × Int × Int × Int × Int × Int × (Seq (Int × Unit)) × Unit) (x9 : ByteArray × (Seq Z0) × Unit) =>
              (saga_Live x8 fun r11 =>
                (cond (!r11)
                  (cond (!(x8.2.2.2.2.2.1 == 4))
                    (cond (x8.2.2.2.2.2.1 == 5)
                      (draymanlaw24_awake fun r12 =>
                        (k r12))
                      (k false))
                    (draymanlaw24_awake fun r13 =>
                      (k r13)))
                  (cond (decide (x8.2.2.2.2.2.2.2.1 ≥ 0))
                    (cond (decide (x8.2.2.2.2.2.2.2.1 < (x9.2.1.n : Int)))
                      (cond (decide (x8.2.2.2.2.2.2.2.1 < (x8.2.2.2.2.2.2.2.2.2.2.1.n : Int)))
                        (cond ((decide ((0 : Int) ≤ x8.2.2.2.2.2.2.2.1)) && (decide (x8.2.2.2.2.2.2.2.1 < (x8.2.2.2.2.2.2.2.2.2.2.1.n : Int))))
                          (saga_Back x8 fun r14 =>
                            (cond (((x8.2.2.2.2.2.2.2.2.2.2.1.g x8.2.2.2.2.2.2.2.1.toNat).1 == 3) == r14)
                              (draymanlaw24_awake fun r15 =>
                                (k r15))
                              (k false)))
                          none)
                        (k false))
                      (k false))
                    (k false)))))
              (hdI ds, hdS ds.tail, hdS ds.tail.tail, hdQ (.str (.int .i64 (.nil))) ds.tail.tail.tail, hdI ds.tail.tail.tail.tail, hdI ds.tail.tail.tail.tail.tail, hdI ds.tail.tail.tail.tail.tail.tail, hdI ds.tail.tail.tail.tail.tail.tail.tail, hdI ds.tail.tail.tail.tail.tail.tail.tail.tail, hdI ds.tail.tail.tail.tail.tail.tail.tail.tail.tail, hdQ (.int .i64 (.nil)) ds.tail.tail.tail.tail.tail.tail.tail.tail.tail.tail, ()) (hdS ds.tail.tail.tail.tail.tail.tail.tail.tail.tail.tail.tail, hdQ (.int .i64 (.int .i64 (.int .i64 (.int .i64 (.int .i64 (.int .i64 (.nil))))))) ds.tail.tail.tail.tail.tail.tail.tail.tail.tail.tail.tail.tail, ()))
            (fun j10 =>
              (saga_Live x3 fun r16 =>
                (cond (!r16)
                  (cond (!r6)
                    (cond (!r7)
                      (cond r6
                        (cond (!r7)
                          (saga_Bound x3 x4 fun r17 =>
                            (cond r17
                              (saga_Back x3 fun r18 =>
                                (cond (!r18)
                                  (cond (x3.2.2.2.2.2.1 == 5)
                                    (k false)
                                    (j10 [.i x3.1, .s x3.2.1, .s x3.2.2.1, .q (.str (.int .i64 (.nil))) x3.2.2.2.1, .i x3.2.2.2.2.1, .i x3.2.2.2.2.2.1, .i x3.2.2.2.2.2.2.1, .i x3.2.2.2.2.2.2.2.1, .i x3.2.2.2.2.2.2.2.2.1, .i x3.2.2.2.2.2.2.2.2.2.1, .q (.int .i64 (.nil)) x3.2.2.2.2.2.2.2.2.2.2.1, .s x4.1, .q (.int .i64 (.int .i64 (.int .i64 (.int .i64 (.int .i64 (.int .i64 (.nil))))))) x4.2.1]))
                                  (k false)))
                              (j10 [.i x3.1, .s x3.2.1, .s x3.2.2.1, .q (.str (.int .i64 (.nil))) x3.2.2.2.1, .i x3.2.2.2.2.1, .i x3.2.2.2.2.2.1, .i x3.2.2.2.2.2.2.1, .i x3.2.2.2.2.2.2.2.1, .i x3.2.2.2.2.2.2.2.2.1, .i x3.2.2.2.2.2.2.2.2.2.1, .q (.int .i64 (.nil)) x3.2.2.2.2.2.2.2.2.2.2.1, .s x4.1, .q (.int .i64 (.int .i64 (.int .i64 (.int .i64 (.int .i64 (.int .i64 (.nil))))))) x4.2.1])))
                          (k false))
                        (saga_Bound x3 x4 fun r19 =>
                          (cond r19
                            (saga_Back x3 fun r20 =>
                              (cond (!r20)
                                (cond (x3.2.2.2.2.2.1 == 5)
                                  (k false)
                                  (j10 [.i x3.1, .s x3.2.1, .s x3.2.2.1, .q (.str (.int .i64 (.nil))) x3.2.2.2.1, .i x3.2.2.2.2.1, .i x3.2.2.2.2.2.1, .i x3.2.2.2.2.2.2.1, .i x3.2.2.2.2.2.2.2.1, .i x3.2.2.2.2.2.2.2.2.1, .i x3.2.2.2.2.2.2.2.2.2.1, .q (.int .i64 (.nil)) x3.2.2.2.2.2.2.2.2.2.2.1, .s x4.1, .q (.int .i64 (.int .i64 (.int .i64 (.int .i64 (.int .i64 (.int .i64 (.nil))))))) x4.2.1]))
                                (k false)))
                            (j10 [.i x3.1, .s x3.2.1, .s x3.2.2.1, .q (.str (.int .i64 (.nil))) x3.2.2.2.1, .i x3.2.2.2.2.1, .i x3.2.2.2.2.2.1, .i x3.2.2.2.2.2.2.1, .i x3.2.2.2.2.2.2.2.1, .i x3.2.2.2.2.2.2.2.2.1, .i x3.2.2.2.2.2.2.2.2.2.1, .q (.int .i64 (.nil)) x3.2.2.2.2.2.2.2.2.2.2.1, .s x4.1, .q (.int .i64 (.int .i64 (.int .i64 (.int .i64 (.int .i64 (.int .i64 (.nil))))))) x4.2.1]))))
                      (k false))
                    (k false))
                  (cond r6
                    (cond (!r7)
                      (saga_Bound x3 x4 fun r21 =>
                        (cond r21
                          (saga_Back x3 fun r22 =>
                            (cond (!r22)
                              (cond (x3.2.2.2.2.2.1 == 5)
                                (k false)
                                (j10 [.i x3.1, .s x3.2.1, .s x3.2.2.1, .q (.str (.int .i64 (.nil))) x3.2.2.2.1, .i x3.2.2.2.2.1, .i x3.2.2.2.2.2.1, .i x3.2.2.2.2.2.2.1, .i x3.2.2.2.2.2.2.2.1, .i x3.2.2.2.2.2.2.2.2.1, .i x3.2.2.2.2.2.2.2.2.2.1, .q (.int .i64 (.nil)) x3.2.2.2.2.2.2.2.2.2.2.1, .s x4.1, .q (.int .i64 (.int .i64 (.int .i64 (.int .i64 (.int .i64 (.int .i64 (.nil))))))) x4.2.1]))
                              (k false)))
                          (j10 [.i x3.1, .s x3.2.1, .s x3.2.2.1, .q (.str (.int .i64 (.nil))) x3.2.2.2.1, .i x3.2.2.2.2.1, .i x3.2.2.2.2.2.1, .i x3.2.2.2.2.2.2.1, .i x3.2.2.2.2.2.2.2.1, .i x3.2.2.2.2.2.2.2.2.1, .i x3.2.2.2.2.2.2.2.2.2.1, .q (.int .i64 (.nil)) x3.2.2.2.2.2.2.2.2.2.2.1, .s x4.1, .q (.int .i64 (.int .i64 (.int .i64 (.int .i64 (.int .i64 (.int .i64 (.nil))))))) x4.2.1])))
                      (k false))
                    (saga_Bound x3 x4 fun r23 =>
                      (cond r23
                        (saga_Back x3 fun r24 =>
                          (cond (!r24)
                            (cond (x3.2.2.2.2.2.1 == 5)
                              (k false)
                              (j10 [.i x3.1, .s x3.2.1, .s x3.2.2.1, .q (.str (.int .i64 (.nil))) x3.2.2.2.1, .i x3.2.2.2.2.1, .i x3.2.2.2.2.2.1, .i x3.2.2.2.2.2.2.1, .i x3.2.2.2.2.2.2.2.1, .i x3.2.2.2.2.2.2.2.2.1, .i x3.2.2.2.2.2.2.2.2.2.1, .q (.int .i64 (.nil)) x3.2.2.2.2.2.2.2.2.2.2.1, .s x4.1, .q (.int .i64 (.int .i64 (.int .i64 (.int .i64 (.int .i64 (.int .i64 (.nil))))))) x4.2.1]))
                            (k false)))
                        (j10 [.i x3.1, .s x3.2.1, .s x3.2.2.1, .q (.str (.int .i64 (.nil))) x3.2.2.2.1, .i x3.2.2.2.2.1, .i x3.2.2.2.2.2.1, .i x3.2.2.2.2.2.2.1, .i x3.2.2.2.2.2.2.2.1, .i x3.2.2.2.2.2.2.2.2.1, .i x3.2.2.2.2.2.2.2.2.2.1, .q (.int .i64 (.nil)) x3.2.2.2.2.2.2.2.2.2.2.1, .s x4.1, .q (.int .i64 (.int .i64 (.int .i64 (.int .i64 (.int .i64 (.int .i64 (.nil))))))) x4.2.1])))))))))))
      (hdI ds, hdS ds.tail, hdS ds.tail.tail, hdQ (.str (.int .i64 (.nil))) ds.tail.tail.tail, hdI ds.tail.tail.tail.tail, hdI ds.tail.tail.tail.tail.tail, hdI ds.tail.tail.tail.tail.tail.tail, hdI ds.tail.tail.tail.tail.tail.tail.tail, hdI ds.tail.tail.tail.tail.tail.tail.tail.tail, hdI ds.tail.tail.tail.tail.tail.tail.tail.tail.tail, hdQ (.int .i64 (.nil)) ds.tail.tail.tail.tail.tail.tail.tail.tail.tail.tail, ()) (hdS ds.tail.tail.tail.tail.tail.tail.tail.tail.tail.tail.tail, hdQ (.int .i64 (.int .i64 (.int .i64 (.int .i64 (.int .i64 (.int .i64 (.nil))))))) ds.tail.tail.tail.tail.tail.tail.tail.tail.tail.tail.tail.tail, ()))
    (fun j5 =>
      (draymanref24_Few x1 fun r25 =>
        (cond (!(!r25))
          (draymanref21_Few x2 fun r26 =>
            (cond (!(!r26))
              (saga_Fit x1 x2 fun r27 =>
                (cond (!r27)
                  (draymanlaw24_awake fun r28 =>
                    (k r28))
                  (j5 [.i x1.1, .s x1.2.1, .s x1.2.2.1, .q (.str (.int .i64 (.nil))) x1.2.2.2.1, .i x1.2.2.2.2.1, .i x1.2.2.2.2.2.1, .i x1.2.2.2.2.2.2.1, .i x1.2.2.2.2.2.2.2.1, .i x1.2.2.2.2.2.2.2.2.1, .i x1.2.2.2.2.2.2.2.2.2.1, .q (.int .i64 (.nil)) x1.2.2.2.2.2.2.2.2.2.2.1, .s x2.1, .q (.int .i64 (.int .i64 (.int .i64 (.int .i64 (.int .i64 (.int .i64 (.nil))))))) x2.2.1])))
              (draymanlaw24_awake fun r29 =>
                (k r29))))
          (draymanlaw24_awake fun r30 =>
            (k r30))))))

noncomputable def draymanlaw24_SagaRules {α : Type} : draymanlaw24_SagaRules_T α := draymanlaw24_SagaRules_g saga_Holds saga_Keeps saga_Live draymanlaw24_awake saga_Back saga_Bound draymanref24_Few draymanref21_Few saga_Fit

noncomputable def draymanlaw24_SagaRules_sp {α : Type} (draymanlaw24_SagaRules : draymanlaw24_SagaRules_T α) : FunSpec α := ⟨10, [.agg [.int .i64, .str, .str, .sl (.str (.int .i64 (.nil))), .int .i64, .int .i64, .int .i64, .int .i64, .int .i64, .int .i64, .sl (.int .i64 (.nil))], .agg [.str, .sl (.int .i64 (.int .i64 (.int .i64 (.int .i64 (.int .i64 (.int .i64 (.nil)))))))]], [], fun ds k => draymanlaw24_SagaRules (hdI ds, hdS ds.tail, hdS ds.tail.tail, hdQ (.str (.int .i64 (.nil))) ds.tail.tail.tail, hdI ds.tail.tail.tail.tail, hdI ds.tail.tail.tail.tail.tail, hdI ds.tail.tail.tail.tail.tail.tail, hdI ds.tail.tail.tail.tail.tail.tail.tail, hdI ds.tail.tail.tail.tail.tail.tail.tail.tail, hdI ds.tail.tail.tail.tail.tail.tail.tail.tail.tail, hdQ (.int .i64 (.nil)) ds.tail.tail.tail.tail.tail.tail.tail.tail.tail.tail, ()) (hdS ds.tail.tail.tail.tail.tail.tail.tail.tail.tail.tail.tail, hdQ (.int .i64 (.int .i64 (.int .i64 (.int .i64 (.int .i64 (.int .i64 (.nil))))))) ds.tail.tail.tail.tail.tail.tail.tail.tail.tail.tail.tail.tail, ()) (fun r1 => k (enc dep (.bool) [.b r1]).1 [])⟩

noncomputable def draymanlaw24_SagaRules_spec {α : Type} : FunSpec α := draymanlaw24_SagaRules_sp draymanlaw24_SagaRules

noncomputable def draymanlaw24_SagaRules_C {α : Type} (saga_Holds : saga_Holds_T α) (saga_Keeps : saga_Keeps_T α) (saga_Live : saga_Live_T α) (draymanlaw24_awake : draymanlaw24_awake_T α) (saga_Back : saga_Back_T α) (saga_Bound : saga_Bound_T α) (draymanref24_Few : draymanref24_Few_T α) (draymanref21_Few : draymanref21_Few_T α) (saga_Fit : saga_Fit_T α) : List (FunSpec α) := [saga_Holds_sp saga_Holds, saga_Keeps_sp saga_Keeps, saga_Live_sp saga_Live, draymanlaw24_awake_sp draymanlaw24_awake, saga_Back_sp saga_Back, saga_Bound_sp saga_Bound, draymanref24_Few_sp draymanref24_Few, draymanref21_Few_sp draymanref21_Few, saga_Fit_sp saga_Fit]

noncomputable def draymanlaw24_SagaRules_q : FuncId → Bool := fun f => Nat.beq f 41 || Nat.beq f 42 || Nat.beq f 43 || Nat.beq f 44 || Nat.beq f 45 || Nat.beq f 46 || Nat.beq f 47 || Nat.beq f 48 || Nat.beq f 49

noncomputable def draymanlaw24_SagaRules_inl : FuncId → Bool := fun f => false

noncomputable def draymanlaw24_SagaRules_ann : FuncId → AnnT := fun f p => if f = 10 then (if p = [true] then ⟨[2, 3], [], [], [], 0, [], [], some ([.dead, .dead, .ref 0 0, .ref 1 0, .dead, .dead, .dead, .dead, .dead, .dead, .dead, .dead, .dead, .dead, .dead, .dead, .dead, .dead, .dead, .dead, .dead, .dead, .dead, .dead, .dead, .dead, .dead, .dead, .dead, .dead, .dead, .dead, .dead, .dead, .dead, .dead, .dead, .dead, .dead, .dead, .dead, .dead, .dead, .dead, .dead, .dead, .dead, .dead, .dead, .dead, .dead, .dead, .dead, .dead, .dead, .dead, .dead, .dead, .dead, .dead, .dead, .dead, .dead, .dead, .dead, .dead, .dead, .dead, .dead, .dead, .dead, .dead, .dead, .dead, .dead, .dead, .dead, .dead, .dead, .dead, .dead, .dead, .dead, .dead, .dead, .dead, .dead, .dead, .dead, .dead, .dead, .dead, .dead, .dead, .dead, .dead, .dead, .dead, .dead, .dead, .dead, .dead, .dead, .dead, .dead], [], [.box [.int .i64, .str, .str, .sl (.str (.int .i64 (.nil))), .int .i64, .int .i64, .int .i64, .int .i64, .int .i64, .int .i64, .sl (.int .i64 (.nil))], .box [.str, .sl (.int .i64 (.int .i64 (.int .i64 (.int .i64 (.int .i64 (.int .i64 (.nil)))))))]])⟩ else if p = [true, true, true] then ⟨[2, 3], [], [], [], 0, [], [], some ([.dead, .dead, .ref 0 0, .ref 1 0, .dead, .dead, .dead, .dead, .dead, .dead, .dead, .dead, .dead, .dead, .dead, .dead, .dead, .dead, .dead, .dead, .dead, .dead, .dead, .dead, .dead, .dead, .dead, .dead, .dead, .dead, .dead, .dead, .dead, .dead, .dead, .dead, .dead, .dead, .dead, .dead, .dead, .dead, .dead, .dead, .dead, .dead, .dead, .dead, .dead, .dead, .dead, .dead, .dead, .dead, .dead, .dead, .dead, .dead, .dead, .dead, .dead, .dead, .dead, .dead, .dead, .dead, .dead, .dead, .dead, .dead, .dead, .dead, .dead, .dead, .dead, .dead, .dead, .dead, .dead, .dead, .dead, .dead, .dead, .dead, .dead, .dead, .dead, .dead, .dead, .dead, .dead, .dead, .dead, .dead, .dead, .dead, .dead, .dead, .dead, .dead, .dead, .dead, .dead, .dead, .dead], [], [.box [.int .i64, .str, .str, .sl (.str (.int .i64 (.nil))), .int .i64, .int .i64, .int .i64, .int .i64, .int .i64, .int .i64, .sl (.int .i64 (.nil))], .box [.str, .sl (.int .i64 (.int .i64 (.int .i64 (.int .i64 (.int .i64 (.int .i64 (.nil)))))))]])⟩ else if p = [false, true, true, true, true, true] then ⟨[], [], [], [], 2, [], [], none⟩ else if p = [false, true, true] then ⟨[], [], [], [], 2, [], [], none⟩ else ⟨[], [], [], [], 0, [], [], none⟩) else ⟨[], [], [], [], 0, [], [], none⟩

noncomputable def draymanlaw24_SagaRules_loops {α : Type} (saga_Holds : saga_Holds_T α) (saga_Keeps : saga_Keeps_T α) (saga_Live : saga_Live_T α) (draymanlaw24_awake : draymanlaw24_awake_T α) (saga_Back : saga_Back_T α) (saga_Bound : saga_Bound_T α) (draymanref24_Few : draymanref24_Few_T α) (draymanref21_Few : draymanref21_Few_T α) (saga_Fit : saga_Fit_T α) : List (LoopSpec α) := []

theorem draymanlaw24_SagaRules_ev {α : Type} (saga_Holds : saga_Holds_T α) (saga_Keeps : saga_Keeps_T α) (saga_Live : saga_Live_T α) (draymanlaw24_awake : draymanlaw24_awake_T α) (saga_Back : saga_Back_T α) (saga_Bound : saga_Bound_T α) (draymanref24_Few : draymanref24_Few_T α) (draymanref21_Few : draymanref21_Few_T α) (saga_Fit : saga_Fit_T α) : EvOk (α := α) Go.Proofs.Tryd.prog (envOf (draymanlaw24_SagaRules_C saga_Holds saga_Keeps saga_Live draymanlaw24_awake saga_Back saga_Bound draymanref24_Few draymanref21_Few saga_Fit) draymanlaw24_SagaRules_q draymanlaw24_SagaRules_inl 1000 draymanlaw24_SagaRules_ann false (draymanlaw24_SagaRules_loops saga_Holds saga_Keeps saga_Live draymanlaw24_awake saga_Back saga_Bound draymanref24_Few draymanref21_Few saga_Fit) (fun _ => none)) 6 (draymanlaw24_SagaRules_sp (draymanlaw24_SagaRules_g saga_Holds saga_Keeps saga_Live draymanlaw24_awake saga_Back saga_Bound draymanref24_Few draymanref21_Few saga_Fit)) := by intro ds k; kernel_rfl

theorem draymanlaw24_SagaRules_ok {α : Type} : (draymanlaw24_SagaRules_spec : FunSpec α).ok Go.Proofs.Tryd.prog :=
  FunSpec.ok_of (sp := draymanlaw24_SagaRules_spec) (C := draymanlaw24_SagaRules_C saga_Holds saga_Keeps saga_Live draymanlaw24_awake saga_Back saga_Bound draymanref24_Few draymanref21_Few saga_Fit) (q := draymanlaw24_SagaRules_q) (inl := draymanlaw24_SagaRules_inl) (N := 1000) (ann := draymanlaw24_SagaRules_ann) (fr := false) (D := 6) (l := (draymanlaw24_SagaRules_loops saga_Holds saga_Keeps saga_Live draymanlaw24_awake saga_Back saga_Bound draymanref24_Few draymanref21_Few saga_Fit)) (hk := (fun _ => none)) (okCons saga_Holds_ok (okCons saga_Keeps_ok (okCons saga_Live_ok (okCons draymanlaw24_awake_ok (okCons saga_Back_ok (okCons saga_Bound_ok (okCons draymanref24_Few_ok (okCons draymanref21_Few_ok (okCons saga_Fit_ok okNil))))))))) lokNil noHooks (draymanlaw24_SagaRules_ev saga_Holds saga_Keeps saga_Live draymanlaw24_awake saga_Back saga_Bound draymanref24_Few draymanref21_Few saga_Fit)

end
end Go.Rv.Tryd
