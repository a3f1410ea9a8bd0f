/- What the functions of the program compute, each with the proof that its code computes it. Written by a program (rvp2.py). -/
import Derived.Test.YtmoeohjaafpmgaaDoorProg
import Derived.Test.YtmoeohjaafpmgaaDoorRvP
import Derived.Test.YtmoeohjaafpmgaaDoorFx
import Derived.Test.YtmoeohjaafpmgaaDoorUtf8
import Derived.Test.YtmoeohjaafpmgaaDoorE2

set_option linter.unusedVariables false
set_option maxRecDepth 100000
set_option maxHeartbeats 4000000
namespace Go.Rv.Tryd
open Go Go.Rv Go.RowKit
noncomputable section

-- slices.EqualFunc[[]drayman/api.Hold,[]drayman/api.Hold,drayman/api.Hold,drayman/api.Hold]

abbrev slices_EqualFunc_api_Hold_api_Hold_api_Hold_api_Hold_T (α : Type) : Type := (Seq (Int × (Seq (ByteArray × Int × Unit)) × Int × Unit)) → (Seq (Int × (Seq (ByteArray × Int × Unit)) × Int × Unit)) → (Bool → Option α) → Option α

noncomputable def slices_EqualFunc_api_Hold_api_Hold_api_Hold_api_Hold_l0_step {α : Type} (holds_Same_1 : holds_Same_1_T α) (kr : (Bool) → Option α) (k0 : Option α) (rec : (Seq (Int × (Seq (ByteArray × Int × Unit)) × Int × Unit)) → (Seq (Int × (Seq (ByteArray × Int × Unit)) × Int × Unit)) → (Int) → (Int) → Option α) (x3 : Seq (Int × (Seq (ByteArray × Int × Unit)) × Int × Unit)) (x4 : Seq (Int × (Seq (ByteArray × Int × Unit)) × Int × Unit)) (x5 : Int) (x6 : Int) : Option α :=
  (cond (decide (x6 < x5))
    (cond ((decide ((0 : Int) ≤ x6)) && (decide (x6 < (x4.n : Int))))
      (cond ((decide ((0 : Int) ≤ x6)) && (decide (x6 < (x3.n : Int))))
        (holds_Same_1 (x4.g x6.toNat) (x3.g x6.toNat) fun r7 =>
          (cond (!r7)
            (kr false)
            (rec x3 x4 x5 (IntKind.i64.wrap (x6 + 1)))))
        none)
      none)
    (k0))

noncomputable def slices_EqualFunc_api_Hold_api_Hold_api_Hold_api_Hold_l0_run {α : Type} (holds_Same_1 : holds_Same_1_T α) (kr : (Bool) → Option α) (k0 : Option α) : Nat → (Seq (Int × (Seq (ByteArray × Int × Unit)) × Int × Unit)) → (Seq (Int × (Seq (ByteArray × Int × Unit)) × Int × Unit)) → (Int) → (Int) → Option α
  | 0, _, _, _, _ => none
  | n + 1, x3, x4, x5, x6 => slices_EqualFunc_api_Hold_api_Hold_api_Hold_api_Hold_l0_step holds_Same_1 kr k0 (fun x3 x4 x5 x6 => slices_EqualFunc_api_Hold_api_Hold_api_Hold_api_Hold_l0_run holds_Same_1 kr k0 n x3 x4 x5 x6) x3 x4 x5 x6

noncomputable def slices_EqualFunc_api_Hold_api_Hold_api_Hold_api_Hold_g {α : Type} (holds_Same_1 : holds_Same_1_T α) (x1 : Seq (Int × (Seq (ByteArray × Int × Unit)) × Int × Unit)) (x2 : Seq (Int × (Seq (ByteArray × Int × Unit)) × Int × Unit)) (k : Bool → Option α) : Option α :=
  (cond ((x1.n : Int) != (x2.n : Int))
    (k false)
    (slices_EqualFunc_api_Hold_api_Hold_api_Hold_api_Hold_l0_run holds_Same_1
      (fun x8 =>
        (k x8))
      ((k true))
      1000 x2 x1 (x1.n : Int) 0))

noncomputable def slices_EqualFunc_api_Hold_api_Hold_api_Hold_api_Hold {α : Type} : slices_EqualFunc_api_Hold_api_Hold_api_Hold_api_Hold_T α := slices_EqualFunc_api_Hold_api_Hold_api_Hold_api_Hold_g holds_Same_1

noncomputable def slices_EqualFunc_api_Hold_api_Hold_api_Hold_api_Hold_sp {α : Type} (slices_EqualFunc_api_Hold_api_Hold_api_Hold_api_Hold : slices_EqualFunc_api_Hold_api_Hold_api_Hold_api_Hold_T α) : FunSpec α := ⟨70, [.sl (.int .i64 (.sl (.str (.int .i64 (.nil))) (.int .i64 (.nil)))), .sl (.int .i64 (.sl (.str (.int .i64 (.nil))) (.int .i64 (.nil)))), .func (.func 71) [] []], [], fun ds k => slices_EqualFunc_api_Hold_api_Hold_api_Hold_api_Hold (hdQ (.int .i64 (.sl (.str (.int .i64 (.nil))) (.int .i64 (.nil)))) ds) (hdQ (.int .i64 (.sl (.str (.int .i64 (.nil))) (.int .i64 (.nil)))) ds.tail) (fun r1 => k (enc dep (.bool) [.b r1]).1 [])⟩

noncomputable def slices_EqualFunc_api_Hold_api_Hold_api_Hold_api_Hold_spec {α : Type} : FunSpec α := slices_EqualFunc_api_Hold_api_Hold_api_Hold_api_Hold_sp slices_EqualFunc_api_Hold_api_Hold_api_Hold_api_Hold

noncomputable def slices_EqualFunc_api_Hold_api_Hold_api_Hold_api_Hold_C {α : Type} (holds_Same_1 : holds_Same_1_T α) : List (FunSpec α) := [holds_Same_1_sp holds_Same_1]

noncomputable def slices_EqualFunc_api_Hold_api_Hold_api_Hold_api_Hold_q : FuncId → Bool := fun f => Nat.beq f 71

noncomputable def slices_EqualFunc_api_Hold_api_Hold_api_Hold_api_Hold_inl : FuncId → Bool := fun f => false

noncomputable def slices_EqualFunc_api_Hold_api_Hold_api_Hold_api_Hold_ann : FuncId → AnnT := fun f p => if f = 70 then (if p = [true, false, true, true] then ⟨[1, 2, 15, 16, 17], [], [], [6], 0, [], [], none⟩ else ⟨[], [], [], [], 0, [], [], none⟩) else ⟨[], [], [], [], 0, [], [], none⟩

noncomputable def slices_EqualFunc_api_Hold_api_Hold_api_Hold_api_Hold_l0_t : List Sh := [.dead, .sl (.int .i64 (.sl (.str (.int .i64 (.nil))) (.int .i64 (.nil)))), .func (.func 71) [] [], .dead, .dead, .dead, .dead, .dead, .dead, .dead, .dead, .dead, .dead, .dead, .dead, .sl (.int .i64 (.sl (.str (.int .i64 (.nil))) (.int .i64 (.nil)))), .int .i64, .int .i64, .dead, .dead, .dead, .dead, .dead, .dead, .dead, .dead, .dead, .dead, .dead, .dead, .dead, .dead]
noncomputable def slices_EqualFunc_api_Hold_api_Hold_api_Hold_api_Hold_l0_s : List (List Sh) := []
noncomputable def slices_EqualFunc_api_Hold_api_Hold_api_Hold_api_Hold_l0_h : List BSh := []

noncomputable def slices_EqualFunc_api_Hold_api_Hold_api_Hold_api_Hold_l0_spec {α : Type} (holds_Same_1 : holds_Same_1_T α) : LoopSpec α := ⟨6, 70, [true, false, true, true], slices_EqualFunc_api_Hold_api_Hold_api_Hold_api_Hold_l0_t, slices_EqualFunc_api_Hold_api_Hold_api_Hold_api_Hold_l0_s, slices_EqualFunc_api_Hold_api_Hold_api_Hold_api_Hold_l0_h, fun ds k => slices_EqualFunc_api_Hold_api_Hold_api_Hold_api_Hold_l0_run holds_Same_1 (fun y1 => k .ret (encSt [.dead, .dead, .dead, .dead, .dead, .dead, .bool, .dead, .dead, .dead, .dead, .dead, .dead, .dead, .dead, .dead, .dead, .dead, .dead, .dead, .dead, .dead, .dead, .dead, .dead, .dead, .dead, .dead, .dead, .dead, .dead, .dead] [] [] [.b y1])) (k (.exit 0) (encSt [.dead, .dead, .dead, .dead, .dead, .dead, .dead, .dead, .dead, .dead, .dead, .dead, .dead, .dead, .dead, .dead, .dead, .dead, .dead, .dead, .dead, .dead, .dead, .dead, .dead, .dead, .dead, .dead, .dead, .dead, .dead, .dead] [] [] [])) 1000 (hdQ (.int .i64 (.sl (.str (.int .i64 (.nil))) (.int .i64 (.nil)))) ds) (hdQ (.int .i64 (.sl (.str (.int .i64 (.nil))) (.int .i64 (.nil)))) ds.tail) (hdI ds.tail.tail) (hdI ds.tail.tail.tail)⟩

noncomputable def slices_EqualFunc_api_Hold_api_Hold_api_Hold_api_Hold_loops {α : Type} (holds_Same_1 : holds_Same_1_T α) : List (LoopSpec α) := [slices_EqualFunc_api_Hold_api_Hold_api_Hold_api_Hold_l0_spec holds_Same_1]

noncomputable def slices_EqualFunc_api_Hold_api_Hold_api_Hold_api_Hold_l0_ev {α : Type} (holds_Same_1 : holds_Same_1_T α) (n : Nat) (st : St) (k : X → St → Option α) : Option α := loopN (evCode Go.Proofs.Tryd.prog (callD Go.Proofs.Tryd.prog (envOf (slices_EqualFunc_api_Hold_api_Hold_api_Hold_api_Hold_C holds_Same_1) slices_EqualFunc_api_Hold_api_Hold_api_Hold_api_Hold_q slices_EqualFunc_api_Hold_api_Hold_api_Hold_api_Hold_inl 1000 slices_EqualFunc_api_Hold_api_Hold_api_Hold_api_Hold_ann false (slices_EqualFunc_api_Hold_api_Hold_api_Hold_api_Hold_loops holds_Same_1) (fun _ => none)) 6) (((envOf (slices_EqualFunc_api_Hold_api_Hold_api_Hold_api_Hold_C holds_Same_1) slices_EqualFunc_api_Hold_api_Hold_api_Hold_api_Hold_q slices_EqualFunc_api_Hold_api_Hold_api_Hold_api_Hold_inl 1000 slices_EqualFunc_api_Hold_api_Hold_api_Hold_api_Hold_ann false (slices_EqualFunc_api_Hold_api_Hold_api_Hold_api_Hold_loops holds_Same_1) (fun _ => none)) : Env α).L 6 70) 1000 (slices_EqualFunc_api_Hold_api_Hold_api_Hold_api_Hold_ann 70) (false :: [true, false, true, true]) (loopC Go.Proofs.Tryd.prog 70 [true, false, true, true])) ((slices_EqualFunc_api_Hold_api_Hold_api_Hold_api_Hold_ann 70 [true, false, true, true]).head 0) ((slices_EqualFunc_api_Hold_api_Hold_api_Hold_api_Hold_ann 70 [true, false, true, true]).leave 0) n st k

theorem slices_EqualFunc_api_Hold_api_Hold_api_Hold_api_Hold_l0_eq {α : Type} (holds_Same_1 : holds_Same_1_T α) : ∀ (n : Nat) (x3 : Seq (Int × (Seq (ByteArray × Int × Unit)) × Int × Unit)) (x4 : Seq (Int × (Seq (ByteArray × Int × Unit)) × Int × Unit)) (x5 : Int) (x6 : Int) (k : X → St → Option α), slices_EqualFunc_api_Hold_api_Hold_api_Hold_api_Hold_l0_ev holds_Same_1 n (encSt slices_EqualFunc_api_Hold_api_Hold_api_Hold_api_Hold_l0_t slices_EqualFunc_api_Hold_api_Hold_api_Hold_api_Hold_l0_s slices_EqualFunc_api_Hold_api_Hold_api_Hold_api_Hold_l0_h [.q (.int .i64 (.sl (.str (.int .i64 (.nil))) (.int .i64 (.nil)))) x3, .q (.int .i64 (.sl (.str (.int .i64 (.nil))) (.int .i64 (.nil)))) x4, .i x5, .i x6]) k = slices_EqualFunc_api_Hold_api_Hold_api_Hold_api_Hold_l0_run holds_Same_1 (fun y1 => k .ret (encSt [.dead, .dead, .dead, .dead, .dead, .dead, .bool, .dead, .dead, .dead, .dead, .dead, .dead, .dead, .dead, .dead, .dead, .dead, .dead, .dead, .dead, .dead, .dead, .dead, .dead, .dead, .dead, .dead, .dead, .dead, .dead, .dead] [] [] [.b y1])) (k (.exit 0) (encSt [.dead, .dead, .dead, .dead, .dead, .dead, .dead, .dead, .dead, .dead, .dead, .dead, .dead, .dead, .dead, .dead, .dead, .dead, .dead, .dead, .dead, .dead, .dead, .dead, .dead, .dead, .dead, .dead, .dead, .dead, .dead, .dead] [] [] [])) n x3 x4 x5 x6 := by
  intro n
  induction n with
  | zero => intros; kernel_rfl
  | succ n ih =>
    intro x3 x4 x5 x6 k
    have e : (fun (x3 : Seq (Int × (Seq (ByteArray × Int × Unit)) × Int × Unit)) (x4 : Seq (Int × (Seq (ByteArray × Int × Unit)) × Int × Unit)) (x5 : Int) (x6 : Int) => slices_EqualFunc_api_Hold_api_Hold_api_Hold_api_Hold_l0_ev holds_Same_1 n (encSt slices_EqualFunc_api_Hold_api_Hold_api_Hold_api_Hold_l0_t slices_EqualFunc_api_Hold_api_Hold_api_Hold_api_Hold_l0_s slices_EqualFunc_api_Hold_api_Hold_api_Hold_api_Hold_l0_h [.q (.int .i64 (.sl (.str (.int .i64 (.nil))) (.int .i64 (.nil)))) x3, .q (.int .i64 (.sl (.str (.int .i64 (.nil))) (.int .i64 (.nil)))) x4, .i x5, .i x6]) k) = (fun (x3 : Seq (Int × (Seq (ByteArray × Int × Unit)) × Int × Unit)) (x4 : Seq (Int × (Seq (ByteArray × Int × Unit)) × Int × Unit)) (x5 : Int) (x6 : Int) => slices_EqualFunc_api_Hold_api_Hold_api_Hold_api_Hold_l0_run holds_Same_1 (fun y1 => k .ret (encSt [.dead, .dead, .dead, .dead, .dead, .dead, .bool, .dead, .dead, .dead, .dead, .dead, .dead, .dead, .dead, .dead, .dead, .dead, .dead, .dead, .dead, .dead, .dead, .dead, .dead, .dead, .dead, .dead, .dead, .dead, .dead, .dead] [] [] [.b y1])) (k (.exit 0) (encSt [.dead, .dead, .dead, .dead, .dead, .dead, .dead, .dead, .dead, .dead, .dead, .dead, .dead, .dead, .dead, .dead, .dead, .dead, .dead, .dead, .dead, .dead, .dead, .dead, .dead, .dead, .dead, .dead, .dead, .dead, .dead, .dead] [] [] [])) n x3 x4 x5 x6) := by
      funext x3 x4 x5 x6
      exact ih x3 x4 x5 x6 k
    have h1 : slices_EqualFunc_api_Hold_api_Hold_api_Hold_api_Hold_l0_ev holds_Same_1 (n + 1) (encSt slices_EqualFunc_api_Hold_api_Hold_api_Hold_api_Hold_l0_t slices_EqualFunc_api_Hold_api_Hold_api_Hold_api_Hold_l0_s slices_EqualFunc_api_Hold_api_Hold_api_Hold_api_Hold_l0_h [.q (.int .i64 (.sl (.str (.int .i64 (.nil))) (.int .i64 (.nil)))) x3, .q (.int .i64 (.sl (.str (.int .i64 (.nil))) (.int .i64 (.nil)))) x4, .i x5, .i x6]) k = slices_EqualFunc_api_Hold_api_Hold_api_Hold_api_Hold_l0_step holds_Same_1 (fun y1 => k .ret (encSt [.dead, .dead, .dead, .dead, .dead, .dead, .bool, .dead, .dead, .dead, .dead, .dead, .dead, .dead, .dead, .dead, .dead, .dead, .dead, .dead, .dead, .dead, .dead, .dead, .dead, .dead, .dead, .dead, .dead, .dead, .dead, .dead] [] [] [.b y1])) (k (.exit 0) (encSt [.dead, .dead, .dead, .dead, .dead, .dead, .dead, .dead, .dead, .dead, .dead, .dead, .dead, .dead, .dead, .dead, .dead, .dead, .dead, .dead, .dead, .dead, .dead, .dead, .dead, .dead, .dead, .dead, .dead, .dead, .dead, .dead] [] [] [])) (fun (x3 : Seq (Int × (Seq (ByteArray × Int × Unit)) × Int × Unit)) (x4 : Seq (Int × (Seq (ByteArray × Int × Unit)) × Int × Unit)) (x5 : Int) (x6 : Int) => slices_EqualFunc_api_Hold_api_Hold_api_Hold_api_Hold_l0_ev holds_Same_1 n (encSt slices_EqualFunc_api_Hold_api_Hold_api_Hold_api_Hold_l0_t slices_EqualFunc_api_Hold_api_Hold_api_Hold_api_Hold_l0_s slices_EqualFunc_api_Hold_api_Hold_api_Hold_api_Hold_l0_h [.q (.int .i64 (.sl (.str (.int .i64 (.nil))) (.int .i64 (.nil)))) x3, .q (.int .i64 (.sl (.str (.int .i64 (.nil))) (.int .i64 (.nil)))) x4, .i x5, .i x6]) k) x3 x4 x5 x6 := by kernel_rfl
    have h2 := congrArg (fun r => slices_EqualFunc_api_Hold_api_Hold_api_Hold_api_Hold_l0_step holds_Same_1 (fun y1 => k .ret (encSt [.dead, .dead, .dead, .dead, .dead, .dead, .bool, .dead, .dead, .dead, .dead, .dead, .dead, .dead, .dead, .dead, .dead, .dead, .dead, .dead, .dead, .dead, .dead, .dead, .dead, .dead, .dead, .dead, .dead, .dead, .dead, .dead] [] [] [.b y1])) (k (.exit 0) (encSt [.dead, .dead, .dead, .dead, .dead, .dead, .dead, .dead, .dead, .dead, .dead, .dead, .dead, .dead, .dead, .dead, .dead, .dead, .dead, .dead, .dead, .dead, .dead, .dead, .dead, .dead, .dead, .dead, .dead, .dead, .dead, .dead] [] [] [])) r x3 x4 x5 x6) e
    have h3 : slices_EqualFunc_api_Hold_api_Hold_api_Hold_api_Hold_l0_step holds_Same_1 (fun y1 => k .ret (encSt [.dead, .dead, .dead, .dead, .dead, .dead, .bool, .dead, .dead, .dead, .dead, .dead, .dead, .dead, .dead, .dead, .dead, .dead, .dead, .dead, .dead, .dead, .dead, .dead, .dead, .dead, .dead, .dead, .dead, .dead, .dead, .dead] [] [] [.b y1])) (k (.exit 0) (encSt [.dead, .dead, .dead, .dead, .dead, .dead, .dead, .dead, .dead, .dead, .dead, .dead, .dead, .dead, .dead, .dead, .dead, .dead, .dead, .dead, .dead, .dead, .dead, .dead, .dead, .dead, .dead, .dead, .dead, .dead, .dead, .dead] [] [] [])) (fun (x3 : Seq (Int × (Seq (ByteArray × Int × Unit)) × Int × Unit)) (x4 : Seq (Int × (Seq (ByteArray × Int × Unit)) × Int × Unit)) (x5 : Int) (x6 : Int) => slices_EqualFunc_api_Hold_api_Hold_api_Hold_api_Hold_l0_run holds_Same_1 (fun y1 => k .ret (encSt [.dead, .dead, .dead, .dead, .dead, .dead, .bool, .dead, .dead, .dead, .dead, .dead, .dead, .dead, .dead, .dead, .dead, .dead, .dead, .dead, .dead, .dead, .dead, .dead, .dead, .dead, .dead, .dead, .dead, .dead, .dead, .dead] [] [] [.b y1])) (k (.exit 0) (encSt [.dead, .dead, .dead, .dead, .dead, .dead, .dead, .dead, .dead, .dead, .dead, .dead, .dead, .dead, .dead, .dead, .dead, .dead, .dead, .dead, .dead, .dead, .dead, .dead, .dead, .dead, .dead, .dead, .dead, .dead, .dead, .dead] [] [] [])) n x3 x4 x5 x6) x3 x4 x5 x6 = slices_EqualFunc_api_Hold_api_Hold_api_Hold_api_Hold_l0_run holds_Same_1 (fun y1 => k .ret (encSt [.dead, .dead, .dead, .dead, .dead, .dead, .bool, .dead, .dead, .dead, .dead, .dead, .dead, .dead, .dead, .dead, .dead, .dead, .dead, .dead, .dead, .dead, .dead, .dead, .dead, .dead, .dead, .dead, .dead, .dead, .dead, .dead] [] [] [.b y1])) (k (.exit 0) (encSt [.dead, .dead, .dead, .dead, .dead, .dead, .dead, .dead, .dead, .dead, .dead, .dead, .dead, .dead, .dead, .dead, .dead, .dead, .dead, .dead, .dead, .dead, .dead, .dead, .dead, .dead, .dead, .dead, .dead, .dead, .dead, .dead] [] [] [])) (n + 1) x3 x4 x5 x6 := by kernel_rfl
    exact h1.trans (h2.trans h3)

theorem slices_EqualFunc_api_Hold_api_Hold_api_Hold_api_Hold_l0_ok {α : Type} (holds_Same_1 : holds_Same_1_T α) : (slices_EqualFunc_api_Hold_api_Hold_api_Hold_api_Hold_l0_spec holds_Same_1 : LoopSpec α).ok Go.Proofs.Tryd.prog (envOf (slices_EqualFunc_api_Hold_api_Hold_api_Hold_api_Hold_C holds_Same_1) slices_EqualFunc_api_Hold_api_Hold_api_Hold_api_Hold_q slices_EqualFunc_api_Hold_api_Hold_api_Hold_api_Hold_inl 1000 slices_EqualFunc_api_Hold_api_Hold_api_Hold_api_Hold_ann false (slices_EqualFunc_api_Hold_api_Hold_api_Hold_api_Hold_loops holds_Same_1) (fun _ => none)) := by
  intro ds k
  have h1 : slices_EqualFunc_api_Hold_api_Hold_api_Hold_api_Hold_l0_ev holds_Same_1 1000 (encSt slices_EqualFunc_api_Hold_api_Hold_api_Hold_api_Hold_l0_t slices_EqualFunc_api_Hold_api_Hold_api_Hold_api_Hold_l0_s slices_EqualFunc_api_Hold_api_Hold_api_Hold_api_Hold_l0_h ds) k = slices_EqualFunc_api_Hold_api_Hold_api_Hold_api_Hold_l0_ev holds_Same_1 1000 (encSt slices_EqualFunc_api_Hold_api_Hold_api_Hold_api_Hold_l0_t slices_EqualFunc_api_Hold_api_Hold_api_Hold_api_Hold_l0_s slices_EqualFunc_api_Hold_api_Hold_api_Hold_api_Hold_l0_h [.q (.int .i64 (.sl (.str (.int .i64 (.nil))) (.int .i64 (.nil)))) (hdQ (.int .i64 (.sl (.str (.int .i64 (.nil))) (.int .i64 (.nil)))) ds), .q (.int .i64 (.sl (.str (.int .i64 (.nil))) (.int .i64 (.nil)))) (hdQ (.int .i64 (.sl (.str (.int .i64 (.nil))) (.int .i64 (.nil)))) ds.tail), .i (hdI ds.tail.tail), .i (hdI ds.tail.tail.tail)]) k := by kernel_rfl
  have h2 := slices_EqualFunc_api_Hold_api_Hold_api_Hold_api_Hold_l0_eq holds_Same_1 1000 (hdQ (.int .i64 (.sl (.str (.int .i64 (.nil))) (.int .i64 (.nil)))) ds) (hdQ (.int .i64 (.sl (.str (.int .i64 (.nil))) (.int .i64 (.nil)))) ds.tail) (hdI ds.tail.tail) (hdI ds.tail.tail.tail) k
  exact h1.trans h2

theorem slices_EqualFunc_api_Hold_api_Hold_api_Hold_api_Hold_ev {α : Type} (holds_Same_1 : holds_Same_1_T α) : EvOk (α := α) Go.Proofs.Tryd.prog (envOf (slices_EqualFunc_api_Hold_api_Hold_api_Hold_api_Hold_C holds_Same_1) slices_EqualFunc_api_Hold_api_Hold_api_Hold_api_Hold_q slices_EqualFunc_api_Hold_api_Hold_api_Hold_api_Hold_inl 1000 slices_EqualFunc_api_Hold_api_Hold_api_Hold_api_Hold_ann false (slices_EqualFunc_api_Hold_api_Hold_api_Hold_api_Hold_loops holds_Same_1) (fun _ => none)) 6 (slices_EqualFunc_api_Hold_api_Hold_api_Hold_api_Hold_sp (slices_EqualFunc_api_Hold_api_Hold_api_Hold_api_Hold_g holds_Same_1)) := by intro ds k; kernel_rfl

theorem slices_EqualFunc_api_Hold_api_Hold_api_Hold_api_Hold_ok {α : Type} : (slices_EqualFunc_api_Hold_api_Hold_api_Hold_api_Hold_spec : FunSpec α).ok Go.Proofs.Tryd.prog :=
  FunSpec.ok_of (sp := slices_EqualFunc_api_Hold_api_Hold_api_Hold_api_Hold_spec) (C := slices_EqualFunc_api_Hold_api_Hold_api_Hold_api_Hold_C holds_Same_1) (q := slices_EqualFunc_api_Hold_api_Hold_api_Hold_api_Hold_q) (inl := slices_EqualFunc_api_Hold_api_Hold_api_Hold_api_Hold_inl) (N := 1000) (ann := slices_EqualFunc_api_Hold_api_Hold_api_Hold_api_Hold_ann) (fr := false) (D := 6) (l := (slices_EqualFunc_api_Hold_api_Hold_api_Hold_api_Hold_loops holds_Same_1)) (hk := (fun _ => none)) (okCons holds_Same_1_ok okNil) (lokCons (slices_EqualFunc_api_Hold_api_Hold_api_Hold_api_Hold_l0_ok holds_Same_1) lokNil) noHooks (slices_EqualFunc_api_Hold_api_Hold_api_Hold_api_Hold_ev holds_Same_1)

end
end Go.Rv.Tryd

set_option linter.unusedVariables false
set_option maxRecDepth 100000
set_option maxHeartbeats 4000000
namespace Go.Rv.Tryd
open Go Go.Rv Go.RowKit
noncomputable section

-- drayman/holds.Same

abbrev holds_Same_T (α : Type) : Type := (Seq (Int × (Seq (ByteArray × Int × Unit)) × Int × Unit)) → (Seq (Int × (Seq (ByteArray × Int × Unit)) × Int × Unit)) → (Bool → Option α) → Option α

noncomputable def holds_Same_g {α : Type} (slices_EqualFunc_api_Hold_api_Hold_api_Hold_api_Hold : slices_EqualFunc_api_Hold_api_Hold_api_Hold_api_Hold_T α) (a1 : Seq (Int × (Seq (ByteArray × Int × Unit)) × Int × Unit)) (b2 : Seq (Int × (Seq (ByteArray × Int × Unit)) × Int × Unit)) (k : Bool → Option α) : Option α :=
  (slices_EqualFunc_api_Hold_api_Hold_api_Hold_api_Hold a1 b2 fun r3 =>
    (k r3))

noncomputable def holds_Same {α : Type} : holds_Same_T α := holds_Same_g slices_EqualFunc_api_Hold_api_Hold_api_Hold_api_Hold

noncomputable def holds_Same_sp {α : Type} (holds_Same : holds_Same_T α) : FunSpec α := ⟨39, [.sl (.int .i64 (.sl (.str (.int .i64 (.nil))) (.int .i64 (.nil)))), .sl (.int .i64 (.sl (.str (.int .i64 (.nil))) (.int .i64 (.nil))))], [], fun ds k => holds_Same (hdQ (.int .i64 (.sl (.str (.int .i64 (.nil))) (.int .i64 (.nil)))) ds) (hdQ (.int .i64 (.sl (.str (.int .i64 (.nil))) (.int .i64 (.nil)))) ds.tail) (fun r1 => k (enc dep (.bool) [.b r1]).1 [])⟩

noncomputable def holds_Same_spec {α : Type} : FunSpec α := holds_Same_sp holds_Same

noncomputable def holds_Same_C {α : Type} (slices_EqualFunc_api_Hold_api_Hold_api_Hold_api_Hold : slices_EqualFunc_api_Hold_api_Hold_api_Hold_api_Hold_T α) : List (FunSpec α) := [slices_EqualFunc_api_Hold_api_Hold_api_Hold_api_Hold_sp slices_EqualFunc_api_Hold_api_Hold_api_Hold_api_Hold]

noncomputable def holds_Same_q : FuncId → Bool := fun f => Nat.beq f 70

noncomputable def holds_Same_inl : FuncId → Bool := fun f => false

noncomputable def holds_Same_ann : FuncId → AnnT := fun f p => ⟨[], [], [], [], 0, [], [], none⟩

noncomputable def holds_Same_loops {α : Type} (slices_EqualFunc_api_Hold_api_Hold_api_Hold_api_Hold : slices_EqualFunc_api_Hold_api_Hold_api_Hold_api_Hold_T α) : List (LoopSpec α) := []

theorem holds_Same_ev {α : Type} (slices_EqualFunc_api_Hold_api_Hold_api_Hold_api_Hold : slices_EqualFunc_api_Hold_api_Hold_api_Hold_api_Hold_T α) : EvOk (α := α) Go.Proofs.Tryd.prog (envOf (holds_Same_C slices_EqualFunc_api_Hold_api_Hold_api_Hold_api_Hold) holds_Same_q holds_Same_inl 1000 holds_Same_ann false (holds_Same_loops slices_EqualFunc_api_Hold_api_Hold_api_Hold_api_Hold) (fun _ => none)) 6 (holds_Same_sp (holds_Same_g slices_EqualFunc_api_Hold_api_Hold_api_Hold_api_Hold)) := by intro ds k; kernel_rfl

theorem holds_Same_ok {α : Type} : (holds_Same_spec : FunSpec α).ok Go.Proofs.Tryd.prog :=
  FunSpec.ok_of (sp := holds_Same_spec) (C := holds_Same_C slices_EqualFunc_api_Hold_api_Hold_api_Hold_api_Hold) (q := holds_Same_q) (inl := holds_Same_inl) (N := 1000) (ann := holds_Same_ann) (fr := false) (D := 6) (l := (holds_Same_loops slices_EqualFunc_api_Hold_api_Hold_api_Hold_api_Hold)) (hk := (fun _ => none)) (okCons slices_EqualFunc_api_Hold_api_Hold_api_Hold_api_Hold_ok okNil) lokNil noHooks (holds_Same_ev slices_EqualFunc_api_Hold_api_Hold_api_Hold_api_Hold)

end
end Go.Rv.Tryd

set_option linter.unusedVariables false
set_option maxRecDepth 100000
set_option maxHeartbeats 4000000
namespace Go.Rv.Tryd
open Go Go.Rv Go.RowKit
noncomputable section

-- drayman/draymanlaw13.HoldsTell

abbrev draymanlaw13_HoldsTell_T (α : Type) : Type := (Seq (Int × (Seq (ByteArray × Int × Unit)) × Int × Unit)) → (Seq (Int × (Seq (ByteArray × Int × Unit)) × Int × Unit)) → Int → ByteArray → (Bool → Option α) → Option α

noncomputable def draymanlaw13_HoldsTell_g {α : Type} (draymanref13_Few : draymanref13_Few_T α) (draymanlaw13_awake : draymanlaw13_awake_T α) (holds_Find : holds_Find_T α) (draymanref13_Find : draymanref13_Find_T α) (holds_Fit : holds_Fit_T α) (draymanref13_Fit : draymanref13_Fit_T α) (draymanref13_Same : draymanref13_Same_T α) (holds_Total : holds_Total_T α) (draymanref13_Total : draymanref13_Total_T α) (holds_Due : holds_Due_T α) (draymanref13_Due : draymanref13_Due_T α) (draymanref01_Same : draymanref01_Same_T α) (holds_Same : holds_Same_T α) (x1 : Seq (Int × (Seq (ByteArray × Int × Unit)) × Int × Unit)) (x2 : Seq (Int × (Seq (ByteArray × Int × Unit)) × Int × Unit)) (x3 : Int) (x4 : ByteArray) (k : Bool → Option α) : Option α :=
  (draymanref13_Few x1 fun r5 =>
    (cond (!(!r5))
      (draymanref13_Few x2 fun r6 =>
        (cond (!(!r6))
          (cond (decide ((x4.size : Int) > 60))
            (draymanlaw13_awake fun r7 =>
              (k r7))
            (holds_Find x1 x3 fun r8 r9 =>
              (draymanref13_Find x1 x3 fun r10 r11 =>
                (holds_Fit x1 fun r12 =>
                  (draymanref13_Fit x1 fun r13 =>
                    (cond (r12 == r13)
                      (cond (r9 == r11)
                        (draymanref13_Same (⟨false, 1, (fun _ => r8)⟩ : Seq (Int × (Seq (ByteArray × Int × Unit)) × Int × Unit)) (⟨false, 1, (fun _ => r10)⟩ : Seq (Int × (Seq (ByteArray × Int × Unit)) × Int × Unit)) fun r14 =>
                          (cond r14
                            (holds_Total x1 x4 fun r15 =>
                              (draymanref13_Total x1 x4 fun r16 =>
                                (cond (r15 == r16)
                                  (holds_Due x1 x3 fun r17 =>
                                    (draymanref13_Due x1 x3 fun r18 =>
                                      (draymanref01_Same r17 r18 fun r19 =>
                                        (cond r19
                                          (holds_Same x1 x2 fun r20 =>
                                            (draymanref13_Same x1 x2 fun r21 =>
                                              (cond (r20 == r21)
                                                (draymanlaw13_awake fun r22 =>
                                                  (k r22))
                                                (k false))))
                                          (k false)))))
                                  (k false))))
                            (k false)))
                        (k false))
                      (k false)))))))
          (draymanlaw13_awake fun r23 =>
            (k r23))))
      (draymanlaw13_awake fun r24 =>
        (k r24))))

noncomputable def draymanlaw13_HoldsTell {α : Type} : draymanlaw13_HoldsTell_T α := draymanlaw13_HoldsTell_g draymanref13_Few draymanlaw13_awake holds_Find draymanref13_Find holds_Fit draymanref13_Fit draymanref13_Same holds_Total draymanref13_Total holds_Due draymanref13_Due draymanref01_Same holds_Same

noncomputable def draymanlaw13_HoldsTell_sp {α : Type} (draymanlaw13_HoldsTell : draymanlaw13_HoldsTell_T α) : FunSpec α := ⟨8, [.sl (.int .i64 (.sl (.str (.int .i64 (.nil))) (.int .i64 (.nil)))), .sl (.int .i64 (.sl (.str (.int .i64 (.nil))) (.int .i64 (.nil)))), .int .i64, .str], [], fun ds k => draymanlaw13_HoldsTell (hdQ (.int .i64 (.sl (.str (.int .i64 (.nil))) (.int .i64 (.nil)))) ds) (hdQ (.int .i64 (.sl (.str (.int .i64 (.nil))) (.int .i64 (.nil)))) ds.tail) (hdI ds.tail.tail) (hdS ds.tail.tail.tail) (fun r1 => k (enc dep (.bool) [.b r1]).1 [])⟩

noncomputable def draymanlaw13_HoldsTell_spec {α : Type} : FunSpec α := draymanlaw13_HoldsTell_sp draymanlaw13_HoldsTell

noncomputable def draymanlaw13_HoldsTell_C {α : Type} (draymanref13_Few : draymanref13_Few_T α) (draymanlaw13_awake : draymanlaw13_awake_T α) (holds_Find : holds_Find_T α) (draymanref13_Find : draymanref13_Find_T α) (holds_Fit : holds_Fit_T α) (draymanref13_Fit : draymanref13_Fit_T α) (draymanref13_Same : draymanref13_Same_T α) (holds_Total : holds_Total_T α) (draymanref13_Total : draymanref13_Total_T α) (holds_Due : holds_Due_T α) (draymanref13_Due : draymanref13_Due_T α) (draymanref01_Same : draymanref01_Same_T α) (holds_Same : holds_Same_T α) : List (FunSpec α) := [draymanref13_Few_sp draymanref13_Few, draymanlaw13_awake_sp draymanlaw13_awake, holds_Find_sp holds_Find, draymanref13_Find_sp draymanref13_Find, holds_Fit_sp holds_Fit, draymanref13_Fit_sp draymanref13_Fit, draymanref13_Same_sp draymanref13_Same, holds_Total_sp holds_Total, draymanref13_Total_sp draymanref13_Total, holds_Due_sp holds_Due, draymanref13_Due_sp draymanref13_Due, draymanref01_Same_sp draymanref01_Same, holds_Same_sp holds_Same]

noncomputable def draymanlaw13_HoldsTell_q : FuncId → Bool := fun f => Nat.beq f 22 || Nat.beq f 24 || Nat.beq f 29 || Nat.beq f 32 || Nat.beq f 33 || Nat.beq f 34 || Nat.beq f 35 || Nat.beq f 36 || Nat.beq f 39

noncomputable def draymanlaw13_HoldsTell_inl : FuncId → Bool := fun f => false

noncomputable def draymanlaw13_HoldsTell_ann : FuncId → AnnT := fun f p => ⟨[], [], [], [], 0, [], [], none⟩

noncomputable def draymanlaw13_HoldsTell_loops {α : Type} (draymanref13_Few : draymanref13_Few_T α) (draymanlaw13_awake : draymanlaw13_awake_T α) (holds_Find : holds_Find_T α) (draymanref13_Find : draymanref13_Find_T α) (holds_Fit : holds_Fit_T α) (draymanref13_Fit : draymanref13_Fit_T α) (draymanref13_Same : draymanref13_Same_T α) (holds_Total : holds_Total_T α) (draymanref13_Total : draymanref13_Total_T α) (holds_Due : holds_Due_T α) (draymanref13_Due : draymanref13_Due_T α) (draymanref01_Same : draymanref01_Same_T α) (holds_Same : holds_Same_T α) : List (LoopSpec α) := []

theorem draymanlaw13_HoldsTell_ev {α : Type} (draymanref13_Few : draymanref13_Few_T α) (draymanlaw13_awake : draymanlaw13_awake_T α) (holds_Find : holds_Find_T α) (draymanref13_Find : draymanref13_Find_T α) (holds_Fit : holds_Fit_T α) (draymanref13_Fit : draymanref13_Fit_T α) (draymanref13_Same : draymanref13_Same_T α) (holds_Total : holds_Total_T α) (draymanref13_Total : draymanref13_Total_T α) (holds_Due : holds_Due_T α) (draymanref13_Due : draymanref13_Due_T α) (draymanref01_Same : draymanref01_Same_T α) (holds_Same : holds_Same_T α) : EvOk (α := α) Go.Proofs.Tryd.prog (envOf (draymanlaw13_HoldsTell_C draymanref13_Few draymanlaw13_awake holds_Find draymanref13_Find holds_Fit draymanref13_Fit draymanref13_Same holds_Total draymanref13_Total holds_Due draymanref13_Due draymanref01_Same holds_Same) draymanlaw13_HoldsTell_q draymanlaw13_HoldsTell_inl 1000 draymanlaw13_HoldsTell_ann false (draymanlaw13_HoldsTell_loops draymanref13_Few draymanlaw13_awake holds_Find draymanref13_Find holds_Fit draymanref13_Fit draymanref13_Same holds_Total draymanref13_Total holds_Due draymanref13_Due draymanref01_Same holds_Same) (fun _ => none)) 6 (draymanlaw13_HoldsTell_sp (draymanlaw13_HoldsTell_g draymanref13_Few draymanlaw13_awake holds_Find draymanref13_Find holds_Fit draymanref13_Fit draymanref13_Same holds_Total draymanref13_Total holds_Due draymanref13_Due draymanref01_Same holds_Same)) := by intro ds k; kernel_rfl

theorem draymanlaw13_HoldsTell_ok {α : Type} : (draymanlaw13_HoldsTell_spec : FunSpec α).ok Go.Proofs.Tryd.prog :=
  FunSpec.ok_of (sp := draymanlaw13_HoldsTell_spec) (C := draymanlaw13_HoldsTell_C draymanref13_Few draymanlaw13_awake holds_Find draymanref13_Find holds_Fit draymanref13_Fit draymanref13_Same holds_Total draymanref13_Total holds_Due draymanref13_Due draymanref01_Same holds_Same) (q := draymanlaw13_HoldsTell_q) (inl := draymanlaw13_HoldsTell_inl) (N := 1000) (ann := draymanlaw13_HoldsTell_ann) (fr := false) (D := 6) (l := (draymanlaw13_HoldsTell_loops draymanref13_Few draymanlaw13_awake holds_Find draymanref13_Find holds_Fit draymanref13_Fit draymanref13_Same holds_Total draymanref13_Total holds_Due draymanref13_Due draymanref01_Same holds_Same)) (hk := (fun _ => none)) (okCons draymanref13_Few_ok (okCons draymanlaw13_awake_ok (okCons holds_Find_ok (okCons draymanref13_Find_ok (okCons holds_Fit_ok (okCons draymanref13_Fit_ok (okCons draymanref13_Same_ok (okCons holds_Total_ok (okCons draymanref13_Total_ok (okCons holds_Due_ok (okCons draymanref13_Due_ok (okCons draymanref01_Same_ok (okCons holds_Same_ok okNil))))))))))))) lokNil noHooks (draymanlaw13_HoldsTell_ev draymanref13_Few draymanlaw13_awake holds_Find draymanref13_Find holds_Fit draymanref13_Fit draymanref13_Same holds_Total draymanref13_Total holds_Due draymanref13_Due draymanref01_Same holds_Same)

end
end Go.Rv.Tryd

set_option linter.unusedVariables false
set_option maxRecDepth 100000
set_option maxHeartbeats 4000000
namespace Go.Rv.Tryd
open Go Go.Rv Go.RowKit
noncomputable section

-- drayman/num.all

abbrev num_all_T (α : Type) : Type := (Seq (Int × Unit)) → (Bool → Option α) → Option α

noncomputable def num_all_l0_step {α : Type} (num_Fit : num_Fit_T α) (kr : (Bool) → Option α) (k0 : Option α) (rec : (Seq (Int × Unit)) → (Int) → (Int) → Option α) (x2 : Seq (Int × Unit)) (x3 : Int) (x4 : Int) : Option α :=
  (cond (decide (x4 < x3))
    (cond ((decide ((0 : Int) ≤ x4)) && (decide (x4 < (x2.n : Int))))
      (num_Fit ((x2.g x4.toNat).1) fun r5 =>
        (cond (!r5)
          (kr false)
          (rec x2 x3 (IntKind.i64.wrap (x4 + 1)))))
      none)
    (k0))

noncomputable def num_all_l0_run {α : Type} (num_Fit : num_Fit_T α) (kr : (Bool) → Option α) (k0 : Option α) : Nat → (Seq (Int × Unit)) → (Int) → (Int) → Option α
  | 0, _, _, _ => none
  | n + 1, x2, x3, x4 => num_all_l0_step num_Fit kr k0 (fun x2 x3 x4 => num_all_l0_run num_Fit kr k0 n x2 x3 x4) x2 x3 x4

noncomputable def num_all_g {α : Type} (num_Fit : num_Fit_T α) (l1 : Seq (Int × Unit)) (k : Bool → Option α) : Option α :=
  (num_all_l0_run num_Fit
    (fun x6 =>
      (k x6))
    ((k true))
    1000 l1 (l1.n : Int) 0)

noncomputable def num_all {α : Type} : num_all_T α := num_all_g num_Fit

noncomputable def num_all_sp {α : Type} (num_all : num_all_T α) : FunSpec α := ⟨99, [.sl (.int .i64 (.nil))], [], fun ds k => num_all (hdQ (.int .i64 (.nil)) ds) (fun r1 => k (enc dep (.bool) [.b r1]).1 [])⟩

noncomputable def num_all_spec {α : Type} : FunSpec α := num_all_sp num_all

noncomputable def num_all_C {α : Type} (num_Fit : num_Fit_T α) : List (FunSpec α) := [num_Fit_sp num_Fit]

noncomputable def num_all_q : FuncId → Bool := fun f => Nat.beq f 74

noncomputable def num_all_inl : FuncId → Bool := fun f => false

noncomputable def num_all_ann : FuncId → AnnT := fun f p => if f = 99 then (if p = [true, false, true] then ⟨[5, 6, 7], [], [], [2], 0, [], [], none⟩ else ⟨[], [], [], [], 0, [], [], none⟩) else ⟨[], [], [], [], 0, [], [], none⟩

noncomputable def num_all_l0_t : List Sh := [.dead, .dead, .dead, .dead, .dead, .sl (.int .i64 (.nil)), .int .i64, .int .i64, .dead, .dead, .dead, .dead, .dead, .dead, .dead]
noncomputable def num_all_l0_s : List (List Sh) := []
noncomputable def num_all_l0_h : List BSh := []

noncomputable def num_all_l0_spec {α : Type} (num_Fit : num_Fit_T α) : LoopSpec α := ⟨6, 99, [true, false, true], num_all_l0_t, num_all_l0_s, num_all_l0_h, fun ds k => num_all_l0_run num_Fit (fun y1 => k .ret (encSt [.dead, .dead, .bool, .dead, .dead, .dead, .dead, .dead, .dead, .dead, .dead, .dead, .dead, .dead, .dead] [] [] [.b y1])) (k (.exit 0) (encSt [.dead, .dead, .dead, .dead, .dead, .dead, .dead, .dead, .dead, .dead, .dead, .dead, .dead, .dead, .dead] [] [] [])) 1000 (hdQ (.int .i64 (.nil)) ds) (hdI ds.tail) (hdI ds.tail.tail)⟩

noncomputable def num_all_loops {α : Type} (num_Fit : num_Fit_T α) : List (LoopSpec α) := [num_all_l0_spec num_Fit]

noncomputable def num_all_l0_ev {α : Type} (num_Fit : num_Fit_T α) (n : Nat) (st : St) (k : X → St → Option α) : Option α := loopN (evCode Go.Proofs.Tryd.prog (callD Go.Proofs.Tryd.prog (envOf (num_all_C num_Fit) num_all_q num_all_inl 1000 num_all_ann false (num_all_loops num_Fit) (fun _ => none)) 6) (((envOf (num_all_C num_Fit) num_all_q num_all_inl 1000 num_all_ann false (num_all_loops num_Fit) (fun _ => none)) : Env α).L 6 99) 1000 (num_all_ann 99) (false :: [true, false, true]) (loopC Go.Proofs.Tryd.prog 99 [true, false, true])) ((num_all_ann 99 [true, false, true]).head 0) ((num_all_ann 99 [true, false, true]).leave 0) n st k

theorem num_all_l0_eq {α : Type} (num_Fit : num_Fit_T α) : ∀ (n : Nat) (x2 : Seq (Int × Unit)) (x3 : Int) (x4 : Int) (k : X → St → Option α), num_all_l0_ev num_Fit n (encSt num_all_l0_t num_all_l0_s num_all_l0_h [.q (.int .i64 (.nil)) x2, .i x3, .i x4]) k = num_all_l0_run num_Fit (fun y1 => k .ret (encSt [.dead, .dead, .bool, .dead, .dead, .dead, .dead, .dead, .dead, .dead, .dead, .dead, .dead, .dead, .dead] [] [] [.b y1])) (k (.exit 0) (encSt [.dead, .dead, .dead, .dead, .dead, .dead, .dead, .dead, .dead, .dead, .dead, .dead, .dead, .dead, .dead] [] [] [])) n x2 x3 x4 := by
  intro n
  induction n with
  | zero => intros; kernel_rfl
  | succ n ih =>
    intro x2 x3 x4 k
    have e : (fun (x2 : Seq (Int × Unit)) (x3 : Int) (x4 : Int) => num_all_l0_ev num_Fit n (encSt num_all_l0_t num_all_l0_s num_all_l0_h [.q (.int .i64 (.nil)) x2, .i x3, .i x4]) k) = (fun (x2 : Seq (Int × Unit)) (x3 : Int) (x4 : Int) => num_all_l0_run num_Fit (fun y1 => k .ret (encSt [.dead, .dead, .bool, .dead, .dead, .dead, .dead, .dead, .dead, .dead, .dead, .dead, .dead, .dead, .dead] [] [] [.b y1])) (k (.exit 0) (encSt [.dead, .dead, .dead, .dead, .dead, .dead, .dead, .dead, .dead, .dead, .dead, .dead, .dead, .dead, .dead] [] [] [])) n x2 x3 x4) := by
      funext x2 x3 x4
      exact ih x2 x3 x4 k
    have h1 : num_all_l0_ev num_Fit (n + 1) (encSt num_all_l0_t num_all_l0_s num_all_l0_h [.q (.int .i64 (.nil)) x2, .i x3, .i x4]) k = num_all_l0_step num_Fit (fun y1 => k .ret (encSt [.dead, .dead, .bool, .dead, .dead, .dead, .dead, .dead, .dead, .dead, .dead, .dead, .dead, .dead, .dead] [] [] [.b y1])) (k (.exit 0) (encSt [.dead, .dead, .dead, .dead, .dead, .dead, .dead, .dead, .dead, .dead, .dead, .dead, .dead, .dead, .dead] [] [] [])) (fun (x2 : Seq (Int × Unit)) (x3 : Int) (x4 : Int) => num_all_l0_ev num_Fit n (encSt num_all_l0_t num_all_l0_s num_all_l0_h [.q (.int .i64 (.nil)) x2, .i x3, .i x4]) k) x2 x3 x4 := by kernel_rfl
    have h2 := congrArg (fun r => num_all_l0_step num_Fit (fun y1 => k .ret (encSt [.dead, .dead, .bool, .dead, .dead, .dead, .dead, .dead, .dead, .dead, .dead, .dead, .dead, .dead, .dead] [] [] [.b y1])) (k (.exit 0) (encSt [.dead, .dead, .dead, .dead, .dead, .dead, .dead, .dead, .dead, .dead, .dead, .dead, .dead, .dead, .dead] [] [] [])) r x2 x3 x4) e
    have h3 : num_all_l0_step num_Fit (fun y1 => k .ret (encSt [.dead, .dead, .bool, .dead, .dead, .dead, .dead, .dead, .dead, .dead, .dead, .dead, .dead, .dead, .dead] [] [] [.b y1])) (k (.exit 0) (encSt [.dead, .dead, .dead, .dead, .dead, .dead, .dead, .dead, .dead, .dead, .dead, .dead, .dead, .dead, .dead] [] [] [])) (fun (x2 : Seq (Int × Unit)) (x3 : Int) (x4 : Int) => num_all_l0_run num_Fit (fun y1 => k .ret (encSt [.dead, .dead, .bool, .dead, .dead, .dead, .dead, .dead, .dead, .dead, .dead, .dead, .dead, .dead, .dead] [] [] [.b y1])) (k (.exit 0) (encSt [.dead, .dead, .dead, .dead, .dead, .dead, .dead, .dead, .dead, .dead, .dead, .dead, .dead, .dead, .dead] [] [] [])) n x2 x3 x4) x2 x3 x4 = num_all_l0_run num_Fit (fun y1 => k .ret (encSt [.dead, .dead, .bool, .dead, .dead, .dead, .dead, .dead, .dead, .dead, .dead, .dead, .dead, .dead, .dead] [] [] [.b y1])) (k (.exit 0) (encSt [.dead, .dead, .dead, .dead, .dead, .dead, .dead, .dead, .dead, .dead, .dead, .dead, .dead, .dead, .dead] [] [] [])) (n + 1) x2 x3 x4 := by kernel_rfl
    exact h1.trans (h2.trans h3)

theorem num_all_l0_ok {α : Type} (num_Fit : num_Fit_T α) : (num_all_l0_spec num_Fit : LoopSpec α).ok Go.Proofs.Tryd.prog (envOf (num_all_C num_Fit) num_all_q num_all_inl 1000 num_all_ann false (num_all_loops num_Fit) (fun _ => none)) := by
  intro ds k
  have h1 : num_all_l0_ev num_Fit 1000 (encSt num_all_l0_t num_all_l0_s num_all_l0_h ds) k = num_all_l0_ev num_Fit 1000 (encSt num_all_l0_t num_all_l0_s num_all_l0_h [.q (.int .i64 (.nil)) (hdQ (.int .i64 (.nil)) ds), .i (hdI ds.tail), .i (hdI ds.tail.tail)]) k := by kernel_rfl
  have h2 := num_all_l0_eq num_Fit 1000 (hdQ (.int .i64 (.nil)) ds) (hdI ds.tail) (hdI ds.tail.tail) k
  exact h1.trans h2

theorem num_all_ev {α : Type} (num_Fit : num_Fit_T α) : EvOk (α := α) Go.Proofs.Tryd.prog (envOf (num_all_C num_Fit) num_all_q num_all_inl 1000 num_all_ann false (num_all_loops num_Fit) (fun _ => none)) 6 (num_all_sp (num_all_g num_Fit)) := by intro ds k; kernel_rfl

theorem num_all_ok {α : Type} : (num_all_spec : FunSpec α).ok Go.Proofs.Tryd.prog :=
  FunSpec.ok_of (sp := num_all_spec) (C := num_all_C num_Fit) (q := num_all_q) (inl := num_all_inl) (N := 1000) (ann := num_all_ann) (fr := false) (D := 6) (l := (num_all_loops num_Fit)) (hk := (fun _ => none)) (okCons num_Fit_ok okNil) (lokCons (num_all_l0_ok num_Fit) lokNil) noHooks (num_all_ev num_Fit)

end
end Go.Rv.Tryd

set_option linter.unusedVariables false
set_option maxRecDepth 100000
set_option maxHeartbeats 4000000
namespace Go.Rv.Tryd
open Go Go.Rv Go.RowKit
noncomputable section

-- drayman/num.Sum

abbrev num_Sum_T (α : Type) : Type := (Seq (Int × Unit)) → (Int → Int → Option α) → Option α

noncomputable def num_Sum_l0_step {α : Type} (num_all : num_all_T α) (kr : (Int) → (Int) → Option α) (k0 : (Int) → Option α) (rec : (Int) → (Seq (Int × Unit)) → (Int) → (Int) → Option α) (sum3 : Int) (x4 : Seq (Int × Unit)) (x5 : Int) (x6 : Int) : Option α :=
  (cond (decide (x6 < x5))
    (cond ((decide ((0 : Int) ≤ x6)) && (decide (x6 < (x4.n : Int))))
      (cond (decide ((IntKind.i64.wrap (sum3 + (x4.g x6.toNat).1)) > 1099511627776))
        (kr 0 5)
        (rec (IntKind.i64.wrap (sum3 + (x4.g x6.toNat).1)) x4 x5 (IntKind.i64.wrap (x6 + 1))))
      none)
    (k0 sum3))

noncomputable def num_Sum_l0_run {α : Type} (num_all : num_all_T α) (kr : (Int) → (Int) → Option α) (k0 : (Int) → Option α) : Nat → (Int) → (Seq (Int × Unit)) → (Int) → (Int) → Option α
  | 0, _, _, _, _ => none
  | n + 1, sum3, x4, x5, x6 => num_Sum_l0_step num_all kr k0 (fun sum3 x4 x5 x6 => num_Sum_l0_run num_all kr k0 n sum3 x4 x5 x6) sum3 x4 x5 x6

noncomputable def num_Sum_g {α : Type} (num_all : num_all_T α) (l1 : Seq (Int × Unit)) (k : Int → Int → Option α) : Option α :=
  (num_all l1 fun r2 =>
    (cond (!r2)
      (k 0 11)
      (num_Sum_l0_run num_all
        (fun x7 x8 =>
          (k x7 x8))
        (fun x9 =>
          (k x9 0))
        1000 0 l1 (l1.n : Int) 0)))

noncomputable def num_Sum {α : Type} : num_Sum_T α := num_Sum_g num_all

noncomputable def num_Sum_sp {α : Type} (num_Sum : num_Sum_T α) : FunSpec α := ⟨58, [.sl (.int .i64 (.nil))], [], fun ds k => num_Sum (hdQ (.int .i64 (.nil)) ds) (fun r1 r2 => k (enc dep (.tup [.int .i64, .int .i64]) [.i r1, .i r2]).1 [])⟩

noncomputable def num_Sum_spec {α : Type} : FunSpec α := num_Sum_sp num_Sum

noncomputable def num_Sum_C {α : Type} (num_all : num_all_T α) : List (FunSpec α) := [num_all_sp num_all]

noncomputable def num_Sum_q : FuncId → Bool := fun f => Nat.beq f 99

noncomputable def num_Sum_inl : FuncId → Bool := fun f => false

noncomputable def num_Sum_ann : FuncId → AnnT := fun f p => if f = 58 then (if p = [true, false, true, true, true] then ⟨[4, 10, 11, 12], [], [4], [2, 3], 0, [], [], none⟩ else ⟨[], [], [], [], 0, [], [], none⟩) else ⟨[], [], [], [], 0, [], [], none⟩

noncomputable def num_Sum_l0_t : List Sh := [.dead, .dead, .dead, .dead, .int .i64, .dead, .dead, .dead, .dead, .dead, .sl (.int .i64 (.nil)), .int .i64, .int .i64, .dead, .dead, .dead, .dead, .dead, .dead, .dead, .dead, .dead, .dead]
noncomputable def num_Sum_l0_s : List (List Sh) := []
noncomputable def num_Sum_l0_h : List BSh := []

noncomputable def num_Sum_l0_spec {α : Type} (num_all : num_all_T α) : LoopSpec α := ⟨6, 58, [true, false, true, true, true], num_Sum_l0_t, num_Sum_l0_s, num_Sum_l0_h, fun ds k => num_Sum_l0_run num_all (fun y1 y2 => k .ret (encSt [.dead, .dead, .int .i64, .int .i64, .dead, .dead, .dead, .dead, .dead, .dead, .dead, .dead, .dead, .dead, .dead, .dead, .dead, .dead, .dead, .dead, .dead, .dead, .dead] [] [] [.i y1, .i y2])) (fun y1 => k (.exit 0) (encSt [.dead, .dead, .dead, .dead, .int .i64, .dead, .dead, .dead, .dead, .dead, .dead, .dead, .dead, .dead, .dead, .dead, .dead, .dead, .dead, .dead, .dead, .dead, .dead] [] [] [.i y1])) 1000 (hdI ds) (hdQ (.int .i64 (.nil)) ds.tail) (hdI ds.tail.tail) (hdI ds.tail.tail.tail)⟩

noncomputable def num_Sum_loops {α : Type} (num_all : num_all_T α) : List (LoopSpec α) := [num_Sum_l0_spec num_all]

noncomputable def num_Sum_l0_ev {α : Type} (num_all : num_all_T α) (n : Nat) (st : St) (k : X → St → Option α) : Option α := loopN (evCode Go.Proofs.Tryd.prog (callD Go.Proofs.Tryd.prog (envOf (num_Sum_C num_all) num_Sum_q num_Sum_inl 1000 num_Sum_ann false (num_Sum_loops num_all) (fun _ => none)) 6) (((envOf (num_Sum_C num_all) num_Sum_q num_Sum_inl 1000 num_Sum_ann false (num_Sum_loops num_all) (fun _ => none)) : Env α).L 6 58) 1000 (num_Sum_ann 58) (false :: [true, false, true, true, true]) (loopC Go.Proofs.Tryd.prog 58 [true, false, true, true, true])) ((num_Sum_ann 58 [true, false, true, true, true]).head 0) ((num_Sum_ann 58 [true, false, true, true, true]).leave 0) n st k

theorem num_Sum_l0_eq {α : Type} (num_all : num_all_T α) : ∀ (n : Nat) (sum3 : Int) (x4 : Seq (Int × Unit)) (x5 : Int) (x6 : Int) (k : X → St → Option α), num_Sum_l0_ev num_all n (encSt num_Sum_l0_t num_Sum_l0_s num_Sum_l0_h [.i sum3, .q (.int .i64 (.nil)) x4, .i x5, .i x6]) k = num_Sum_l0_run num_all (fun y1 y2 => k .ret (encSt [.dead, .dead, .int .i64, .int .i64, .dead, .dead, .dead, .dead, .dead, .dead, .dead, .dead, .dead, .dead, .dead, .dead, .dead, .dead, .dead, .dead, .dead, .dead, .dead] [] [] [.i y1, .i y2])) (fun y1 => k (.exit 0) (encSt [.dead, .dead, .dead, .dead, .int .i64, .dead, .dead, .dead, .dead, .dead, .dead, .dead, .dead, .dead, .dead, .dead, .dead, .dead, .dead, .dead, .dead, .dead, .dead] [] [] [.i y1])) n sum3 x4 x5 x6 := by
  intro n
  induction n with
  | zero => intros; kernel_rfl
  | succ n ih =>
    intro sum3 x4 x5 x6 k
    have e : (fun (sum3 : Int) (x4 : Seq (Int × Unit)) (x5 : Int) (x6 : Int) => num_Sum_l0_ev num_all n (encSt num_Sum_l0_t num_Sum_l0_s num_Sum_l0_h [.i sum3, .q (.int .i64 (.nil)) x4, .i x5, .i x6]) k) = (fun (sum3 : Int) (x4 : Seq (Int × Unit)) (x5 : Int) (x6 : Int) => num_Sum_l0_run num_all (fun y1 y2 => k .ret (encSt [.dead, .dead, .int .i64, .int .i64, .dead, .dead, .dead, .dead, .dead, .dead, .dead, .dead, .dead, .dead, .dead, .dead, .dead, .dead, .dead, .dead, .dead, .dead, .dead] [] [] [.i y1, .i y2])) (fun y1 => k (.exit 0) (encSt [.dead, .dead, .dead, .dead, .int .i64, .dead, .dead, .dead, .dead, .dead, .dead, .dead, .dead, .dead, .dead, .dead, .dead, .dead, .dead, .dead, .dead, .dead, .dead] [] [] [.i y1])) n sum3 x4 x5 x6) := by
      funext sum3 x4 x5 x6
      exact ih sum3 x4 x5 x6 k
    have h1 : num_Sum_l0_ev num_all (n + 1) (encSt num_Sum_l0_t num_Sum_l0_s num_Sum_l0_h [.i sum3, .q (.int .i64 (.nil)) x4, .i x5, .i x6]) k = num_Sum_l0_step num_all (fun y1 y2 => k .ret (encSt [.dead, .dead, .int .i64, .int .i64, .dead, .dead, .dead, .dead, .dead, .dead, .dead, .dead, .dead, .dead, .dead, .dead, .dead, .dead, .dead, .dead, .dead, .dead, .dead] [] [] [.i y1, .i y2])) (fun y1 => k (.exit 0) (encSt [.dead, .dead, .dead, .dead, .int .i64, .dead, .dead, .dead, .dead, .dead, .dead, .dead, .dead, .dead, .dead, .dead, .dead, .dead, .dead, .dead, .dead, .dead, .dead] [] [] [.i y1])) (fun (sum3 : Int) (x4 : Seq (Int × Unit)) (x5 : Int) (x6 : Int) => num_Sum_l0_ev num_all n (encSt num_Sum_l0_t num_Sum_l0_s num_Sum_l0_h [.i sum3, .q (.int .i64 (.nil)) x4, .i x5, .i x6]) k) sum3 x4 x5 x6 := by kernel_rfl
    have h2 := congrArg (fun r => num_Sum_l0_step num_all (fun y1 y2 => k .ret (encSt [.dead, .dead, .int .i64, .int .i64, .dead, .dead, .dead, .dead, .dead, .dead, .dead, .dead, .dead, .dead, .dead, .dead, .dead, .dead, .dead, .dead, .dead, .dead, .dead] [] [] [.i y1, .i y2])) (fun y1 => k (.exit 0) (encSt [.dead, .dead, .dead, .dead, .int .i64, .dead, .dead, .dead, .dead, .dead, .dead, .dead, .dead, .dead, .dead, .dead, .dead, .dead, .dead, .dead, .dead, .dead, .dead] [] [] [.i y1])) r sum3 x4 x5 x6) e
    have h3 : num_Sum_l0_step num_all (fun y1 y2 => k .ret (encSt [.dead, .dead, .int .i64, .int .i64, .dead, .dead, .dead, .dead, .dead, .dead, .dead, .dead, .dead, .dead, .dead, .dead, .dead, .dead, .dead, .dead, .dead, .dead, .dead] [] [] [.i y1, .i y2])) (fun y1 => k (.exit 0) (encSt [.dead, .dead, .dead, .dead, .int .i64, .dead, .dead, .dead, .dead, .dead, .dead, .dead, .dead, .dead, .dead, .dead, .dead, .dead, .dead, .dead, .dead, .dead, .dead] [] [] [.i y1])) (fun (sum3 : Int) (x4 : Seq (Int × Unit)) (x5 : Int) (x6 : Int) => num_Sum_l0_run num_all (fun y1 y2 => k .ret (encSt [.dead, .dead, .int .i64, .int .i64, .dead, .dead, .dead, .dead, .dead, .dead, .dead, .dead, .dead, .dead, .dead, .dead, .dead, .dead, .dead, .dead, .dead, .dead, .dead] [] [] [.i y1, .i y2])) (fun y1 => k (.exit 0) (encSt [.dead, .dead, .dead, .dead, .int .i64, .dead, .dead, .dead, .dead, .dead, .dead, .dead, .dead, .dead, .dead, .dead, .dead, .dead, .dead, .dead, .dead, .dead, .dead] [] [] [.i y1])) n sum3 x4 x5 x6) sum3 x4 x5 x6 = num_Sum_l0_run num_all (fun y1 y2 => k .ret (encSt [.dead, .dead, .int .i64, .int .i64, .dead, .dead, .dead, .dead, .dead, .dead, .dead, .dead, .dead, .dead, .dead, .dead, .dead, .dead, .dead, .dead, .dead, .dead, .dead] [] [] [.i y1, .i y2])) (fun y1 => k (.exit 0) (encSt [.dead, .dead, .dead, .dead, .int .i64, .dead, .dead, .dead, .dead, .dead, .dead, .dead, .dead, .dead, .dead, .dead, .dead, .dead, .dead, .dead, .dead, .dead, .dead] [] [] [.i y1])) (n + 1) sum3 x4 x5 x6 := by kernel_rfl
    exact h1.trans (h2.trans h3)

theorem num_Sum_l0_ok {α : Type} (num_all : num_all_T α) : (num_Sum_l0_spec num_all : LoopSpec α).ok Go.Proofs.Tryd.prog (envOf (num_Sum_C num_all) num_Sum_q num_Sum_inl 1000 num_Sum_ann false (num_Sum_loops num_all) (fun _ => none)) := by
  intro ds k
  have h1 : num_Sum_l0_ev num_all 1000 (encSt num_Sum_l0_t num_Sum_l0_s num_Sum_l0_h ds) k = num_Sum_l0_ev num_all 1000 (encSt num_Sum_l0_t num_Sum_l0_s num_Sum_l0_h [.i (hdI ds), .q (.int .i64 (.nil)) (hdQ (.int .i64 (.nil)) ds.tail), .i (hdI ds.tail.tail), .i (hdI ds.tail.tail.tail)]) k := by kernel_rfl
  have h2 := num_Sum_l0_eq num_all 1000 (hdI ds) (hdQ (.int .i64 (.nil)) ds.tail) (hdI ds.tail.tail) (hdI ds.tail.tail.tail) k
  exact h1.trans h2

theorem num_Sum_ev {α : Type} (num_all : num_all_T α) : EvOk (α := α) Go.Proofs.Tryd.prog (envOf (num_Sum_C num_all) num_Sum_q num_Sum_inl 1000 num_Sum_ann false (num_Sum_loops num_all) (fun _ => none)) 6 (num_Sum_sp (num_Sum_g num_all)) := by intro ds k; kernel_rfl

theorem num_Sum_ok {α : Type} : (num_Sum_spec : FunSpec α).ok Go.Proofs.Tryd.prog :=
  FunSpec.ok_of (sp := num_Sum_spec) (C := num_Sum_C num_all) (q := num_Sum_q) (inl := num_Sum_inl) (N := 1000) (ann := num_Sum_ann) (fr := false) (D := 6) (l := (num_Sum_loops num_all)) (hk := (fun _ => none)) (okCons num_all_ok okNil) (lokCons (num_Sum_l0_ok num_all) lokNil) noHooks (num_Sum_ev num_all)

end
end Go.Rv.Tryd

set_option linter.unusedVariables false
set_option maxRecDepth 100000
set_option maxHeartbeats 4000000
namespace Go.Rv.Tryd
open Go Go.Rv Go.RowKit
noncomputable section

-- drayman/holds.Drop

abbrev holds_Drop_T (α : Type) : Type := (Seq (Int × (Seq (ByteArray × Int × Unit)) × Int × Unit)) → Int → (Int → (Seq (Int × (Seq (ByteArray × Int × Unit)) × Int × Unit)) → Option α) → Option α

noncomputable def holds_Drop_g {α : Type} (slices_IndexFunc_api_Hold_api_Hold : slices_IndexFunc_api_Hold_api_Hold_T α) (holds_Fit : holds_Fit_T α) (slices_Concat_api_Hold_api_Hold : slices_Concat_api_Hold_api_Hold_T α) (l1 : Seq (Int × (Seq (ByteArray × Int × Unit)) × Int × Unit)) (saga2 : Int) (k : Int → (Seq (Int × (Seq (ByteArray × Int × Unit)) × Int × Unit)) → Option α) : Option α :=
  (slices_IndexFunc_api_Hold_api_Hold l1 saga2 fun r3 x4 =>
    (holds_Fit l1 fun r5 =>
      (cond (!r5)
        (k 12 (⟨true, 0, (fun _ => (0, (⟨true, 0, fun _ => (ByteArray.empty, 0, ())⟩ : Seq (ByteArray × Int × Unit)), 0, ()))⟩ : Seq (Int × (Seq (ByteArray × Int × Unit)) × Int × Unit)))
        (cond (decide (r3 < 0))
          (k 2 (⟨true, 0, (fun _ => (0, (⟨true, 0, fun _ => (ByteArray.empty, 0, ())⟩ : Seq (ByteArray × Int × Unit)), 0, ()))⟩ : Seq (Int × (Seq (ByteArray × Int × Unit)) × Int × Unit)))
          (cond ((((decide ((0 : Int) ≤ r3)) && (decide (r3 ≤ (l1.n : Int)))) && (decide (r3 = r3))) && (((decide ((0 : Int) ≤ r3)) && (decide (r3 ≤ (l1.n : Int)))) && (decide (r3 = r3))))
            (cond (((decide ((0 : Int) ≤ (IntKind.i64.wrap (r3 + 1)))) && (decide ((IntKind.i64.wrap (r3 + 1)) ≤ (l1.n : Int)))) && ((decide ((0 : Int) ≤ (IntKind.i64.wrap (r3 + 1)))) && (decide ((IntKind.i64.wrap (r3 + 1)) ≤ (l1.n : Int)))))
              (slices_Concat_api_Hold_api_Hold (⟨false, 2, (tSel [((⟨l1.nl, r3.toNat, l1.g⟩ : Seq (Int × (Seq (ByteArray × Int × Unit)) × Int × Unit)), ()), ((⟨l1.nl, (l1.n - (IntKind.i64.wrap (r3 + 1)).toNat), (tShift (IntKind.i64.wrap (r3 + 1)).toNat l1.g)⟩ : Seq (Int × (Seq (ByteArray × Int × Unit)) × Int × Unit)), ())] ((⟨true, 0, fun _ => (0, (⟨true, 0, fun _ => (ByteArray.empty, 0, ())⟩ : Seq (ByteArray × Int × Unit)), 0, ())⟩ : Seq (Int × (Seq (ByteArray × Int × Unit)) × Int × Unit)), ()))⟩ : Seq ((Seq (Int × (Seq (ByteArray × Int × Unit)) × Int × Unit)) × Unit)) fun r6 =>
                (k 0 r6))
              none)
            none)))))

noncomputable def holds_Drop {α : Type} : holds_Drop_T α := holds_Drop_g slices_IndexFunc_api_Hold_api_Hold holds_Fit slices_Concat_api_Hold_api_Hold

noncomputable def holds_Drop_sp {α : Type} (holds_Drop : holds_Drop_T α) : FunSpec α := ⟨27, [.sl (.int .i64 (.sl (.str (.int .i64 (.nil))) (.int .i64 (.nil)))), .int .i64], [], fun ds k => holds_Drop (hdQ (.int .i64 (.sl (.str (.int .i64 (.nil))) (.int .i64 (.nil)))) ds) (hdI ds.tail) (fun r1 q2 => k (enc dep (.tup [.own 0, .int .i64]) [.i r1]).1 (encBs [.row true (.int .i64 (.sl (.str (.int .i64 (.nil))) (.int .i64 (.nil))))] [.q (.int .i64 (.sl (.str (.int .i64 (.nil))) (.int .i64 (.nil)))) q2]).1)⟩

noncomputable def holds_Drop_spec {α : Type} : FunSpec α := holds_Drop_sp holds_Drop

noncomputable def holds_Drop_C {α : Type} (slices_IndexFunc_api_Hold_api_Hold : slices_IndexFunc_api_Hold_api_Hold_T α) (holds_Fit : holds_Fit_T α) (slices_Concat_api_Hold_api_Hold : slices_Concat_api_Hold_api_Hold_T α) : List (FunSpec α) := [slices_IndexFunc_api_Hold_api_Hold_sp slices_IndexFunc_api_Hold_api_Hold, holds_Fit_sp holds_Fit, slices_Concat_api_Hold_api_Hold_sp slices_Concat_api_Hold_api_Hold]

noncomputable def holds_Drop_q : FuncId → Bool := fun f => Nat.beq f 32 || Nat.beq f 63

noncomputable def holds_Drop_inl : FuncId → Bool := fun f => Nat.beq f 62

noncomputable def holds_Drop_ann : FuncId → AnnT := fun f p => if f = 27 then (if p = [false, true, true, true] then ⟨[], [], [], [], 2, [], [], none⟩ else ⟨[], [], [], [], 0, [], [], none⟩) else ⟨[], [], [], [], 0, [], [], none⟩

noncomputable def holds_Drop_loops {α : Type} (slices_IndexFunc_api_Hold_api_Hold : slices_IndexFunc_api_Hold_api_Hold_T α) (holds_Fit : holds_Fit_T α) (slices_Concat_api_Hold_api_Hold : slices_Concat_api_Hold_api_Hold_T α) : List (LoopSpec α) := []

theorem holds_Drop_ev {α : Type} (slices_IndexFunc_api_Hold_api_Hold : slices_IndexFunc_api_Hold_api_Hold_T α) (holds_Fit : holds_Fit_T α) (slices_Concat_api_Hold_api_Hold : slices_Concat_api_Hold_api_Hold_T α) : EvOk (α := α) Go.Proofs.Tryd.prog (envOf (holds_Drop_C slices_IndexFunc_api_Hold_api_Hold holds_Fit slices_Concat_api_Hold_api_Hold) holds_Drop_q holds_Drop_inl 1000 holds_Drop_ann false (holds_Drop_loops slices_IndexFunc_api_Hold_api_Hold holds_Fit slices_Concat_api_Hold_api_Hold) (fun _ => none)) 6 (holds_Drop_sp (holds_Drop_g slices_IndexFunc_api_Hold_api_Hold holds_Fit slices_Concat_api_Hold_api_Hold)) := by intro ds k; kernel_rfl

theorem holds_Drop_ok {α : Type} : (holds_Drop_spec : FunSpec α).ok Go.Proofs.Tryd.prog :=
  FunSpec.ok_of (sp := holds_Drop_spec) (C := holds_Drop_C slices_IndexFunc_api_Hold_api_Hold holds_Fit slices_Concat_api_Hold_api_Hold) (q := holds_Drop_q) (inl := holds_Drop_inl) (N := 1000) (ann := holds_Drop_ann) (fr := false) (D := 6) (l := (holds_Drop_loops slices_IndexFunc_api_Hold_api_Hold holds_Fit slices_Concat_api_Hold_api_Hold)) (hk := (fun _ => none)) (okCons slices_IndexFunc_api_Hold_api_Hold_ok (okCons holds_Fit_ok (okCons slices_Concat_api_Hold_api_Hold_ok okNil))) lokNil noHooks (holds_Drop_ev slices_IndexFunc_api_Hold_api_Hold holds_Fit slices_Concat_api_Hold_api_Hold)

end
end Go.Rv.Tryd

set_option linter.unusedVariables false
set_option maxRecDepth 100000
set_option maxHeartbeats 4000000
namespace Go.Rv.Tryd
open Go Go.Rv Go.RowKit
noncomputable section

-- drayman/draymanref13.Put

abbrev draymanref13_Put_T (α : Type) : Type := (Seq (Int × (Seq (ByteArray × Int × Unit)) × Int × Unit)) → (Int × (Seq (ByteArray × Int × Unit)) × Int × Unit) → (Int → (Seq (Int × (Seq (ByteArray × Int × Unit)) × Int × Unit)) → Option α) → Option α

noncomputable def draymanref13_Put_l0_step {α : Type} (draymanref13_Fit : draymanref13_Fit_T α) (draymanref13_One : draymanref13_One_T α) (draymanref13_Find : draymanref13_Find_T α) (k0 : (Seq (Int × (Seq (ByteArray × Int × Unit)) × Int × Unit)) → (Int) → (Int × (Seq (ByteArray × Int × Unit)) × Int × Unit) → (Seq (Int × (Seq (ByteArray × Int × Unit)) × Int × Unit)) → (Int × (Seq (ByteArray × Int × Unit)) × Int × Unit) → (Seq (Int × (Seq (ByteArray × Int × Unit)) × Int × Unit)) → Option α) (rec : (Seq (Int × (Seq (ByteArray × Int × Unit)) × Int × Unit)) → (Int) → (Int × (Seq (ByteArray × Int × Unit)) × Int × Unit) → (Seq (Int × (Seq (ByteArray × Int × Unit)) × Int × Unit)) → (Int × (Seq (ByteArray × Int × Unit)) × Int × Unit) → (Seq (Int × (Seq (ByteArray × Int × Unit)) × Int × Unit)) → Option α) (l7 : Seq (Int × (Seq (ByteArray × Int × Unit)) × Int × Unit)) (x8 : Int) (x9 : Int × (Seq (ByteArray × Int × Unit)) × Int × Unit) (q10 : Seq (Int × (Seq (ByteArray × Int × Unit)) × Int × Unit)) (x11 : Int × (Seq (ByteArray × Int × Unit)) × Int × Unit) (q12 : Seq (Int × (Seq (ByteArray × Int × Unit)) × Int × Unit)) : Option α :=
  (cond (decide (x8 < (l7.n : Int)))
    (cond (((decide ((0 : Int) ≤ x8)) && (decide (x8 < (l7.n : Int)))) && ((decide ((0 : Int) ≤ x8)) && (decide (x8 < (l7.n : Int)))))
      (cond (decide ((l7.g x8.toNat).1 < x9.1))
        (rec l7 (IntKind.i64.wrap (x8 + 1)) x9 q10 x11 q12)
        (k0 l7 x8 x9 q10 x11 q12))
      none)
    (k0 l7 x8 x9 q10 x11 q12))

noncomputable def draymanref13_Put_l0_run {α : Type} (draymanref13_Fit : draymanref13_Fit_T α) (draymanref13_One : draymanref13_One_T α) (draymanref13_Find : draymanref13_Find_T α) (k0 : (Seq (Int × (Seq (ByteArray × Int × Unit)) × Int × Unit)) → (Int) → (Int × (Seq (ByteArray × Int × Unit)) × Int × Unit) → (Seq (Int × (Seq (ByteArray × Int × Unit)) × Int × Unit)) → (Int × (Seq (ByteArray × Int × Unit)) × Int × Unit) → (Seq (Int × (Seq (ByteArray × Int × Unit)) × Int × Unit)) → Option α) : Nat → (Seq (Int × (Seq (ByteArray × Int × Unit)) × Int × Unit)) → (Int) → (Int × (Seq (ByteArray × Int × Unit)) × Int × Unit) → (Seq (Int × (Seq (ByteArray × Int × Unit)) × Int × Unit)) → (Int × (Seq (ByteArray × Int × Unit)) × Int × Unit) → (Seq (Int × (Seq (ByteArray × Int × Unit)) × Int × Unit)) → Option α
  | 0, _, _, _, _, _, _ => none
  | n + 1, l7, x8, x9, q10, x11, q12 => draymanref13_Put_l0_step draymanref13_Fit draymanref13_One draymanref13_Find k0 (fun l7 x8 x9 q10 x11 q12 => draymanref13_Put_l0_run draymanref13_Fit draymanref13_One draymanref13_Find k0 n l7 x8 x9 q10 x11 q12) l7 x8 x9 q10 x11 q12

noncomputable def draymanref13_Put_g {α : Type} (draymanref13_Fit : draymanref13_Fit_T α) (draymanref13_One : draymanref13_One_T α) (draymanref13_Find : draymanref13_Find_T α) (l1 : Seq (Int × (Seq (ByteArray × Int × Unit)) × Int × Unit)) (h2 : Int × (Seq (ByteArray × Int × Unit)) × Int × Unit) (k : Int → (Seq (Int × (Seq (ByteArray × Int × Unit)) × Int × Unit)) → Option α) : Option α :=
  (draymanref13_Fit l1 fun r3 =>
    (cond (!r3)
      (k 12 (⟨true, 0, (fun _ => (0, (⟨true, 0, fun _ => (ByteArray.empty, 0, ())⟩ : Seq (ByteArray × Int × Unit)), 0, ()))⟩ : Seq (Int × (Seq (ByteArray × Int × Unit)) × Int × Unit)))
      (draymanref13_One h2 fun r4 =>
        (cond (!r4)
          (k 1 (⟨true, 0, (fun _ => (0, (⟨true, 0, fun _ => (ByteArray.empty, 0, ())⟩ : Seq (ByteArray × Int × Unit)), 0, ()))⟩ : Seq (Int × (Seq (ByteArray × Int × Unit)) × Int × Unit)))
          (draymanref13_Find l1 h2.1 fun r5 r6 =>
            (cond r6
              (k 3 (⟨true, 0, (fun _ => (0, (⟨true, 0, fun _ => (ByteArray.empty, 0, ())⟩ : Seq (ByteArray × Int × Unit)), 0, ()))⟩ : Seq (Int × (Seq (ByteArray × Int × Unit)) × Int × Unit)))
              (cond ((l1.n : Int) == 16)
                (k 4 (⟨true, 0, (fun _ => (0, (⟨true, 0, fun _ => (ByteArray.empty, 0, ())⟩ : Seq (ByteArray × Int × Unit)), 0, ()))⟩ : Seq (Int × (Seq (ByteArray × Int × Unit)) × Int × Unit)))
                (draymanref13_Put_l0_run draymanref13_Fit draymanref13_One draymanref13_Find
                  (fun x13 x14 x15 q16 x17 q18 =>
                    (cond ((decide ((0 : Int) ≤ x14)) && (decide (x14 ≤ (x13.n : Int))))
                      (cond (decide (((q18.n + x14.toNat)) * 40 ≤ 140737488355328))
                        (cond (decide ((((q18.n + x14.toNat) + 1)) * 40 ≤ 140737488355328))
                          (cond ((decide ((0 : Int) ≤ x14)) && (decide (x14 ≤ (x13.n : Int))))
                            (cond (decide (((((q18.n + x14.toNat) + 1) + (x13.n - x14.toNat))) * 40 ≤ 140737488355328))
                              (k 0 (⟨(((q18.nl && (Nat.beq x14.toNat 0)) && false) && (Nat.beq (x13.n - x14.toNat) 0)), (((q18.n + x14.toNat) + 1) + (x13.n - x14.toNat)), (tApp ((q18.n + x14.toNat) + 1) (tApp (q18.n + x14.toNat) (tApp q18.n q18.g x13.g) (fun _ => x15)) (tShift x14.toNat x13.g))⟩ : Seq (Int × (Seq (ByteArray × Int × Unit)) × Int × Unit)))
                              none)
                            none)
                          none)
                        none)
                      none))
                  1000 l1 0 h2 (⟨true, 0, (fun _ => (0, (⟨true, 0, fun _ => (ByteArray.empty, 0, ())⟩ : Seq (ByteArray × Int × Unit)), 0, ()))⟩ : Seq (Int × (Seq (ByteArray × Int × Unit)) × Int × Unit)) r5 (⟨true, 0, (fun _ => (0, (⟨true, 0, fun _ => (ByteArray.empty, 0, ())⟩ : Seq (ByteArray × Int × Unit)), 0, ()))⟩ : Seq (Int × (Seq (ByteArray × Int × Unit)) × Int × Unit))))))))))

noncomputable def draymanref13_Put {α : Type} : draymanref13_Put_T α := draymanref13_Put_g draymanref13_Fit draymanref13_One draymanref13_Find

noncomputable def draymanref13_Put_sp {α : Type} (draymanref13_Put : draymanref13_Put_T α) : FunSpec α := ⟨26, [.sl (.int .i64 (.sl (.str (.int .i64 (.nil))) (.int .i64 (.nil)))), .agg [.int .i64, .sl (.str (.int .i64 (.nil))), .int .i64]], [], fun ds k => draymanref13_Put (hdQ (.int .i64 (.sl (.str (.int .i64 (.nil))) (.int .i64 (.nil)))) ds) (hdI ds.tail, hdQ (.str (.int .i64 (.nil))) ds.tail.tail, hdI ds.tail.tail.tail, ()) (fun r1 q2 => k (enc dep (.tup [.own 0, .int .i64]) [.i r1]).1 (encBs [.row true (.int .i64 (.sl (.str (.int .i64 (.nil))) (.int .i64 (.nil))))] [.q (.int .i64 (.sl (.str (.int .i64 (.nil))) (.int .i64 (.nil)))) q2]).1)⟩

noncomputable def draymanref13_Put_spec {α : Type} : FunSpec α := draymanref13_Put_sp draymanref13_Put

noncomputable def draymanref13_Put_C {α : Type} (draymanref13_Fit : draymanref13_Fit_T α) (draymanref13_One : draymanref13_One_T α) (draymanref13_Find : draymanref13_Find_T α) : List (FunSpec α) := [draymanref13_Fit_sp draymanref13_Fit, draymanref13_One_sp draymanref13_One, draymanref13_Find_sp draymanref13_Find]

noncomputable def draymanref13_Put_q : FuncId → Bool := fun f => Nat.beq f 33 || Nat.beq f 67

noncomputable def draymanref13_Put_inl : FuncId → Bool := fun f => false

noncomputable def draymanref13_Put_ann : FuncId → AnnT := fun f p => if f = 26 then (if p = [false, true, true, true, true, true, true, true] then ⟨[0, 3, 8, 9], [1, 3], [0, 3, 8, 9], [4, 5], 0, [], [], none⟩ else ⟨[], [], [], [], 0, [], [], none⟩) else ⟨[], [], [], [], 0, [], [], none⟩

noncomputable def draymanref13_Put_l0_t : List Sh := [.sl (.int .i64 (.sl (.str (.int .i64 (.nil))) (.int .i64 (.nil)))), .dead, .dead, .ref 0 0, .dead, .dead, .dead, .dead, .own 3, .int .i64, .dead, .dead, .dead, .dead, .dead, .dead, .dead, .dead, .dead, .dead, .dead, .dead, .dead, .dead, .dead, .dead, .dead, .dead, .dead, .dead, .dead, .dead, .dead, .dead, .dead, .dead, .dead, .dead, .dead, .dead, .dead, .dead, .dead, .dead, .dead, .dead, .dead, .dead, .dead, .dead, .dead, .dead, .dead, .dead, .dead, .dead, .dead]
noncomputable def draymanref13_Put_l0_s : List (List Sh) := []
noncomputable def draymanref13_Put_l0_h : List BSh := [.box [.int .i64, .sl (.str (.int .i64 (.nil))), .int .i64], .row true (.int .i64 (.sl (.str (.int .i64 (.nil))) (.int .i64 (.nil)))), .box [.int .i64, .sl (.str (.int .i64 (.nil))), .int .i64], .row true (.int .i64 (.sl (.str (.int .i64 (.nil))) (.int .i64 (.nil))))]

noncomputable def draymanref13_Put_l0_spec {α : Type} (draymanref13_Fit : draymanref13_Fit_T α) (draymanref13_One : draymanref13_One_T α) (draymanref13_Find : draymanref13_Find_T α) : LoopSpec α := ⟨6, 26, [false, true, true, true, true, true, true, true], draymanref13_Put_l0_t, draymanref13_Put_l0_s, draymanref13_Put_l0_h, fun ds k => draymanref13_Put_l0_run draymanref13_Fit draymanref13_One draymanref13_Find (fun y1 y2 y3 y4 y5 y6 => k (.exit 0) (encSt [.sl (.int .i64 (.sl (.str (.int .i64 (.nil))) (.int .i64 (.nil)))), .dead, .dead, .ref 0 0, .dead, .dead, .dead, .dead, .own 3, .int .i64, .dead, .dead, .dead, .dead, .dead, .dead, .dead, .dead, .dead, .dead, .dead, .dead, .dead, .dead, .dead, .dead, .dead, .dead, .dead, .dead, .dead, .dead, .dead, .dead, .dead, .dead, .dead, .dead, .dead, .dead, .dead, .dead, .dead, .dead, .dead, .dead, .dead, .dead, .dead, .dead, .dead, .dead, .dead, .dead, .dead, .dead, .dead] [] [.box [.int .i64, .sl (.str (.int .i64 (.nil))), .int .i64], .row true (.int .i64 (.sl (.str (.int .i64 (.nil))) (.int .i64 (.nil)))), .box [.int .i64, .sl (.str (.int .i64 (.nil))), .int .i64], .row true (.int .i64 (.sl (.str (.int .i64 (.nil))) (.int .i64 (.nil))))] [.q (.int .i64 (.sl (.str (.int .i64 (.nil))) (.int .i64 (.nil)))) y1, .i y2, .i y3.1, .q (.str (.int .i64 (.nil))) y3.2.1, .i y3.2.2.1, .q (.int .i64 (.sl (.str (.int .i64 (.nil))) (.int .i64 (.nil)))) y4, .i y5.1, .q (.str (.int .i64 (.nil))) y5.2.1, .i y5.2.2.1, .q (.int .i64 (.sl (.str (.int .i64 (.nil))) (.int .i64 (.nil)))) y6])) 1000 (hdQ (.int .i64 (.sl (.str (.int .i64 (.nil))) (.int .i64 (.nil)))) ds) (hdI ds.tail) (hdI ds.tail.tail, hdQ (.str (.int .i64 (.nil))) ds.tail.tail.tail, hdI ds.tail.tail.tail.tail, ()) (hdQ (.int .i64 (.sl (.str (.int .i64 (.nil))) (.int .i64 (.nil)))) ds.tail.tail.tail.tail.tail) (hdI ds.tail.tail.tail.tail.tail.tail, hdQ (.str (.int .i64 (.nil))) ds.tail.tail.tail.tail.tail.tail.tail, hdI ds.tail.tail.tail.tail.tail.tail.tail.tail, ()) (hdQ (.int .i64 (.sl (.str (.int .i64 (.nil))) (.int .i64 (.nil)))) ds.tail.tail.tail.tail.tail.tail.tail.tail.tail)⟩

noncomputable def draymanref13_Put_loops {α : Type} (draymanref13_Fit : draymanref13_Fit_T α) (draymanref13_One : draymanref13_One_T α) (draymanref13_Find : draymanref13_Find_T α) : List (LoopSpec α) := [draymanref13_Put_l0_spec draymanref13_Fit draymanref13_One draymanref13_Find]

noncomputable def draymanref13_Put_l0_ev {α : Type} (draymanref13_Fit : draymanref13_Fit_T α) (draymanref13_One : draymanref13_One_T α) (draymanref13_Find : draymanref13_Find_T α) (n : Nat) (st : St) (k : X → St → Option α) : Option α := loopN (evCode Go.Proofs.Tryd.prog (callD Go.Proofs.Tryd.prog (envOf (draymanref13_Put_C draymanref13_Fit draymanref13_One draymanref13_Find) draymanref13_Put_q draymanref13_Put_inl 1000 draymanref13_Put_ann false (draymanref13_Put_loops draymanref13_Fit draymanref13_One draymanref13_Find) (fun _ => none)) 6) (((envOf (draymanref13_Put_C draymanref13_Fit draymanref13_One draymanref13_Find) draymanref13_Put_q draymanref13_Put_inl 1000 draymanref13_Put_ann false (draymanref13_Put_loops draymanref13_Fit draymanref13_One draymanref13_Find) (fun _ => none)) : Env α).L 6 26) 1000 (draymanref13_Put_ann 26) (false :: [false, true, true, true, true, true, true, true]) (loopC Go.Proofs.Tryd.prog 26 [false, true, true, true, true, true, true, true])) ((draymanref13_Put_ann 26 [false, true, true, true, true, true, true, true]).head 4) ((draymanref13_Put_ann 26 [false, true, true, true, true, true, true, true]).leave 4) n st k

theorem draymanref13_Put_l0_eq {α : Type} (draymanref13_Fit : draymanref13_Fit_T α) (draymanref13_One : draymanref13_One_T α) (draymanref13_Find : draymanref13_Find_T α) : ∀ (n : Nat) (l7 : Seq (Int × (Seq (ByteArray × Int × Unit)) × Int × Unit)) (x8 : Int) (x9 : Int × (Seq (ByteArray × Int × Unit)) × Int × Unit) (q10 : Seq (Int × (Seq (ByteArray × Int × Unit)) × Int × Unit)) (x11 : Int × (Seq (ByteArray × Int × Unit)) × Int × Unit) (q12 : Seq (Int × (Seq (ByteArray × Int × Unit)) × Int × Unit)) (k : X → St → Option α), draymanref13_Put_l0_ev draymanref13_Fit draymanref13_One draymanref13_Find n (encSt draymanref13_Put_l0_t draymanref13_Put_l0_s draymanref13_Put_l0_h [.q (.int .i64 (.sl (.str (.int .i64 (.nil))) (.int .i64 (.nil)))) l7, .i x8, .i x9.1, .q (.str (.int .i64 (.nil))) x9.2.1, .i x9.2.2.1, .q (.int .i64 (.sl (.str (.int .i64 (.nil))) (.int .i64 (.nil)))) q10, .i x11.1, .q (.str (.int .i64 (.nil))) x11.2.1, .i x11.2.2.1, .q (.int .i64 (.sl (.str (.int .i64 (.nil))) (.int .i64 (.nil)))) q12]) k = draymanref13_Put_l0_run draymanref13_Fit draymanref13_One draymanref13_Find (fun y1 y2 y3 y4 y5 y6 => k (.exit 0) (encSt [.sl (.int .i64 (.sl (.str (.int .i64 (.nil))) (.int .i64 (.nil)))), .dead, .dead, .ref 0 0, .dead, .dead, .dead, .dead, .own 3, .int .i64, .dead, .dead, .dead, .dead, .dead, .dead, .dead, .dead, .dead, .dead, .dead, .dead, .dead, .dead, .dead, .dead, .dead, .dead, .dead, .dead, .dead, .dead, .dead, .dead, .dead, .dead, .dead, .dead, .dead, .dead, .dead, .dead, .dead, .dead, .dead, .dead, .dead, .dead, .dead, .dead, .dead, .dead, .dead, .dead, .dead, .dead, .dead] [] [.box [.int .i64, .sl (.str (.int .i64 (.nil))), .int .i64], .row true (.int .i64 (.sl (.str (.int .i64 (.nil))) (.int .i64 (.nil)))), .box [.int .i64, .sl (.str (.int .i64 (.nil))), .int .i64], .row true (.int .i64 (.sl (.str (.int .i64 (.nil))) (.int .i64 (.nil))))] [.q (.int .i64 (.sl (.str (.int .i64 (.nil))) (.int .i64 (.nil)))) y1, .i y2, .i y3.1, .q (.str (.int .i64 (.nil))) y3.2.1, .i y3.2.2.1, .q (.int .i64 (.sl (.str (.int .i64 (.nil))) (.int .i64 (.nil)))) y4, .i y5.1, .q (.str (.int .i64 (.nil))) y5.2.1, .i y5.2.2.1, .q (.int .i64 (.sl (.str (.int .i64 (.nil))) (.int .i64 (.nil)))) y6])) n l7 x8 x9 q10 x11 q12 := by
  intro n
  induction n with
  | zero => intros; kernel_rfl
  | succ n ih =>
    intro l7 x8 x9 q10 x11 q12 k
    have e : (fun (l7 : Seq (Int × (Seq (ByteArray × Int × Unit)) × Int × Unit)) (x8 : Int) (x9 : Int × (Seq (ByteArray × Int × Unit)) × Int × Unit) (q10 : Seq (Int × (Seq (ByteArray × Int × Unit)) × Int × Unit)) (x11 : Int × (Seq (ByteArray × Int × Unit)) × Int × Unit) (q12 : Seq (Int × (Seq (ByteArray × Int × Unit)) × Int × Unit)) => draymanref13_Put_l0_ev draymanref13_Fit draymanref13_One draymanref13_Find n (encSt draymanref13_Put_l0_t draymanref13_Put_l0_s draymanref13_Put_l0_h [.q (.int .i64 (.sl (.str (.int .i64 (.nil))) (.int .i64 (.nil)))) l7, .i x8, .i x9.1, .q (.str (.int .i64 (.nil))) x9.2.1, .i x9.2.2.1, .q (.int .i64 (.sl (.str (.int .i64 (.nil))) (.int .i64 (.nil)))) q10, .i x11.1, .q (.str (.int .i64 (.nil))) x11.2.1, .i x11.2.2.1, .q (.int .i64 (.sl (.str (.int .i64 (.nil))) (.int .i64 (.nil)))) q12]) k) = (fun (l7 : Seq (Int × (Seq (ByteArray × Int × Unit)) × Int × Unit)) (x8 : Int) (x9 : Int × (Seq (ByteArray × Int × Unit)) × Int × Unit) (q10 : Seq (Int × (Seq (ByteArray × Int × Unit)) × Int × Unit)) (x11 : Int × (Seq (ByteArray × Int × Unit)) × Int × Unit) (q12 : Seq (Int × (Seq (ByteArray × Int × Unit)) × Int × Unit)) => draymanref13_Put_l0_run draymanref13_Fit draymanref13_One draymanref13_Find (fun y1 y2 y3 y4 y5 y6 => k (.exit 0) (encSt [.sl (.int .i64 (.sl (.str (.int .i64 (.nil))) (.int .i64 (.nil)))), .dead, .dead, .ref 0 0, .dead, .dead, .dead, .dead, .own 3, .int .i64, .dead, .dead, .dead, .dead, .dead, .dead, .dead, .dead, .dead, .dead, .dead, .dead, .dead, .dead, .dead, .dead, .dead, .dead, .dead, .dead, .dead, .dead, .dead, .dead, .dead, .dead, .dead, .dead, .dead, .dead, .dead, .dead, .dead, .dead, .dead, .dead, .dead, .dead, .dead, .dead, .dead, .dead, .dead, .dead, .dead, .dead, .dead] [] [.box [.int .i64, .sl (.str (.int .i64 (.nil))), .int .i64], .row true (.int .i64 (.sl (.str (.int .i64 (.nil))) (.int .i64 (.nil)))), .box [.int .i64, .sl (.str (.int .i64 (.nil))), .int .i64], .row true (.int .i64 (.sl (.str (.int .i64 (.nil))) (.int .i64 (.nil))))] [.q (.int .i64 (.sl (.str (.int .i64 (.nil))) (.int .i64 (.nil)))) y1, .i y2, .i y3.1, .q (.str (.int .i64 (.nil))) y3.2.1, .i y3.2.2.1, .q (.int .i64 (.sl (.str (.int .i64 (.nil))) (.int .i64 (.nil)))) y4, .i y5.1, .q (.str (.int .i64 (.nil))) y5.2.1, .i y5.2.2.1, .q (.int .i64 (.sl (.str (.int .i64 (.nil))) (.int .i64 (.nil)))) y6])) n l7 x8 x9 q10 x11 q12) := by
      funext l7 x8 x9 q10 x11 q12
      exact ih l7 x8 x9 q10 x11 q12 k
    have h1 : draymanref13_Put_l0_ev draymanref13_Fit draymanref13_One draymanref13_Find (n + 1) (encSt draymanref13_Put_l0_t draymanref13_Put_l0_s draymanref13_Put_l0_h [.q (.int .i64 (.sl (.str (.int .i64 (.nil))) (.int .i64 (.nil)))) l7, .i x8, .i x9.1, .q (.str (.int .i64 (.nil))) x9.2.1, .i x9.2.2.1, .q (.int .i64 (.sl (.str (.int .i64 (.nil))) (.int .i64 (.nil)))) q10, .i x11.1, .q (.str (.int .i64 (.nil))) x11.2.1, .i x11.2.2.1, .q (.int .i64 (.sl (.str (.int .i64 (.nil))) (.int .i64 (.nil)))) q12]) k = draymanref13_Put_l0_step draymanref13_Fit draymanref13_One draymanref13_Find (fun y1 y2 y3 y4 y5 y6 => k (.exit 0) (encSt [.sl (.int .i64 (.sl (.str (.int .i64 (.nil))) (.int .i64 (.nil)))), .dead, .dead, .ref 0 0, .dead, .dead, .dead, .dead, .own 3, .int .i64, .dead, .dead, .dead, .dead, .dead, .dead, .dead, .dead, .dead, .dead, .dead, .dead, .dead, .dead, .dead, .dead, .dead, .dead, .dead, .dead, .dead, .dead, .dead, .dead, .dead, .dead, .dead, .dead, .dead, .dead, .dead, .dead, .dead, .dead, .dead, .dead, .dead, .dead, .dead, .dead, .dead, .dead, .dead, .dead, .dead, .dead, .dead] [] [.box [.int .i64, .sl (.str (.int .i64 (.nil))), .int .i64], .row true (.int .i64 (.sl (.str (.int .i64 (.nil))) (.int .i64 (.nil)))), .box [.int .i64, .sl (.str (.int .i64 (.nil))), .int .i64], .row true (.int .i64 (.sl (.str (.int .i64 (.nil))) (.int .i64 (.nil))))] [.q (.int .i64 (.sl (.str (.int .i64 (.nil))) (.int .i64 (.nil)))) y1, .i y2, .i y3.1, .q (.str (.int .i64 (.nil))) y3.2.1, .i y3.2.2.1, .q (.int .i64 (.sl (.str (.int .i64 (.nil))) (.int .i64 (.nil)))) y4, .i y5.1, .q (.str (.int .i64 (.nil))) y5.2.1, .i y5.2.2.1, .q (.int .i64 (.sl (.str (.int .i64 (.nil))) (.int .i64 (.nil)))) y6])) (fun (l7 : Seq (Int × (Seq (ByteArray × Int × Unit)) × Int × Unit)) (x8 : Int) (x9 : Int × (Seq (ByteArray × Int × Unit)) × Int × Unit) (q10 : Seq (Int × (Seq (ByteArray × Int × Unit)) × Int × Unit)) (x11 : Int × (Seq (ByteArray × Int × Unit)) × Int × Unit) (q12 : Seq (Int × (Seq (ByteArray × Int × Unit)) × Int × Unit)) => draymanref13_Put_l0_ev draymanref13_Fit draymanref13_One draymanref13_Find n (encSt draymanref13_Put_l0_t draymanref13_Put_l0_s draymanref13_Put_l0_h [.q (.int .i64 (.sl (.str (.int .i64 (.nil))) (.int .i64 (.nil)))) l7, .i x8, .i x9.1, .q (.str (.int .i64 (.nil))) x9.2.1, .i x9.2.2.1, .q (.int .i64 (.sl (.str (.int .i64 (.nil))) (.int .i64 (.nil)))) q10, .i x11.1, .q (.str (.int .i64 (.nil))) x11.2.1, .i x11.2.2.1, .q (.int .i64 (.sl (.str (.int .i64 (.nil))) (.int .i64 (.nil)))) q12]) k) l7 x8 x9 q10 x11 q12 := by kernel_rfl
    have h2 := congrArg (fun r => draymanref13_Put_l0_step draymanref13_Fit draymanref13_One draymanref13_Find (fun y1 y2 y3 y4 y5 y6 => k (.exit 0) (encSt [.sl (.int .i64 (.sl (.str (.int .i64 (.nil))) (.int .i64 (.nil)))), .dead, .dead, .ref 0 0, .dead, .dead, .dead, .dead, .own 3, .int .i64, .dead, .dead, .dead, .dead, .dead, .dead, .dead, .dead, .dead, .dead, .dead, .dead, .dead, .dead, .dead, .dead, .dead, .dead, .dead, .dead, .dead, .dead, .dead, .dead, .dead, .dead, .dead, .dead, .dead, .dead, .dead, .dead, .dead, .dead, .dead, .dead, .dead, .dead, .dead, .dead, .dead, .dead, .dead, .dead, .dead, .dead, .dead] [] [.box [.int .i64, .sl (.str (.int .i64 (.nil))), .int .i64], .row true (.int .i64 (.sl (.str (.int .i64 (.nil))) (.int .i64 (.nil)))), .box [.int .i64, .sl (.str (.int .i64 (.nil))), .int .i64], .row true (.int .i64 (.sl (.str (.int .i64 (.nil))) (.int .i64 (.nil))))] [.q (.int .i64 (.sl (.str (.int .i64 (.nil))) (.int .i64 (.nil)))) y1, .i y2, .i y3.1, .q (.str (.int .i64 (.nil))) y3.2.1, .i y3.2.2.1, .q (.int .i64 (.sl (.str (.int .i64 (.nil))) (.int .i64 (.nil)))) y4, .i y5.1, .q (.str (.int .i64 (.nil))) y5.2.1, .i y5.2.2.1, .q (.int .i64 (.sl (.str (.int .i64 (.nil))) (.int .i64 (.nil)))) y6])) r l7 x8 x9 q10 x11 q12) e
    have h3 : draymanref13_Put_l0_step draymanref13_Fit draymanref13_One draymanref13_Find (fun y1 y2 y3 y4 y5 y6 => k (.exit 0) (encSt [.sl (.int .i64 (.sl (.str (.int .i64 (.nil))) (.int .i64 (.nil)))), .dead, .dead, .ref 0 0, .dead, .dead, .dead, .dead, .own 3, .int .i64, .dead, .dead, .dead, .dead, .dead, .dead, .dead, .dead, .dead, .dead, .dead, .dead, .dead, .dead, .dead, .dead, .dead, .dead, .dead, .dead, .dead, .dead, .dead, .dead, .dead, .dead, .dead, .dead, .dead, .dead, .dead, .dead, .dead, .dead, .dead, .dead, .dead, .dead, .dead, .dead, .dead, .dead, .dead, .dead, .dead, .dead, .dead] [] [.box [.int .i64, .sl (.str (.int .i64 (.nil))), .int .i64], .row true (.int .i64 (.sl (.str (.int .i64 (.nil))) (.int .i64 (.nil)))), .box [.int .i64, .sl (.str (.int .i64 (.nil))), .int .i64], .row true (.int .i64 (.sl (.str (.int .i64 (.nil))) (.int .i64 (.nil))))] [.q (.int .i64 (.sl (.str (.int .i64 (.nil))) (.int .i64 (.nil)))) y1, .i y2, .i y3.1, .q (.str (.int .i64 (.nil))) y3.2.1, .i y3.2.2.1, .q (.int .i64 (.sl (.str (.int .i64 (.nil))) (.int .i64 (.nil)))) y4, .i y5.1, .q (.str (.int .i64 (.nil))) y5.2.1, .i y5.2.2.1, .q (.int .i64 (.sl (.str (.int .i64 (.nil))) (.int .i64 (.nil)))) y6])) (fun (l7 : Seq (Int × (Seq (ByteArray × Int × Unit)) × Int × Unit)) (x8 : Int) (x9 : Int × (Seq (ByteArray × Int × Unit)) × Int × Unit) (q10 : Seq (Int × (Seq (ByteArray × Int × Unit)) × Int × Unit)) (x11 : Int × (Seq (ByteArray × Int × Unit)) × Int × Unit) (q12 : Seq (Int × (Seq (ByteArray × Int × Unit)) × Int × Unit)) => draymanref13_Put_l0_run draymanref13_Fit draymanref13_One draymanref13_Find (fun y1 y2 y3 y4 y5 y6 => k (.exit 0) (encSt [.sl (.int .i64 (.sl (.str (.int .i64 (.nil))) (.int .i64 (.nil)))), .dead, .dead, .ref 0 0, .dead, .dead, .dead, .dead, .own 3, .int .i64, .dead, .dead, .dead, .dead, .dead, .dead, .dead, .dead, .dead, .dead, .dead, .dead, .dead, .dead, .dead, .dead, .dead, .dead, .dead, .dead, .dead, .dead, .dead, .dead, .dead, .dead, .dead, .dead, .dead, .dead, .dead, .dead, .dead, .dead, .dead, .dead, .dead, .dead, .dead, .dead, .dead, .dead, .dead, .dead, .dead, .dead, .dead] [] [.box [.int .i64, .sl (.str (.int .i64 (.nil))), .int .i64], .row true (.int .i64 (.sl (.str (.int .i64 (.nil))) (.int .i64 (.nil)))), .box [.int .i64, .sl (.str (.int .i64 (.nil))), .int .i64], .row true (.int .i64 (.sl (.str (.int .i64 (.nil))) (.int .i64 (.nil))))] [.q (.int .i64 (.sl (.str (.int .i64 (.nil))) (.int .i64 (.nil)))) y1, .i y2, .i y3.1, .q (.str (.int .i64 (.nil))) y3.2.1, .i y3.2.2.1, .q (.int .i64 (.sl (.str (.int .i64 (.nil))) (.int .i64 (.nil)))) y4, .i y5.1, .q (.str (.int .i64 (.nil))) y5.2.1, .i y5.2.2.1, .q (.int .i64 (.sl (.str (.int .i64 (.nil))) (.int .i64 (.nil)))) y6])) n l7 x8 x9 q10 x11 q12) l7 x8 x9 q10 x11 q12 = draymanref13_Put_l0_run draymanref13_Fit draymanref13_One draymanref13_Find (fun y1 y2 y3 y4 y5 y6 => k (.exit 0) (encSt [.sl (.int .i64 (.sl (.str (.int .i64 (.nil))) (.int .i64 (.nil)))), .dead, .dead, .ref 0 0, .dead, .dead, .dead, .dead, .own 3, .int .i64, .dead, .dead, .dead, .dead, .dead, .dead, .dead, .dead, .dead, .dead, .dead, .dead, .dead, .dead, .dead, .dead, .dead, .dead, .dead, .dead, .dead, .dead, .dead, .dead, .dead, .dead, .dead, .dead, .dead, .dead, .dead, .dead, .dead, .dead, .dead, .dead, .dead, .dead, .dead, .dead, .dead, .dead, .dead, .dead, .dead, .dead, .dead] [] [.box [.int .i64, .sl (.str (.int .i64 (.nil))), .int .i64], .row true (.int .i64 (.sl (.str (.int .i64 (.nil))) (.int .i64 (.nil)))), .box [.int .i64, .sl (.str (.int .i64 (.nil))), .int .i64], .row true (.int .i64 (.sl (.str (.int .i64 (.nil))) (.int .i64 (.nil))))] [.q (.int .i64 (.sl (.str (.int .i64 (.nil))) (.int .i64 (.nil)))) y1, .i y2, .i y3.1, .q (.str (.int .i64 (.nil))) y3.2.1, .i y3.2.2.1, .q (.int .i64 (.sl (.str (.int .i64 (.nil))) (.int .i64 (.nil)))) y4, .i y5.1, .q (.str (.int .i64 (.nil))) y5.2.1, .i y5.2.2.1, .q (.int .i64 (.sl (.str (.int .i64 (.nil))) (.int .i64 (.nil)))) y6])) (n + 1) l7 x8 x9 q10 x11 q12 := by kernel_rfl
    exact h1.trans (h2.trans h3)

theorem draymanref13_Put_l0_ok {α : Type} (draymanref13_Fit : draymanref13_Fit_T α) (draymanref13_One : draymanref13_One_T α) (draymanref13_Find : draymanref13_Find_T α) : (draymanref13_Put_l0_spec draymanref13_Fit draymanref13_One draymanref13_Find : LoopSpec α).ok Go.Proofs.Tryd.prog (envOf (draymanref13_Put_C draymanref13_Fit draymanref13_One draymanref13_Find) draymanref13_Put_q draymanref13_Put_inl 1000 draymanref13_Put_ann false (draymanref13_Put_loops draymanref13_Fit draymanref13_One draymanref13_Find) (fun _ => none)) := by
  intro ds k
  have h1 : draymanref13_Put_l0_ev draymanref13_Fit draymanref13_One draymanref13_Find 1000 (encSt draymanref13_Put_l0_t draymanref13_Put_l0_s draymanref13_Put_l0_h ds) k = draymanref13_Put_l0_ev draymanref13_Fit draymanref13_One draymanref13_Find 1000 (encSt draymanref13_Put_l0_t draymanref13_Put_l0_s draymanref13_Put_l0_h [.q (.int .i64 (.sl (.str (.int .i64 (.nil))) (.int .i64 (.nil)))) (hdQ (.int .i64 (.sl (.str (.int .i64 (.nil))) (.int .i64 (.nil)))) ds), .i (hdI ds.tail), .i ((hdI ds.tail.tail, hdQ (.str (.int .i64 (.nil))) ds.tail.tail.tail, hdI ds.tail.tail.tail.tail, ()).1), .q (.str (.int .i64 (.nil))) ((hdI ds.tail.tail, hdQ (.str (.int .i64 (.nil))) ds.tail.tail.tail, hdI ds.tail.tail.tail.tail, ()).2.1), .i ((hdI ds.tail.tail, hdQ (.str (.int .i64 (.nil))) ds.tail.tail.tail, hdI ds.tail.tail.tail.tail, ()).2.2.1), .q (.int .i64 (.sl (.str (.int .i64 (.nil))) (.int .i64 (.nil)))) (hdQ (.int .i64 (.sl (.str (.int .i64 (.nil))) (.int .i64 (.nil)))) ds.tail.tail.tail.tail.tail), .i ((hdI ds.tail.tail.tail.tail.tail.tail, hdQ (.str (.int .i64 (.nil))) ds.tail.tail.tail.tail.tail.tail.tail, hdI ds.tail.tail.tail.tail.tail.tail.tail.tail, ()).1), .q (.str (.int .i64 (.nil))) ((hdI ds.tail.tail.tail.tail.tail.tail, hdQ (.str (.int .i64 (.nil))) ds.tail.tail.tail.tail.tail.tail.tail, hdI ds.tail.tail.tail.tail.tail.tail.tail.tail, ()).2.1), .i ((hdI ds.tail.tail.tail.tail.tail.tail, hdQ (.str (.int .i64 (.nil))) ds.tail.tail.tail.tail.tail.tail.tail, hdI ds.tail.tail.tail.tail.tail.tail.tail.tail, ()).2.2.1), .q (.int .i64 (.sl (.str (.int .i64 (.nil))) (.int .i64 (.nil)))) (hdQ (.int .i64 (.sl (.str (.int .i64 (.nil))) (.int .i64 (.nil)))) ds.tail.tail.tail.tail.tail.tail.tail.tail.tail)]) k := by kernel_rfl
  have h2 := draymanref13_Put_l0_eq draymanref13_Fit draymanref13_One draymanref13_Find 1000 (hdQ (.int .i64 (.sl (.str (.int .i64 (.nil))) (.int .i64 (.nil)))) ds) (hdI ds.tail) (hdI ds.tail.tail, hdQ (.str (.int .i64 (.nil))) ds.tail.tail.tail, hdI ds.tail.tail.tail.tail, ()) (hdQ (.int .i64 (.sl (.str (.int .i64 (.nil))) (.int .i64 (.nil)))) ds.tail.tail.tail.tail.tail) (hdI ds.tail.tail.tail.tail.tail.tail, hdQ (.str (.int .i64 (.nil))) ds.tail.tail.tail.tail.tail.tail.tail, hdI ds.tail.tail.tail.tail.tail.tail.tail.tail, ()) (hdQ (.int .i64 (.sl (.str (.int .i64 (.nil))) (.int .i64 (.nil)))) ds.tail.tail.tail.tail.tail.tail.tail.tail.tail) k
  exact h1.trans h2

theorem draymanref13_Put_ev {α : Type} (draymanref13_Fit : draymanref13_Fit_T α) (draymanref13_One : draymanref13_One_T α) (draymanref13_Find : draymanref13_Find_T α) : EvOk (α := α) Go.Proofs.Tryd.prog (envOf (draymanref13_Put_C draymanref13_Fit draymanref13_One draymanref13_Find) draymanref13_Put_q draymanref13_Put_inl 1000 draymanref13_Put_ann false (draymanref13_Put_loops draymanref13_Fit draymanref13_One draymanref13_Find) (fun _ => none)) 6 (draymanref13_Put_sp (draymanref13_Put_g draymanref13_Fit draymanref13_One draymanref13_Find)) := by intro ds k; kernel_rfl

theorem draymanref13_Put_ok {α : Type} : (draymanref13_Put_spec : FunSpec α).ok Go.Proofs.Tryd.prog :=
  FunSpec.ok_of (sp := draymanref13_Put_spec) (C := draymanref13_Put_C draymanref13_Fit draymanref13_One draymanref13_Find) (q := draymanref13_Put_q) (inl := draymanref13_Put_inl) (N := 1000) (ann := draymanref13_Put_ann) (fr := false) (D := 6) (l := (draymanref13_Put_loops draymanref13_Fit draymanref13_One draymanref13_Find)) (hk := (fun _ => none)) (okCons draymanref13_Fit_ok (okCons draymanref13_One_ok (okCons draymanref13_Find_ok okNil))) (lokCons (draymanref13_Put_l0_ok draymanref13_Fit draymanref13_One draymanref13_Find) lokNil) noHooks (draymanref13_Put_ev draymanref13_Fit draymanref13_One draymanref13_Find)

end
end Go.Rv.Tryd

set_option linter.unusedVariables false
set_option maxRecDepth 100000
set_option maxHeartbeats 4000000
namespace Go.Rv.Tryd
open Go Go.Rv Go.RowKit
noncomputable section

-- drayman/draymanref13.Drop

abbrev draymanref13_Drop_T (α : Type) : Type := (Seq (Int × (Seq (ByteArray × Int × Unit)) × Int × Unit)) → Int → (Int → (Seq (Int × (Seq (ByteArray × Int × Unit)) × Int × Unit)) → Option α) → Option α

noncomputable def draymanref13_Drop_l0_step {α : Type} (draymanref13_Fit : draymanref13_Fit_T α) (draymanref13_Find : draymanref13_Find_T α) (k0 : (Seq (Int × (Seq (ByteArray × Int × Unit)) × Int × Unit)) → (Int × (Seq (ByteArray × Int × Unit)) × Int × Unit) → (Seq (Int × (Seq (ByteArray × Int × Unit)) × Int × Unit)) → Option α) (rec : (Seq (Int × (Seq (ByteArray × Int × Unit)) × Int × Unit)) → (Int) → (Int) → (Seq (Int × (Seq (ByteArray × Int × Unit)) × Int × Unit)) → (Int × (Seq (ByteArray × Int × Unit)) × Int × Unit) → (Seq (Int × (Seq (ByteArray × Int × Unit)) × Int × Unit)) → Option α) (l6 : Seq (Int × (Seq (ByteArray × Int × Unit)) × Int × Unit)) (saga7 : Int) (i8 : Int) (q9 : Seq (Int × (Seq (ByteArray × Int × Unit)) × Int × Unit)) (x10 : Int × (Seq (ByteArray × Int × Unit)) × Int × Unit) (q11 : Seq (Int × (Seq (ByteArray × Int × Unit)) × Int × Unit)) : Option α :=
  (cond (decide (i8 < (l6.n : Int)))
    (cond ((decide ((0 : Int) ≤ i8)) && (decide (i8 < (l6.n : Int))))
      (cond ((l6.g i8.toNat).1 != saga7)
        (cond ((decide ((0 : Int) ≤ i8)) && (decide (i8 < (l6.n : Int))))
          (cond (decide (((q11.n + 1)) * 40 ≤ 140737488355328))
            (rec l6 saga7 (IntKind.i64.wrap (i8 + 1)) q9 x10 (⟨(q11.nl && false), (q11.n + 1), (tApp q11.n q11.g (fun _ => (l6.g i8.toNat)))⟩ : Seq (Int × (Seq (ByteArray × Int × Unit)) × Int × Unit)))
            none)
          none)
        (rec l6 saga7 (IntKind.i64.wrap (i8 + 1)) q9 x10 q11))
      none)
    (k0 q9 x10 q11))

noncomputable def draymanref13_Drop_l0_run {α : Type} (draymanref13_Fit : draymanref13_Fit_T α) (draymanref13_Find : draymanref13_Find_T α) (k0 : (Seq (Int × (Seq (ByteArray × Int × Unit)) × Int × Unit)) → (Int × (Seq (ByteArray × Int × Unit)) × Int × Unit) → (Seq (Int × (Seq (ByteArray × Int × Unit)) × Int × Unit)) → Option α) : Nat → (Seq (Int × (Seq (ByteArray × Int × Unit)) × Int × Unit)) → (Int) → (Int) → (Seq (Int × (Seq (ByteArray × Int × Unit)) × Int × Unit)) → (Int × (Seq (ByteArray × Int × Unit)) × Int × Unit) → (Seq (Int × (Seq (ByteArray × Int × Unit)) × Int × Unit)) → Option α
  | 0, _, _, _, _, _, _ => none
  | n + 1, l6, saga7, i8, q9, x10, q11 => draymanref13_Drop_l0_step draymanref13_Fit draymanref13_Find k0 (fun l6 saga7 i8 q9 x10 q11 => draymanref13_Drop_l0_run draymanref13_Fit draymanref13_Find k0 n l6 saga7 i8 q9 x10 q11) l6 saga7 i8 q9 x10 q11

noncomputable def draymanref13_Drop_g {α : Type} (draymanref13_Fit : draymanref13_Fit_T α) (draymanref13_Find : draymanref13_Find_T α) (l1 : Seq (Int × (Seq (ByteArray × Int × Unit)) × Int × Unit)) (saga2 : Int) (k : Int → (Seq (Int × (Seq (ByteArray × Int × Unit)) × Int × Unit)) → Option α) : Option α :=
  (draymanref13_Fit l1 fun r3 =>
    (cond (!r3)
      (k 12 (⟨true, 0, (fun _ => (0, (⟨true, 0, fun _ => (ByteArray.empty, 0, ())⟩ : Seq (ByteArray × Int × Unit)), 0, ()))⟩ : Seq (Int × (Seq (ByteArray × Int × Unit)) × Int × Unit)))
      (draymanref13_Find l1 saga2 fun r4 r5 =>
        (cond (!r5)
          (k 2 (⟨true, 0, (fun _ => (0, (⟨true, 0, fun _ => (ByteArray.empty, 0, ())⟩ : Seq (ByteArray × Int × Unit)), 0, ()))⟩ : Seq (Int × (Seq (ByteArray × Int × Unit)) × Int × Unit)))
          (draymanref13_Drop_l0_run draymanref13_Fit draymanref13_Find
            (fun q12 x13 q14 =>
              (k 0 q14))
            1000 l1 saga2 0 (⟨true, 0, (fun _ => (0, (⟨true, 0, fun _ => (ByteArray.empty, 0, ())⟩ : Seq (ByteArray × Int × Unit)), 0, ()))⟩ : Seq (Int × (Seq (ByteArray × Int × Unit)) × Int × Unit)) r4 (⟨true, 0, (fun _ => (0, (⟨true, 0, fun _ => (ByteArray.empty, 0, ())⟩ : Seq (ByteArray × Int × Unit)), 0, ()))⟩ : Seq (Int × (Seq (ByteArray × Int × Unit)) × Int × Unit)))))))

noncomputable def draymanref13_Drop {α : Type} : draymanref13_Drop_T α := draymanref13_Drop_g draymanref13_Fit draymanref13_Find

noncomputable def draymanref13_Drop_sp {α : Type} (draymanref13_Drop : draymanref13_Drop_T α) : FunSpec α := ⟨28, [.sl (.int .i64 (.sl (.str (.int .i64 (.nil))) (.int .i64 (.nil)))), .int .i64], [], fun ds k => draymanref13_Drop (hdQ (.int .i64 (.sl (.str (.int .i64 (.nil))) (.int .i64 (.nil)))) ds) (hdI ds.tail) (fun r1 q2 => k (enc dep (.tup [.own 0, .int .i64]) [.i r1]).1 (encBs [.row true (.int .i64 (.sl (.str (.int .i64 (.nil))) (.int .i64 (.nil))))] [.q (.int .i64 (.sl (.str (.int .i64 (.nil))) (.int .i64 (.nil)))) q2]).1)⟩

noncomputable def draymanref13_Drop_spec {α : Type} : FunSpec α := draymanref13_Drop_sp draymanref13_Drop

noncomputable def draymanref13_Drop_C {α : Type} (draymanref13_Fit : draymanref13_Fit_T α) (draymanref13_Find : draymanref13_Find_T α) : List (FunSpec α) := [draymanref13_Fit_sp draymanref13_Fit, draymanref13_Find_sp draymanref13_Find]

noncomputable def draymanref13_Drop_q : FuncId → Bool := fun f => Nat.beq f 33

noncomputable def draymanref13_Drop_inl : FuncId → Bool := fun f => false

noncomputable def draymanref13_Drop_ann : FuncId → AnnT := fun f p => if f = 28 then (if p = [true, false, true, true, true, true] then ⟨[0, 1, 8, 9], [0, 2], [8], [4, 5], 0, [], [], none⟩ else ⟨[], [], [], [], 0, [], [], none⟩) else ⟨[], [], [], [], 0, [], [], none⟩

noncomputable def draymanref13_Drop_l0_t : List Sh := [.sl (.int .i64 (.sl (.str (.int .i64 (.nil))) (.int .i64 (.nil)))), .int .i64, .dead, .dead, .dead, .dead, .dead, .dead, .own 2, .int .i64, .dead, .dead, .dead, .dead, .dead, .dead, .dead, .dead, .dead, .dead, .dead, .dead, .dead, .dead, .dead, .dead, .dead, .dead, .dead, .dead, .dead, .dead, .dead, .dead, .dead, .dead, .dead, .dead, .dead, .dead, .dead, .dead]
noncomputable def draymanref13_Drop_l0_s : List (List Sh) := []
noncomputable def draymanref13_Drop_l0_h : List BSh := [.row true (.int .i64 (.sl (.str (.int .i64 (.nil))) (.int .i64 (.nil)))), .box [.int .i64, .sl (.str (.int .i64 (.nil))), .int .i64], .row true (.int .i64 (.sl (.str (.int .i64 (.nil))) (.int .i64 (.nil))))]

noncomputable def draymanref13_Drop_l0_spec {α : Type} (draymanref13_Fit : draymanref13_Fit_T α) (draymanref13_Find : draymanref13_Find_T α) : LoopSpec α := ⟨6, 28, [true, false, true, true, true, true], draymanref13_Drop_l0_t, draymanref13_Drop_l0_s, draymanref13_Drop_l0_h, fun ds k => draymanref13_Drop_l0_run draymanref13_Fit draymanref13_Find (fun y1 y2 y3 => k (.exit 0) (encSt [.dead, .dead, .dead, .dead, .dead, .dead, .dead, .dead, .own 2, .dead, .dead, .dead, .dead, .dead, .dead, .dead, .dead, .dead, .dead, .dead, .dead, .dead, .dead, .dead, .dead, .dead, .dead, .dead, .dead, .dead, .dead, .dead, .dead, .dead, .dead, .dead, .dead, .dead, .dead, .dead, .dead, .dead] [] [.row true (.int .i64 (.sl (.str (.int .i64 (.nil))) (.int .i64 (.nil)))), .box [.int .i64, .sl (.str (.int .i64 (.nil))), .int .i64], .row true (.int .i64 (.sl (.str (.int .i64 (.nil))) (.int .i64 (.nil))))] [.q (.int .i64 (.sl (.str (.int .i64 (.nil))) (.int .i64 (.nil)))) y1, .i y2.1, .q (.str (.int .i64 (.nil))) y2.2.1, .i y2.2.2.1, .q (.int .i64 (.sl (.str (.int .i64 (.nil))) (.int .i64 (.nil)))) y3])) 1000 (hdQ (.int .i64 (.sl (.str (.int .i64 (.nil))) (.int .i64 (.nil)))) ds) (hdI ds.tail) (hdI ds.tail.tail) (hdQ (.int .i64 (.sl (.str (.int .i64 (.nil))) (.int .i64 (.nil)))) ds.tail.tail.tail) (hdI ds.tail.tail.tail.tail, hdQ (.str (.int .i64 (.nil))) ds.tail.tail.tail.tail.tail, hdI ds.tail.tail.tail.tail.tail.tail, ()) (hdQ (.int .i64 (.sl (.str (.int .i64 (.nil))) (.int .i64 (.nil)))) ds.tail.tail.tail.tail.tail.tail.tail)⟩

noncomputable def draymanref13_Drop_loops {α : Type} (draymanref13_Fit : draymanref13_Fit_T α) (draymanref13_Find : draymanref13_Find_T α) : List (LoopSpec α) := [draymanref13_Drop_l0_spec draymanref13_Fit draymanref13_Find]

noncomputable def draymanref13_Drop_l0_ev {α : Type} (draymanref13_Fit : draymanref13_Fit_T α) (draymanref13_Find : draymanref13_Find_T α) (n : Nat) (st : St) (k : X → St → Option α) : Option α := loopN (evCode Go.Proofs.Tryd.prog (callD Go.Proofs.Tryd.prog (envOf (draymanref13_Drop_C draymanref13_Fit draymanref13_Find) draymanref13_Drop_q draymanref13_Drop_inl 1000 draymanref13_Drop_ann false (draymanref13_Drop_loops draymanref13_Fit draymanref13_Find) (fun _ => none)) 6) (((envOf (draymanref13_Drop_C draymanref13_Fit draymanref13_Find) draymanref13_Drop_q draymanref13_Drop_inl 1000 draymanref13_Drop_ann false (draymanref13_Drop_loops draymanref13_Fit draymanref13_Find) (fun _ => none)) : Env α).L 6 28) 1000 (draymanref13_Drop_ann 28) (false :: [true, false, true, true, true, true]) (loopC Go.Proofs.Tryd.prog 28 [true, false, true, true, true, true])) ((draymanref13_Drop_ann 28 [true, false, true, true, true, true]).head 3) ((draymanref13_Drop_ann 28 [true, false, true, true, true, true]).leave 3) n st k

theorem draymanref13_Drop_l0_eq {α : Type} (draymanref13_Fit : draymanref13_Fit_T α) (draymanref13_Find : draymanref13_Find_T α) : ∀ (n : Nat) (l6 : Seq (Int × (Seq (ByteArray × Int × Unit)) × Int × Unit)) (saga7 : Int) (i8 : Int) (q9 : Seq (Int × (Seq (ByteArray × Int × Unit)) × Int × Unit)) (x10 : Int × (Seq (ByteArray × Int × Unit)) × Int × Unit) (q11 : Seq (Int × (Seq (ByteArray × Int × Unit)) × Int × Unit)) (k : X → St → Option α), draymanref13_Drop_l0_ev draymanref13_Fit draymanref13_Find n (encSt draymanref13_Drop_l0_t draymanref13_Drop_l0_s draymanref13_Drop_l0_h [.q (.int .i64 (.sl (.str (.int .i64 (.nil))) (.int .i64 (.nil)))) l6, .i saga7, .i i8, .q (.int .i64 (.sl (.str (.int .i64 (.nil))) (.int .i64 (.nil)))) q9, .i x10.1, .q (.str (.int .i64 (.nil))) x10.2.1, .i x10.2.2.1, .q (.int .i64 (.sl (.str (.int .i64 (.nil))) (.int .i64 (.nil)))) q11]) k = draymanref13_Drop_l0_run draymanref13_Fit draymanref13_Find (fun y1 y2 y3 => k (.exit 0) (encSt [.dead, .dead, .dead, .dead, .dead, .dead, .dead, .dead, .own 2, .dead, .dead, .dead, .dead, .dead, .dead, .dead, .dead, .dead, .dead, .dead, .dead, .dead, .dead, .dead, .dead, .dead, .dead, .dead, .dead, .dead, .dead, .dead, .dead, .dead, .dead, .dead, .dead, .dead, .dead, .dead, .dead, .dead] [] [.row true (.int .i64 (.sl (.str (.int .i64 (.nil))) (.int .i64 (.nil)))), .box [.int .i64, .sl (.str (.int .i64 (.nil))), .int .i64], .row true (.int .i64 (.sl (.str (.int .i64 (.nil))) (.int .i64 (.nil))))] [.q (.int .i64 (.sl (.str (.int .i64 (.nil))) (.int .i64 (.nil)))) y1, .i y2.1, .q (.str (.int .i64 (.nil))) y2.2.1, .i y2.2.2.1, .q (.int .i64 (.sl (.str (.int .i64 (.nil))) (.int .i64 (.nil)))) y3])) n l6 saga7 i8 q9 x10 q11 := by
  intro n
  induction n with
  | zero => intros; kernel_rfl
  | succ n ih =>
    intro l6 saga7 i8 q9 x10 q11 k
    have e : (fun (l6 : Seq (Int × (Seq (ByteArray × Int × Unit)) × Int × Unit)) (saga7 : Int) (i8 : Int) (q9 : Seq (Int × (Seq (ByteArray × Int × Unit)) × Int × Unit)) (x10 : Int × (Seq (ByteArray × Int × Unit)) × Int × Unit) (q11 : Seq (Int × (Seq (ByteArray × Int × Unit)) × Int × Unit)) => draymanref13_Drop_l0_ev draymanref13_Fit draymanref13_Find n (encSt draymanref13_Drop_l0_t draymanref13_Drop_l0_s draymanref13_Drop_l0_h [.q (.int .i64 (.sl (.str (.int .i64 (.nil))) (.int .i64 (.nil)))) l6, .i saga7, .i i8, .q (.int .i64 (.sl (.str (.int .i64 (.nil))) (.int .i64 (.nil)))) q9, .i x10.1, .q (.str (.int .i64 (.nil))) x10.2.1, .i x10.2.2.1, .q (.int .i64 (.sl (.str (.int .i64 (.nil))) (.int .i64 (.nil)))) q11]) k) = (fun (l6 : Seq (Int × (Seq (ByteArray × Int × Unit)) × Int × Unit)) (saga7 : Int) (i8 : Int) (q9 : Seq (Int × (Seq (ByteArray × Int × Unit)) × Int × Unit)) (x10 : Int × (Seq (ByteArray × Int × Unit)) × Int × Unit) (q11 : Seq (Int × (Seq (ByteArray × Int × Unit)) × Int × Unit)) => draymanref13_Drop_l0_run draymanref13_Fit draymanref13_Find (fun y1 y2 y3 => k (.exit 0) (encSt [.dead, .dead, .dead, .dead, .dead, .dead, .dead, .dead, .own 2, .dead, .dead, .dead, .dead, .dead, .dead, .dead, .dead, .dead, .dead, .dead, .dead, .dead, .dead, .dead, .dead, .dead, .dead, .dead, .dead, .dead, .dead, .dead, .dead, .dead, .dead, .dead, .dead, .dead, .dead, .dead, .dead, .dead] [] [.row true (.int .i64 (.sl (.str (.int .i64 (.nil))) (.int .i64 (.nil)))), .box [.int .i64, .sl (.str (.int .i64 (.nil))), .int .i64], .row true (.int .i64 (.sl (.str (.int .i64 (.nil))) (.int .i64 (.nil))))] [.q (.int .i64 (.sl (.str (.int .i64 (.nil))) (.int .i64 (.nil)))) y1, .i y2.1, .q (.str (.int .i64 (.nil))) y2.2.1, .i y2.2.2.1, .q (.int .i64 (.sl (.str (.int .i64 (.nil))) (.int .i64 (.nil)))) y3])) n l6 saga7 i8 q9 x10 q11) := by
      funext l6 saga7 i8 q9 x10 q11
      exact ih l6 saga7 i8 q9 x10 q11 k
    have h1 : draymanref13_Drop_l0_ev draymanref13_Fit draymanref13_Find (n + 1) (encSt draymanref13_Drop_l0_t draymanref13_Drop_l0_s draymanref13_Drop_l0_h [.q (.int .i64 (.sl (.str (.int .i64 (.nil))) (.int .i64 (.nil)))) l6, .i saga7, .i i8, .q (.int .i64 (.sl (.str (.int .i64 (.nil))) (.int .i64 (.nil)))) q9, .i x10.1, .q (.str (.int .i64 (.nil))) x10.2.1, .i x10.2.2.1, .q (.int .i64 (.sl (.str (.int .i64 (.nil))) (.int .i64 (.nil)))) q11]) k = draymanref13_Drop_l0_step draymanref13_Fit draymanref13_Find (fun y1 y2 y3 => k (.exit 0) (encSt [.dead, .dead, .dead, .dead, .dead, .dead, .dead, .dead, .own 2, .dead, .dead, .dead, .dead, .dead, .dead, .dead, .dead, .dead, .dead, .dead, .dead, .dead, .dead, .dead, .dead, .dead, .dead, .dead, .dead, .dead, .dead, .dead, .dead, .dead, .dead, .dead, .dead, .dead, .dead, .dead, .dead, .dead] [] [.row true (.int .i64 (.sl (.str (.int .i64 (.nil))) (.int .i64 (.nil)))), .box [.int .i64, .sl (.str (.int .i64 (.nil))), .int .i64], .row true (.int .i64 (.sl (.str (.int .i64 (.nil))) (.int .i64 (.nil))))] [.q (.int .i64 (.sl (.str (.int .i64 (.nil))) (.int .i64 (.nil)))) y1, .i y2.1, .q (.str (.int .i64 (.nil))) y2.2.1, .i y2.2.2.1, .q (.int .i64 (.sl (.str (.int .i64 (.nil))) (.int .i64 (.nil)))) y3])) (fun (l6 : Seq (Int × (Seq (ByteArray × Int × Unit)) × Int × Unit)) (saga7 : Int) (i8 : Int) (q9 : Seq (Int × (Seq (ByteArray × Int × Unit)) × Int × Unit)) (x10 : Int × (Seq (ByteArray × Int × Unit)) × Int × Unit) (q11 : Seq (Int × (Seq (ByteArray × Int × Unit)) × Int × Unit)) => draymanref13_Drop_l0_ev draymanref13_Fit draymanref13_Find n (encSt draymanref13_Drop_l0_t draymanref13_Drop_l0_s draymanref13_Drop_l0_h [.q (.int .i64 (.sl (.str (.int .i64 (.nil))) (.int .i64 (.nil)))) l6, .i saga7, .i i8, .q (.int .i64 (.sl (.str (.int .i64 (.nil))) (.int .i64 (.nil)))) q9, .i x10.1, .q (.str (.int .i64 (.nil))) x10.2.1, .i x10.2.2.1, .q (.int .i64 (.sl (.str (.int .i64 (.nil))) (.int .i64 (.nil)))) q11]) k) l6 saga7 i8 q9 x10 q11 := by kernel_rfl
    have h2 := congrArg (fun r => draymanref13_Drop_l0_step draymanref13_Fit draymanref13_Find (fun y1 y2 y3 => k (.exit 0) (encSt [.dead, .dead, .dead, .dead, .dead, .dead, .dead, .dead, .own 2, .dead, .dead, .dead, .dead, .dead, .dead, .dead, .dead, .dead, .dead, .dead, .dead, .dead, .dead, .dead, .dead, .dead, .dead, .dead, .dead, .dead, .dead, .dead, .dead, .dead, .dead, .dead, .dead, .dead, .dead, .dead, .dead, .dead] [] [.row true (.int .i64 (.sl (.str (.int .i64 (.nil))) (.int .i64 (.nil)))), .box [.int .i64, .sl (.str (.int .i64 (.nil))), .int .i64], .row true (.int .i64 (.sl (.str (.int .i64 (.nil))) (.int .i64 (.nil))))] [.q (.int .i64 (.sl (.str (.int .i64 (.nil))) (.int .i64 (.nil)))) y1, .i y2.1, .q (.str (.int .i64 (.nil))) y2.2.1, .i y2.2.2.1, .q (.int .i64 (.sl (.str (.int .i64 (.nil))) (.int .i64 (.nil)))) y3])) r l6 saga7 i8 q9 x10 q11) e
    have h3 : draymanref13_Drop_l0_step draymanref13_Fit draymanref13_Find (fun y1 y2 y3 => k (.exit 0) (encSt [.dead, .dead, .dead, .dead, .dead, .dead, .dead, .dead, .own 2, .dead, .dead, .dead, .dead, .dead, .dead, .dead, .dead, .dead, .dead, .dead, .dead, .dead, .dead, .dead, .dead, .dead, .dead, .dead, .dead, .dead, .dead, .dead, .dead, .dead, .dead, .dead, .dead, .dead, .dead, .dead, .dead, .dead] [] [.row true (.int .i64 (.sl (.str (.int .i64 (.nil))) (.int .i64 (.nil)))), .box [.int .i64, .sl (.str (.int .i64 (.nil))), .int .i64], .row true (.int .i64 (.sl (.str (.int .i64 (.nil))) (.int .i64 (.nil))))] [.q (.int .i64 (.sl (.str (.int .i64 (.nil))) (.int .i64 (.nil)))) y1, .i y2.1, .q (.str (.int .i64 (.nil))) y2.2.1, .i y2.2.2.1, .q (.int .i64 (.sl (.str (.int .i64 (.nil))) (.int .i64 (.nil)))) y3])) (fun (l6 : Seq (Int × (Seq (ByteArray × Int × Unit)) × Int × Unit)) (saga7 : Int) (i8 : Int) (q9 : Seq (Int × (Seq (ByteArray × Int × Unit)) × Int × Unit)) (x10 : Int × (Seq (ByteArray × Int × Unit)) × Int × Unit) (q11 : Seq (Int × (Seq (ByteArray × Int × Unit)) × Int × Unit)) => draymanref13_Drop_l0_run draymanref13_Fit draymanref13_Find (fun y1 y2 y3 => k (.exit 0) (encSt [.dead, .dead, .dead, .dead, .dead, .dead, .dead, .dead, .own 2, .dead, .dead, .dead, .dead, .dead, .dead, .dead, .dead, .dead, .dead, .dead, .dead, .dead, .dead, .dead, .dead, .dead, .dead, .dead, .dead, .dead, .dead, .dead, .dead, .dead, .dead, .dead, .dead, .dead, .dead, .dead, .dead, .dead] [] [.row true (.int .i64 (.sl (.str (.int .i64 (.nil))) (.int .i64 (.nil)))), .box [.int .i64, .sl (.str (.int .i64 (.nil))), .int .i64], .row true (.int .i64 (.sl (.str (.int .i64 (.nil))) (.int .i64 (.nil))))] [.q (.int .i64 (.sl (.str (.int .i64 (.nil))) (.int .i64 (.nil)))) y1, .i y2.1, .q (.str (.int .i64 (.nil))) y2.2.1, .i y2.2.2.1, .q (.int .i64 (.sl (.str (.int .i64 (.nil))) (.int .i64 (.nil)))) y3])) n l6 saga7 i8 q9 x10 q11) l6 saga7 i8 q9 x10 q11 = draymanref13_Drop_l0_run draymanref13_Fit draymanref13_Find (fun y1 y2 y3 => k (.exit 0) (encSt [.dead, .dead, .dead, .dead, .dead, .dead, .dead, .dead, .own 2, .dead, .dead, .dead, .dead, .dead, .dead, .dead, .dead, .dead, .dead, .dead, .dead, .dead, .dead, .dead, .dead, .dead, .dead, .dead, .dead, .dead, .dead, .dead, .dead, .dead, .dead, .dead, .dead, .dead, .dead, .dead, .dead, .dead] [] [.row true (.int .i64 (.sl (.str (.int .i64 (.nil))) (.int .i64 (.nil)))), .box [.int .i64, .sl (.str (.int .i64 (.nil))), .int .i64], .row true (.int .i64 (.sl (.str (.int .i64 (.nil))) (.int .i64 (.nil))))] [.q (.int .i64 (.sl (.str (.int .i64 (.nil))) (.int .i64 (.nil)))) y1, .i y2.1, .q (.str (.int .i64 (.nil))) y2.2.1, .i y2.2.2.1, .q (.int .i64 (.sl (.str (.int .i64 (.nil))) (.int .i64 (.nil)))) y3])) (n + 1) l6 saga7 i8 q9 x10 q11 := by kernel_rfl
    exact h1.trans (h2.trans h3)

theorem draymanref13_Drop_l0_ok {α : Type} (draymanref13_Fit : draymanref13_Fit_T α) (draymanref13_Find : draymanref13_Find_T α) : (draymanref13_Drop_l0_spec draymanref13_Fit draymanref13_Find : LoopSpec α).ok Go.Proofs.Tryd.prog (envOf (draymanref13_Drop_C draymanref13_Fit draymanref13_Find) draymanref13_Drop_q draymanref13_Drop_inl 1000 draymanref13_Drop_ann false (draymanref13_Drop_loops draymanref13_Fit draymanref13_Find) (fun _ => none)) := by
  intro ds k
  have h1 : draymanref13_Drop_l0_ev draymanref13_Fit draymanref13_Find 1000 (encSt draymanref13_Drop_l0_t draymanref13_Drop_l0_s draymanref13_Drop_l0_h ds) k = draymanref13_Drop_l0_ev draymanref13_Fit draymanref13_Find 1000 (encSt draymanref13_Drop_l0_t draymanref13_Drop_l0_s draymanref13_Drop_l0_h [.q (.int .i64 (.sl (.str (.int .i64 (.nil))) (.int .i64 (.nil)))) (hdQ (.int .i64 (.sl (.str (.int .i64 (.nil))) (.int .i64 (.nil)))) ds), .i (hdI ds.tail), .i (hdI ds.tail.tail), .q (.int .i64 (.sl (.str (.int .i64 (.nil))) (.int .i64 (.nil)))) (hdQ (.int .i64 (.sl (.str (.int .i64 (.nil))) (.int .i64 (.nil)))) ds.tail.tail.tail), .i ((hdI ds.tail.tail.tail.tail, hdQ (.str (.int .i64 (.nil))) ds.tail.tail.tail.tail.tail, hdI ds.tail.tail.tail.tail.tail.tail, ()).1), .q (.str (.int .i64 (.nil))) ((hdI ds.tail.tail.tail.tail, hdQ (.str (.int .i64 (.nil))) ds.tail.tail.tail.tail.tail, hdI ds.tail.tail.tail.tail.tail.tail, ()).2.1), .i ((hdI ds.tail.tail.tail.tail, hdQ (.str (.int .i64 (.nil))) ds.tail.tail.tail.tail.tail, hdI ds.tail.tail.tail.tail.tail.tail, ()).2.2.1), .q (.int .i64 (.sl (.str (.int .i64 (.nil))) (.int .i64 (.nil)))) (hdQ (.int .i64 (.sl (.str (.int .i64 (.nil))) (.int .i64 (.nil)))) ds.tail.tail.tail.tail.tail.tail.tail)]) k := by kernel_rfl
  have h2 := draymanref13_Drop_l0_eq draymanref13_Fit draymanref13_Find 1000 (hdQ (.int .i64 (.sl (.str (.int .i64 (.nil))) (.int .i64 (.nil)))) ds) (hdI ds.tail) (hdI ds.tail.tail) (hdQ (.int .i64 (.sl (.str (.int .i64 (.nil))) (.int .i64 (.nil)))) ds.tail.tail.tail) (hdI ds.tail.tail.tail.tail, hdQ (.str (.int .i64 (.nil))) ds.tail.tail.tail.tail.tail, hdI ds.tail.tail.tail.tail.tail.tail, ()) (hdQ (.int .i64 (.sl (.str (.int .i64 (.nil))) (.int .i64 (.nil)))) ds.tail.tail.tail.tail.tail.tail.tail) k
  exact h1.trans h2

theorem draymanref13_Drop_ev {α : Type} (draymanref13_Fit : draymanref13_Fit_T α) (draymanref13_Find : draymanref13_Find_T α) : EvOk (α := α) Go.Proofs.Tryd.prog (envOf (draymanref13_Drop_C draymanref13_Fit draymanref13_Find) draymanref13_Drop_q draymanref13_Drop_inl 1000 draymanref13_Drop_ann false (draymanref13_Drop_loops draymanref13_Fit draymanref13_Find) (fun _ => none)) 6 (draymanref13_Drop_sp (draymanref13_Drop_g draymanref13_Fit draymanref13_Find)) := by intro ds k; kernel_rfl

theorem draymanref13_Drop_ok {α : Type} : (draymanref13_Drop_spec : FunSpec α).ok Go.Proofs.Tryd.prog :=
  FunSpec.ok_of (sp := draymanref13_Drop_spec) (C := draymanref13_Drop_C draymanref13_Fit draymanref13_Find) (q := draymanref13_Drop_q) (inl := draymanref13_Drop_inl) (N := 1000) (ann := draymanref13_Drop_ann) (fr := false) (D := 6) (l := (draymanref13_Drop_loops draymanref13_Fit draymanref13_Find)) (hk := (fun _ => none)) (okCons draymanref13_Fit_ok (okCons draymanref13_Find_ok okNil)) (lokCons (draymanref13_Drop_l0_ok draymanref13_Fit draymanref13_Find) lokNil) noHooks (draymanref13_Drop_ev draymanref13_Fit draymanref13_Find)

end
end Go.Rv.Tryd
