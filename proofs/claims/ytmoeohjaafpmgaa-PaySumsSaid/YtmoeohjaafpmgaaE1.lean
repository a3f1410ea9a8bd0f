/- What the functions of the program compute, each with the proof that its code computes it. Written by a program (rvp2.py). -/
import Derived.Test.YtmoeohjaafpmgaaProg
import Derived.Test.YtmoeohjaafpmgaaRvP
import Derived.Test.YtmoeohjaafpmgaaFx
import Derived.Test.YtmoeohjaafpmgaaE0

set_option linter.unusedVariables false
set_option maxRecDepth 100000
set_option maxHeartbeats 4000000
namespace Go.Rv.Try
open Go Go.Rv Go.RowKit
noncomputable section

-- slices.Concat[[]drayman/api.Key,drayman/api.Key]

abbrev slices_Concat_api_Key_api_Key_T (α : Type) : Type := (Seq ((Seq Z1) × Unit)) → ((Seq Z1) → Option α) → Option α

noncomputable def slices_Concat_api_Key_api_Key_l0_step {α : Type} (k0 : (Seq ((Seq Z1) × Unit)) → (Int) → (Seq Z1) → Option α) (rec : (Seq ((Seq Z1) × Unit)) → (Int) → (Seq ((Seq Z1) × Unit)) → (Int) → (Int) → (Seq Z1) → Option α) (slices2 : Seq ((Seq Z1) × Unit)) (size3 : Int) (x4 : Seq ((Seq Z1) × Unit)) (x5 : Int) (x6 : Int) (q7 : Seq Z1) : Option α :=
  (cond (decide (x6 < x5))
    (cond ((decide ((0 : Int) ≤ x6)) && (decide (x6 < (x4.n : Int))))
      (cond (decide ((IntKind.i64.wrap (size3 + (((x4.g x6.toNat).1.n : Nat) : Int))) < 0))
        none
        (rec slices2 (IntKind.i64.wrap (size3 + (((x4.g x6.toNat).1.n : Nat) : Int))) x4 x5 (IntKind.i64.wrap (x6 + 1)) q7))
      none)
    (k0 slices2 size3 q7))

noncomputable def slices_Concat_api_Key_api_Key_l0_run {α : Type} (k0 : (Seq ((Seq Z1) × Unit)) → (Int) → (Seq Z1) → Option α) : Nat → (Seq ((Seq Z1) × Unit)) → (Int) → (Seq ((Seq Z1) × Unit)) → (Int) → (Int) → (Seq Z1) → Option α
  | 0, _, _, _, _, _, _ => none
  | n + 1, slices2, size3, x4, x5, x6, q7 => slices_Concat_api_Key_api_Key_l0_step k0 (fun slices2 size3 x4 x5 x6 q7 => slices_Concat_api_Key_api_Key_l0_run k0 n slices2 size3 x4 x5 x6 q7) slices2 size3 x4 x5 x6 q7

noncomputable def slices_Concat_api_Key_api_Key_l1_step {α : Type} (k2 : (Seq Z1) → (Seq Z1) → (Seq Z1) → Option α) (rec : (Seq ((Seq Z1) × Unit)) → (Int) → (Int) → (Seq Z1) → (Seq Z1) → (Seq Z1) → Option α) (x11 : Seq ((Seq Z1) × Unit)) (x12 : Int) (x13 : Int) (q14 : Seq Z1) (q15 : Seq Z1) (q16 : Seq Z1) : Option α :=
  (cond (decide (x13 < x12))
    (cond ((decide ((0 : Int) ≤ x13)) && (decide (x13 < (x11.n : Int))))
      (cond (decide (((q16.n + (x11.g x13.toNat).1.n)) * 48 ≤ 140737488355328))
        (rec x11 x12 (IntKind.i64.wrap (x13 + 1)) q14 q15 (⟨(q16.nl && (Nat.beq (x11.g x13.toNat).1.n 0)), (q16.n + (x11.g x13.toNat).1.n), (tApp q16.n q16.g (x11.g x13.toNat).1.g)⟩ : Seq Z1))
        none)
      none)
    (k2 q14 q15 q16))

noncomputable def slices_Concat_api_Key_api_Key_l1_run {α : Type} (k2 : (Seq Z1) → (Seq Z1) → (Seq Z1) → Option α) : Nat → (Seq ((Seq Z1) × Unit)) → (Int) → (Int) → (Seq Z1) → (Seq Z1) → (Seq Z1) → Option α
  | 0, _, _, _, _, _, _ => none
  | n + 1, x11, x12, x13, q14, q15, q16 => slices_Concat_api_Key_api_Key_l1_step k2 (fun x11 x12 x13 q14 q15 q16 => slices_Concat_api_Key_api_Key_l1_run k2 n x11 x12 x13 q14 q15 q16) x11 x12 x13 q14 q15 q16

noncomputable def slices_Concat_api_Key_api_Key {α : Type} (slices1 : Seq ((Seq Z1) × Unit)) (k : (Seq Z1) → Option α) : Option α :=
  (slices_Concat_api_Key_api_Key_l0_run
    (fun x8 x9 q10 =>
      (cond (decide (x9 < 0))
        none
        (cond (decide ((IntKind.i64.wrap (x9 - 0)) > 0))
          (cond (((decide ((0 : Int) ≤ (IntKind.i64.wrap (x9 - 0)))) && (decide ((IntKind.i64.wrap (x9 - 0)) * 48 ≤ 140737488355328))) && (decide (((0 + (IntKind.i64.wrap (x9 - 0)).toNat)) * 48 ≤ 140737488355328)))
            (cond (decide ((0 : Int) ≤ (((0 + (IntKind.i64.wrap (x9 - 0)).toNat) : Nat) : Int)))
              (slices_Concat_api_Key_api_Key_l1_run
                (fun q17 q18 q19 =>
                  (k q19))
                1000 x8 (x8.n : Int) 0 q10 (⟨true, 0, (fun _ => (0, 0, 0, 0, 0, 0, ()))⟩ : Seq Z1) (⟨(Nat.beq (IntKind.i64.wrap (x9 - 0)).toNat 0), 0, (tApp 0 (fun _ => (0, 0, 0, 0, 0, 0, ())) (fun _ => (0, 0, 0, 0, 0, 0, ())))⟩ : Seq Z1))
              none)
            none)
          (slices_Concat_api_Key_api_Key_l1_run
            (fun q20 q21 q22 =>
              (k q22))
            1000 x8 (x8.n : Int) 0 q10 (⟨true, 0, (fun _ => (0, 0, 0, 0, 0, 0, ()))⟩ : Seq Z1) (⟨true, 0, (fun _ => (0, 0, 0, 0, 0, 0, ()))⟩ : Seq Z1)))))
    1000 slices1 0 slices1 (slices1.n : Int) 0 (⟨true, 0, (fun _ => (0, 0, 0, 0, 0, 0, ()))⟩ : Seq Z1))

noncomputable def slices_Concat_api_Key_api_Key_sp {α : Type} (slices_Concat_api_Key_api_Key : slices_Concat_api_Key_api_Key_T α) : FunSpec α := ⟨82, [.sl (.sl (.int .i64 (.int .i64 (.int .i64 (.int .i64 (.int .i64 (.int .i64 (.nil))))))) (.nil))], [], fun ds k => slices_Concat_api_Key_api_Key (hdQ (.sl (.int .i64 (.int .i64 (.int .i64 (.int .i64 (.int .i64 (.int .i64 (.nil))))))) (.nil)) ds) (fun q1 => k (enc dep (.own 0) []).1 (encBs [.row true (.int .i64 (.int .i64 (.int .i64 (.int .i64 (.int .i64 (.int .i64 (.nil)))))))] [.q (.int .i64 (.int .i64 (.int .i64 (.int .i64 (.int .i64 (.int .i64 (.nil))))))) q1]).1)⟩

noncomputable def slices_Concat_api_Key_api_Key_spec {α : Type} : FunSpec α := slices_Concat_api_Key_api_Key_sp slices_Concat_api_Key_api_Key

noncomputable def slices_Concat_api_Key_api_Key_C {α : Type} : List (FunSpec α) := []

noncomputable def slices_Concat_api_Key_api_Key_q : FuncId → Bool := fun f => false

noncomputable def slices_Concat_api_Key_api_Key_inl : FuncId → Bool := fun f => Nat.beq f 83

noncomputable def slices_Concat_api_Key_api_Key_ann : FuncId → AnnT := fun f p => if f = 82 then (if p = [true, false, true, true, true, true] then ⟨[6, 25, 26, 27], [0, 1, 2], [6], [2], 0, [6], [], none⟩ else if p = [true, false, true, true] then ⟨[0, 3, 9, 10, 11], [0], [0, 3], [2], 0, [], [], none⟩ else ⟨[], [], [], [], 0, [], [], none⟩) else ⟨[], [], [], [], 0, [], [], none⟩

noncomputable def slices_Concat_api_Key_api_Key_l0_t : List Sh := [.sl (.sl (.int .i64 (.int .i64 (.int .i64 (.int .i64 (.int .i64 (.int .i64 (.nil))))))) (.nil)), .dead, .dead, .int .i64, .dead, .dead, .dead, .dead, .dead, .sl (.sl (.int .i64 (.int .i64 (.int .i64 (.int .i64 (.int .i64 (.int .i64 (.nil))))))) (.nil)), .int .i64, .int .i64, .dead, .dead, .dead, .dead, .dead, .dead, .dead, .dead, .dead, .dead, .dead, .dead, .dead, .dead, .dead, .dead, .dead, .dead, .dead, .dead, .dead, .dead, .dead, .dead]
noncomputable def slices_Concat_api_Key_api_Key_l0_s : List (List Sh) := []
noncomputable def slices_Concat_api_Key_api_Key_l0_h : List BSh := [.row true (.int .i64 (.int .i64 (.int .i64 (.int .i64 (.int .i64 (.int .i64 (.nil)))))))]

noncomputable def slices_Concat_api_Key_api_Key_l0_spec {α : Type} : LoopSpec α := ⟨6, 82, [true, false, true, true], slices_Concat_api_Key_api_Key_l0_t, slices_Concat_api_Key_api_Key_l0_s, slices_Concat_api_Key_api_Key_l0_h, fun ds k => slices_Concat_api_Key_api_Key_l0_run (fun y1 y2 y3 => k (.exit 0) (encSt [.sl (.sl (.int .i64 (.int .i64 (.int .i64 (.int .i64 (.int .i64 (.int .i64 (.nil))))))) (.nil)), .dead, .dead, .int .i64, .dead, .dead, .dead, .dead, .dead, .dead, .dead, .dead, .dead, .dead, .dead, .dead, .dead, .dead, .dead, .dead, .dead, .dead, .dead, .dead, .dead, .dead, .dead, .dead, .dead, .dead, .dead, .dead, .dead, .dead, .dead, .dead] [] [.row true (.int .i64 (.int .i64 (.int .i64 (.int .i64 (.int .i64 (.int .i64 (.nil)))))))] [.q (.sl (.int .i64 (.int .i64 (.int .i64 (.int .i64 (.int .i64 (.int .i64 (.nil))))))) (.nil)) y1, .i y2, .q (.int .i64 (.int .i64 (.int .i64 (.int .i64 (.int .i64 (.int .i64 (.nil))))))) y3])) 1000 (hdQ (.sl (.int .i64 (.int .i64 (.int .i64 (.int .i64 (.int .i64 (.int .i64 (.nil))))))) (.nil)) ds) (hdI ds.tail) (hdQ (.sl (.int .i64 (.int .i64 (.int .i64 (.int .i64 (.int .i64 (.int .i64 (.nil))))))) (.nil)) ds.tail.tail) (hdI ds.tail.tail.tail) (hdI ds.tail.tail.tail.tail) (hdQ (.int .i64 (.int .i64 (.int .i64 (.int .i64 (.int .i64 (.int .i64 (.nil))))))) ds.tail.tail.tail.tail.tail)⟩

noncomputable def slices_Concat_api_Key_api_Key_l1_t : List Sh := [.dead, .dead, .dead, .dead, .dead, .dead, .own 2, .dead, .dead, .dead, .dead, .dead, .dead, .dead, .dead, .dead, .dead, .dead, .dead, .dead, .dead, .dead, .dead, .dead, .dead, .sl (.sl (.int .i64 (.int .i64 (.int .i64 (.int .i64 (.int .i64 (.int .i64 (.nil))))))) (.nil)), .int .i64, .int .i64, .dead, .dead, .dead, .dead, .dead, .dead, .dead, .dead]
noncomputable def slices_Concat_api_Key_api_Key_l1_s : List (List Sh) := []
noncomputable def slices_Concat_api_Key_api_Key_l1_h : List BSh := [.row true (.int .i64 (.int .i64 (.int .i64 (.int .i64 (.int .i64 (.int .i64 (.nil))))))), .row true (.int .i64 (.int .i64 (.int .i64 (.int .i64 (.int .i64 (.int .i64 (.nil))))))), .row true (.int .i64 (.int .i64 (.int .i64 (.int .i64 (.int .i64 (.int .i64 (.nil)))))))]

noncomputable def slices_Concat_api_Key_api_Key_l1_spec {α : Type} : LoopSpec α := ⟨6, 82, [true, false, true, true, true, true], slices_Concat_api_Key_api_Key_l1_t, slices_Concat_api_Key_api_Key_l1_s, slices_Concat_api_Key_api_Key_l1_h, fun ds k => slices_Concat_api_Key_api_Key_l1_run (fun y1 y2 y3 => k (.exit 2) (encSt [.dead, .dead, .dead, .dead, .dead, .dead, .own 2, .dead, .dead, .dead, .dead, .dead, .dead, .dead, .dead, .dead, .dead, .dead, .dead, .dead, .dead, .dead, .dead, .dead, .dead, .dead, .dead, .dead, .dead, .dead, .dead, .dead, .dead, .dead, .dead, .dead] [] [.row true (.int .i64 (.int .i64 (.int .i64 (.int .i64 (.int .i64 (.int .i64 (.nil))))))), .row true (.int .i64 (.int .i64 (.int .i64 (.int .i64 (.int .i64 (.int .i64 (.nil))))))), .row true (.int .i64 (.int .i64 (.int .i64 (.int .i64 (.int .i64 (.int .i64 (.nil)))))))] [.q (.int .i64 (.int .i64 (.int .i64 (.int .i64 (.int .i64 (.int .i64 (.nil))))))) y1, .q (.int .i64 (.int .i64 (.int .i64 (.int .i64 (.int .i64 (.int .i64 (.nil))))))) y2, .q (.int .i64 (.int .i64 (.int .i64 (.int .i64 (.int .i64 (.int .i64 (.nil))))))) y3])) 1000 (hdQ (.sl (.int .i64 (.int .i64 (.int .i64 (.int .i64 (.int .i64 (.int .i64 (.nil))))))) (.nil)) ds) (hdI ds.tail) (hdI ds.tail.tail) (hdQ (.int .i64 (.int .i64 (.int .i64 (.int .i64 (.int .i64 (.int .i64 (.nil))))))) ds.tail.tail.tail) (hdQ (.int .i64 (.int .i64 (.int .i64 (.int .i64 (.int .i64 (.int .i64 (.nil))))))) ds.tail.tail.tail.tail) (hdQ (.int .i64 (.int .i64 (.int .i64 (.int .i64 (.int .i64 (.int .i64 (.nil))))))) ds.tail.tail.tail.tail.tail)⟩

noncomputable def slices_Concat_api_Key_api_Key_loops {α : Type} : List (LoopSpec α) := [slices_Concat_api_Key_api_Key_l0_spec, slices_Concat_api_Key_api_Key_l1_spec]

noncomputable def slices_Concat_api_Key_api_Key_l0_ev {α : Type} (n : Nat) (st : St) (k : X → St → Option α) : Option α := loopN (evCode Go.Proofs.Try.prog (callD Go.Proofs.Try.prog (envOf (slices_Concat_api_Key_api_Key_C) slices_Concat_api_Key_api_Key_q slices_Concat_api_Key_api_Key_inl 1000 slices_Concat_api_Key_api_Key_ann false (slices_Concat_api_Key_api_Key_loops) (fun _ => none)) 6) (((envOf (slices_Concat_api_Key_api_Key_C) slices_Concat_api_Key_api_Key_q slices_Concat_api_Key_api_Key_inl 1000 slices_Concat_api_Key_api_Key_ann false (slices_Concat_api_Key_api_Key_loops) (fun _ => none)) : Env α).L 6 82) 1000 (slices_Concat_api_Key_api_Key_ann 82) (false :: [true, false, true, true]) (loopC Go.Proofs.Try.prog 82 [true, false, true, true])) ((slices_Concat_api_Key_api_Key_ann 82 [true, false, true, true]).head 1) ((slices_Concat_api_Key_api_Key_ann 82 [true, false, true, true]).leave 1) n st k

theorem slices_Concat_api_Key_api_Key_l0_eq {α : Type} : ∀ (n : Nat) (slices2 : Seq ((Seq Z1) × Unit)) (size3 : Int) (x4 : Seq ((Seq Z1) × Unit)) (x5 : Int) (x6 : Int) (q7 : Seq Z1) (k : X → St → Option α), slices_Concat_api_Key_api_Key_l0_ev n (encSt slices_Concat_api_Key_api_Key_l0_t slices_Concat_api_Key_api_Key_l0_s slices_Concat_api_Key_api_Key_l0_h [.q (.sl (.int .i64 (.int .i64 (.int .i64 (.int .i64 (.int .i64 (.int .i64 (.nil))))))) (.nil)) slices2, .i size3, .q (.sl (.int .i64 (.int .i64 (.int .i64 (.int .i64 (.int .i64 (.int .i64 (.nil))))))) (.nil)) x4, .i x5, .i x6, .q (.int .i64 (.int .i64 (.int .i64 (.int .i64 (.int .i64 (.int .i64 (.nil))))))) q7]) k = slices_Concat_api_Key_api_Key_l0_run (fun y1 y2 y3 => k (.exit 0) (encSt [.sl (.sl (.int .i64 (.int .i64 (.int .i64 (.int .i64 (.int .i64 (.int .i64 (.nil))))))) (.nil)), .dead, .dead, .int .i64, .dead, .dead, .dead, .dead, .dead, .dead, .dead, .dead, .dead, .dead, .dead, .dead, .dead, .dead, .dead, .dead, .dead, .dead, .dead, .dead, .dead, .dead, .dead, .dead, .dead, .dead, .dead, .dead, .dead, .dead, .dead, .dead] [] [.row true (.int .i64 (.int .i64 (.int .i64 (.int .i64 (.int .i64 (.int .i64 (.nil)))))))] [.q (.sl (.int .i64 (.int .i64 (.int .i64 (.int .i64 (.int .i64 (.int .i64 (.nil))))))) (.nil)) y1, .i y2, .q (.int .i64 (.int .i64 (.int .i64 (.int .i64 (.int .i64 (.int .i64 (.nil))))))) y3])) n slices2 size3 x4 x5 x6 q7 := by
  intro n
  induction n with
  | zero => intros; kernel_rfl
  | succ n ih =>
    intro slices2 size3 x4 x5 x6 q7 k
    have e : (fun (slices2 : Seq ((Seq Z1) × Unit)) (size3 : Int) (x4 : Seq ((Seq Z1) × Unit)) (x5 : Int) (x6 : Int) (q7 : Seq Z1) => slices_Concat_api_Key_api_Key_l0_ev n (encSt slices_Concat_api_Key_api_Key_l0_t slices_Concat_api_Key_api_Key_l0_s slices_Concat_api_Key_api_Key_l0_h [.q (.sl (.int .i64 (.int .i64 (.int .i64 (.int .i64 (.int .i64 (.int .i64 (.nil))))))) (.nil)) slices2, .i size3, .q (.sl (.int .i64 (.int .i64 (.int .i64 (.int .i64 (.int .i64 (.int .i64 (.nil))))))) (.nil)) x4, .i x5, .i x6, .q (.int .i64 (.int .i64 (.int .i64 (.int .i64 (.int .i64 (.int .i64 (.nil))))))) q7]) k) = (fun (slices2 : Seq ((Seq Z1) × Unit)) (size3 : Int) (x4 : Seq ((Seq Z1) × Unit)) (x5 : Int) (x6 : Int) (q7 : Seq Z1) => slices_Concat_api_Key_api_Key_l0_run (fun y1 y2 y3 => k (.exit 0) (encSt [.sl (.sl (.int .i64 (.int .i64 (.int .i64 (.int .i64 (.int .i64 (.int .i64 (.nil))))))) (.nil)), .dead, .dead, .int .i64, .dead, .dead, .dead, .dead, .dead, .dead, .dead, .dead, .dead, .dead, .dead, .dead, .dead, .dead, .dead, .dead, .dead, .dead, .dead, .dead, .dead, .dead, .dead, .dead, .dead, .dead, .dead, .dead, .dead, .dead, .dead, .dead] [] [.row true (.int .i64 (.int .i64 (.int .i64 (.int .i64 (.int .i64 (.int .i64 (.nil)))))))] [.q (.sl (.int .i64 (.int .i64 (.int .i64 (.int .i64 (.int .i64 (.int .i64 (.nil))))))) (.nil)) y1, .i y2, .q (.int .i64 (.int .i64 (.int .i64 (.int .i64 (.int .i64 (.int .i64 (.nil))))))) y3])) n slices2 size3 x4 x5 x6 q7) := by
      funext slices2 size3 x4 x5 x6 q7
      exact ih slices2 size3 x4 x5 x6 q7 k
    have h1 : slices_Concat_api_Key_api_Key_l0_ev (n + 1) (encSt slices_Concat_api_Key_api_Key_l0_t slices_Concat_api_Key_api_Key_l0_s slices_Concat_api_Key_api_Key_l0_h [.q (.sl (.int .i64 (.int .i64 (.int .i64 (.int .i64 (.int .i64 (.int .i64 (.nil))))))) (.nil)) slices2, .i size3, .q (.sl (.int .i64 (.int .i64 (.int .i64 (.int .i64 (.int .i64 (.int .i64 (.nil))))))) (.nil)) x4, .i x5, .i x6, .q (.int .i64 (.int .i64 (.int .i64 (.int .i64 (.int .i64 (.int .i64 (.nil))))))) q7]) k = slices_Concat_api_Key_api_Key_l0_step (fun y1 y2 y3 => k (.exit 0) (encSt [.sl (.sl (.int .i64 (.int .i64 (.int .i64 (.int .i64 (.int .i64 (.int .i64 (.nil))))))) (.nil)), .dead, .dead, .int .i64, .dead, .dead, .dead, .dead, .dead, .dead, .dead, .dead, .dead, .dead, .dead, .dead, .dead, .dead, .dead, .dead, .dead, .dead, .dead, .dead, .dead, .dead, .dead, .dead, .dead, .dead, .dead, .dead, .dead, .dead, .dead, .dead] [] [.row true (.int .i64 (.int .i64 (.int .i64 (.int .i64 (.int .i64 (.int .i64 (.nil)))))))] [.q (.sl (.int .i64 (.int .i64 (.int .i64 (.int .i64 (.int .i64 (.int .i64 (.nil))))))) (.nil)) y1, .i y2, .q (.int .i64 (.int .i64 (.int .i64 (.int .i64 (.int .i64 (.int .i64 (.nil))))))) y3])) (fun (slices2 : Seq ((Seq Z1) × Unit)) (size3 : Int) (x4 : Seq ((Seq Z1) × Unit)) (x5 : Int) (x6 : Int) (q7 : Seq Z1) => slices_Concat_api_Key_api_Key_l0_ev n (encSt slices_Concat_api_Key_api_Key_l0_t slices_Concat_api_Key_api_Key_l0_s slices_Concat_api_Key_api_Key_l0_h [.q (.sl (.int .i64 (.int .i64 (.int .i64 (.int .i64 (.int .i64 (.int .i64 (.nil))))))) (.nil)) slices2, .i size3, .q (.sl (.int .i64 (.int .i64 (.int .i64 (.int .i64 (.int .i64 (.int .i64 (.nil))))))) (.nil)) x4, .i x5, .i x6, .q (.int .i64 (.int .i64 (.int .i64 (.int .i64 (.int .i64 (.int .i64 (.nil))))))) q7]) k) slices2 size3 x4 x5 x6 q7 := by kernel_rfl
    have h2 := congrArg (fun r => slices_Concat_api_Key_api_Key_l0_step (fun y1 y2 y3 => k (.exit 0) (encSt [.sl (.sl (.int .i64 (.int .i64 (.int .i64 (.int .i64 (.int .i64 (.int .i64 (.nil))))))) (.nil)), .dead, .dead, .int .i64, .dead, .dead, .dead, .dead, .dead, .dead, .dead, .dead, .dead, .dead, .dead, .dead, .dead, .dead, .dead, .dead, .dead, .dead, .dead, .dead, .dead, .dead, .dead, .dead, .dead, .dead, .dead, .dead, .dead, .dead, .dead, .dead] [] [.row true (.int .i64 (.int .i64 (.int .i64 (.int .i64 (.int .i64 (.int .i64 (.nil)))))))] [.q (.sl (.int .i64 (.int .i64 (.int .i64 (.int .i64 (.int .i64 (.int .i64 (.nil))))))) (.nil)) y1, .i y2, .q (.int .i64 (.int .i64 (.int .i64 (.int .i64 (.int .i64 (.int .i64 (.nil))))))) y3])) r slices2 size3 x4 x5 x6 q7) e
    have h3 : slices_Concat_api_Key_api_Key_l0_step (fun y1 y2 y3 => k (.exit 0) (encSt [.sl (.sl (.int .i64 (.int .i64 (.int .i64 (.int .i64 (.int .i64 (.int .i64 (.nil))))))) (.nil)), .dead, .dead, .int .i64, .dead, .dead, .dead, .dead, .dead, .dead, .dead, .dead, .dead, .dead, .dead, .dead, .dead, .dead, .dead, .dead, .dead, .dead, .dead, .dead, .dead, .dead, .dead, .dead, .dead, .dead, .dead, .dead, .dead, .dead, .dead, .dead] [] [.row true (.int .i64 (.int .i64 (.int .i64 (.int .i64 (.int .i64 (.int .i64 (.nil)))))))] [.q (.sl (.int .i64 (.int .i64 (.int .i64 (.int .i64 (.int .i64 (.int .i64 (.nil))))))) (.nil)) y1, .i y2, .q (.int .i64 (.int .i64 (.int .i64 (.int .i64 (.int .i64 (.int .i64 (.nil))))))) y3])) (fun (slices2 : Seq ((Seq Z1) × Unit)) (size3 : Int) (x4 : Seq ((Seq Z1) × Unit)) (x5 : Int) (x6 : Int) (q7 : Seq Z1) => slices_Concat_api_Key_api_Key_l0_run (fun y1 y2 y3 => k (.exit 0) (encSt [.sl (.sl (.int .i64 (.int .i64 (.int .i64 (.int .i64 (.int .i64 (.int .i64 (.nil))))))) (.nil)), .dead, .dead, .int .i64, .dead, .dead, .dead, .dead, .dead, .dead, .dead, .dead, .dead, .dead, .dead, .dead, .dead, .dead, .dead, .dead, .dead, .dead, .dead, .dead, .dead, .dead, .dead, .dead, .dead, .dead, .dead, .dead, .dead, .dead, .dead, .dead] [] [.row true (.int .i64 (.int .i64 (.int .i64 (.int .i64 (.int .i64 (.int .i64 (.nil)))))))] [.q (.sl (.int .i64 (.int .i64 (.int .i64 (.int .i64 (.int .i64 (.int .i64 (.nil))))))) (.nil)) y1, .i y2, .q (.int .i64 (.int .i64 (.int .i64 (.int .i64 (.int .i64 (.int .i64 (.nil))))))) y3])) n slices2 size3 x4 x5 x6 q7) slices2 size3 x4 x5 x6 q7 = slices_Concat_api_Key_api_Key_l0_run (fun y1 y2 y3 => k (.exit 0) (encSt [.sl (.sl (.int .i64 (.int .i64 (.int .i64 (.int .i64 (.int .i64 (.int .i64 (.nil))))))) (.nil)), .dead, .dead, .int .i64, .dead, .dead, .dead, .dead, .dead, .dead, .dead, .dead, .dead, .dead, .dead, .dead, .dead, .dead, .dead, .dead, .dead, .dead, .dead, .dead, .dead, .dead, .dead, .dead, .dead, .dead, .dead, .dead, .dead, .dead, .dead, .dead] [] [.row true (.int .i64 (.int .i64 (.int .i64 (.int .i64 (.int .i64 (.int .i64 (.nil)))))))] [.q (.sl (.int .i64 (.int .i64 (.int .i64 (.int .i64 (.int .i64 (.int .i64 (.nil))))))) (.nil)) y1, .i y2, .q (.int .i64 (.int .i64 (.int .i64 (.int .i64 (.int .i64 (.int .i64 (.nil))))))) y3])) (n + 1) slices2 size3 x4 x5 x6 q7 := by kernel_rfl
    exact h1.trans (h2.trans h3)

theorem slices_Concat_api_Key_api_Key_l0_ok {α : Type} : (slices_Concat_api_Key_api_Key_l0_spec : LoopSpec α).ok Go.Proofs.Try.prog (envOf (slices_Concat_api_Key_api_Key_C) slices_Concat_api_Key_api_Key_q slices_Concat_api_Key_api_Key_inl 1000 slices_Concat_api_Key_api_Key_ann false (slices_Concat_api_Key_api_Key_loops) (fun _ => none)) := by
  intro ds k
  have h1 : slices_Concat_api_Key_api_Key_l0_ev 1000 (encSt slices_Concat_api_Key_api_Key_l0_t slices_Concat_api_Key_api_Key_l0_s slices_Concat_api_Key_api_Key_l0_h ds) k = slices_Concat_api_Key_api_Key_l0_ev 1000 (encSt slices_Concat_api_Key_api_Key_l0_t slices_Concat_api_Key_api_Key_l0_s slices_Concat_api_Key_api_Key_l0_h [.q (.sl (.int .i64 (.int .i64 (.int .i64 (.int .i64 (.int .i64 (.int .i64 (.nil))))))) (.nil)) (hdQ (.sl (.int .i64 (.int .i64 (.int .i64 (.int .i64 (.int .i64 (.int .i64 (.nil))))))) (.nil)) ds), .i (hdI ds.tail), .q (.sl (.int .i64 (.int .i64 (.int .i64 (.int .i64 (.int .i64 (.int .i64 (.nil))))))) (.nil)) (hdQ (.sl (.int .i64 (.int .i64 (.int .i64 (.int .i64 (.int .i64 (.int .i64 (.nil))))))) (.nil)) ds.tail.tail), .i (hdI ds.tail.tail.tail), .i (hdI ds.tail.tail.tail.tail), .q (.int .i64 (.int .i64 (.int .i64 (.int .i64 (.int .i64 (.int .i64 (.nil))))))) (hdQ (.int .i64 (.int .i64 (.int .i64 (.int .i64 (.int .i64 (.int .i64 (.nil))))))) ds.tail.tail.tail.tail.tail)]) k := by kernel_rfl
  have h2 := slices_Concat_api_Key_api_Key_l0_eq 1000 (hdQ (.sl (.int .i64 (.int .i64 (.int .i64 (.int .i64 (.int .i64 (.int .i64 (.nil))))))) (.nil)) ds) (hdI ds.tail) (hdQ (.sl (.int .i64 (.int .i64 (.int .i64 (.int .i64 (.int .i64 (.int .i64 (.nil))))))) (.nil)) ds.tail.tail) (hdI ds.tail.tail.tail) (hdI ds.tail.tail.tail.tail) (hdQ (.int .i64 (.int .i64 (.int .i64 (.int .i64 (.int .i64 (.int .i64 (.nil))))))) ds.tail.tail.tail.tail.tail) k
  exact h1.trans h2

noncomputable def slices_Concat_api_Key_api_Key_l1_ev {α : Type} (n : Nat) (st : St) (k : X → St → Option α) : Option α := loopN (evCode Go.Proofs.Try.prog (callD Go.Proofs.Try.prog (envOf (slices_Concat_api_Key_api_Key_C) slices_Concat_api_Key_api_Key_q slices_Concat_api_Key_api_Key_inl 1000 slices_Concat_api_Key_api_Key_ann false (slices_Concat_api_Key_api_Key_loops) (fun _ => none)) 6) (((envOf (slices_Concat_api_Key_api_Key_C) slices_Concat_api_Key_api_Key_q slices_Concat_api_Key_api_Key_inl 1000 slices_Concat_api_Key_api_Key_ann false (slices_Concat_api_Key_api_Key_loops) (fun _ => none)) : Env α).L 6 82) 1000 (slices_Concat_api_Key_api_Key_ann 82) (false :: [true, false, true, true, true, true]) (loopC Go.Proofs.Try.prog 82 [true, false, true, true, true, true])) ((slices_Concat_api_Key_api_Key_ann 82 [true, false, true, true, true, true]).head 3) ((slices_Concat_api_Key_api_Key_ann 82 [true, false, true, true, true, true]).leave 3) n st k

theorem slices_Concat_api_Key_api_Key_l1_eq {α : Type} : ∀ (n : Nat) (x11 : Seq ((Seq Z1) × Unit)) (x12 : Int) (x13 : Int) (q14 : Seq Z1) (q15 : Seq Z1) (q16 : Seq Z1) (k : X → St → Option α), slices_Concat_api_Key_api_Key_l1_ev n (encSt slices_Concat_api_Key_api_Key_l1_t slices_Concat_api_Key_api_Key_l1_s slices_Concat_api_Key_api_Key_l1_h [.q (.sl (.int .i64 (.int .i64 (.int .i64 (.int .i64 (.int .i64 (.int .i64 (.nil))))))) (.nil)) x11, .i x12, .i x13, .q (.int .i64 (.int .i64 (.int .i64 (.int .i64 (.int .i64 (.int .i64 (.nil))))))) q14, .q (.int .i64 (.int .i64 (.int .i64 (.int .i64 (.int .i64 (.int .i64 (.nil))))))) q15, .q (.int .i64 (.int .i64 (.int .i64 (.int .i64 (.int .i64 (.int .i64 (.nil))))))) q16]) k = slices_Concat_api_Key_api_Key_l1_run (fun y1 y2 y3 => k (.exit 2) (encSt [.dead, .dead, .dead, .dead, .dead, .dead, .own 2, .dead, .dead, .dead, .dead, .dead, .dead, .dead, .dead, .dead, .dead, .dead, .dead, .dead, .dead, .dead, .dead, .dead, .dead, .dead, .dead, .dead, .dead, .dead, .dead, .dead, .dead, .dead, .dead, .dead] [] [.row true (.int .i64 (.int .i64 (.int .i64 (.int .i64 (.int .i64 (.int .i64 (.nil))))))), .row true (.int .i64 (.int .i64 (.int .i64 (.int .i64 (.int .i64 (.int .i64 (.nil))))))), .row true (.int .i64 (.int .i64 (.int .i64 (.int .i64 (.int .i64 (.int .i64 (.nil)))))))] [.q (.int .i64 (.int .i64 (.int .i64 (.int .i64 (.int .i64 (.int .i64 (.nil))))))) y1, .q (.int .i64 (.int .i64 (.int .i64 (.int .i64 (.int .i64 (.int .i64 (.nil))))))) y2, .q (.int .i64 (.int .i64 (.int .i64 (.int .i64 (.int .i64 (.int .i64 (.nil))))))) y3])) n x11 x12 x13 q14 q15 q16 := by
  intro n
  induction n with
  | zero => intros; kernel_rfl
  | succ n ih =>
    intro x11 x12 x13 q14 q15 q16 k
    have e : (fun (x11 : Seq ((Seq Z1) × Unit)) (x12 : Int) (x13 : Int) (q14 : Seq Z1) (q15 : Seq Z1) (q16 : Seq Z1) => slices_Concat_api_Key_api_Key_l1_ev n (encSt slices_Concat_api_Key_api_Key_l1_t slices_Concat_api_Key_api_Key_l1_s slices_Concat_api_Key_api_Key_l1_h [.q (.sl (.int .i64 (.int .i64 (.int .i64 (.int .i64 (.int .i64 (.int .i64 (.nil))))))) (.nil)) x11, .i x12, .i x13, .q (.int .i64 (.int .i64 (.int .i64 (.int .i64 (.int .i64 (.int .i64 (.nil))))))) q14, .q (.int .i64 (.int .i64 (.int .i64 (.int .i64 (.int .i64 (.int .i64 (.nil))))))) q15, .q (.int .i64 (.int .i64 (.int .i64 (.int .i64 (.int .i64 (.int .i64 (.nil))))))) q16]) k) = (fun (x11 : Seq ((Seq Z1) × Unit)) (x12 : Int) (x13 : Int) (q14 : Seq Z1) (q15 : Seq Z1) (q16 : Seq Z1) => slices_Concat_api_Key_api_Key_l1_run (fun y1 y2 y3 => k (.exit 2) (encSt [.dead, .dead, .dead, .dead, .dead, .dead, .own 2, .dead, .dead, .dead, .dead, .dead, .dead, .dead, .dead, .dead, .dead, .dead, .dead, .dead, .dead, .dead, .dead, .dead, .dead, .dead, .dead, .dead, .dead, .dead, .dead, .dead, .dead, .dead, .dead, .dead] [] [.row true (.int .i64 (.int .i64 (.int .i64 (.int .i64 (.int .i64 (.int .i64 (.nil))))))), .row true (.int .i64 (.int .i64 (.int .i64 (.int .i64 (.int .i64 (.int .i64 (.nil))))))), .row true (.int .i64 (.int .i64 (.int .i64 (.int .i64 (.int .i64 (.int .i64 (.nil)))))))] [.q (.int .i64 (.int .i64 (.int .i64 (.int .i64 (.int .i64 (.int .i64 (.nil))))))) y1, .q (.int .i64 (.int .i64 (.int .i64 (.int .i64 (.int .i64 (.int .i64 (.nil))))))) y2, .q (.int .i64 (.int .i64 (.int .i64 (.int .i64 (.int .i64 (.int .i64 (.nil))))))) y3])) n x11 x12 x13 q14 q15 q16) := by
      funext x11 x12 x13 q14 q15 q16
      exact ih x11 x12 x13 q14 q15 q16 k
    have h1 : slices_Concat_api_Key_api_Key_l1_ev (n + 1) (encSt slices_Concat_api_Key_api_Key_l1_t slices_Concat_api_Key_api_Key_l1_s slices_Concat_api_Key_api_Key_l1_h [.q (.sl (.int .i64 (.int .i64 (.int .i64 (.int .i64 (.int .i64 (.int .i64 (.nil))))))) (.nil)) x11, .i x12, .i x13, .q (.int .i64 (.int .i64 (.int .i64 (.int .i64 (.int .i64 (.int .i64 (.nil))))))) q14, .q (.int .i64 (.int .i64 (.int .i64 (.int .i64 (.int .i64 (.int .i64 (.nil))))))) q15, .q (.int .i64 (.int .i64 (.int .i64 (.int .i64 (.int .i64 (.int .i64 (.nil))))))) q16]) k = slices_Concat_api_Key_api_Key_l1_step (fun y1 y2 y3 => k (.exit 2) (encSt [.dead, .dead, .dead, .dead, .dead, .dead, .own 2, .dead, .dead, .dead, .dead, .dead, .dead, .dead, .dead, .dead, .dead, .dead, .dead, .dead, .dead, .dead, .dead, .dead, .dead, .dead, .dead, .dead, .dead, .dead, .dead, .dead, .dead, .dead, .dead, .dead] [] [.row true (.int .i64 (.int .i64 (.int .i64 (.int .i64 (.int .i64 (.int .i64 (.nil))))))), .row true (.int .i64 (.int .i64 (.int .i64 (.int .i64 (.int .i64 (.int .i64 (.nil))))))), .row true (.int .i64 (.int .i64 (.int .i64 (.int .i64 (.int .i64 (.int .i64 (.nil)))))))] [.q (.int .i64 (.int .i64 (.int .i64 (.int .i64 (.int .i64 (.int .i64 (.nil))))))) y1, .q (.int .i64 (.int .i64 (.int .i64 (.int .i64 (.int .i64 (.int .i64 (.nil))))))) y2, .q (.int .i64 (.int .i64 (.int .i64 (.int .i64 (.int .i64 (.int .i64 (.nil))))))) y3])) (fun (x11 : Seq ((Seq Z1) × Unit)) (x12 : Int) (x13 : Int) (q14 : Seq Z1) (q15 : Seq Z1) (q16 : Seq Z1) => slices_Concat_api_Key_api_Key_l1_ev n (encSt slices_Concat_api_Key_api_Key_l1_t slices_Concat_api_Key_api_Key_l1_s slices_Concat_api_Key_api_Key_l1_h [.q (.sl (.int .i64 (.int .i64 (.int .i64 (.int .i64 (.int .i64 (.int .i64 (.nil))))))) (.nil)) x11, .i x12, .i x13, .q (.int .i64 (.int .i64 (.int .i64 (.int .i64 (.int .i64 (.int .i64 (.nil))))))) q14, .q (.int .i64 (.int .i64 (.int .i64 (.int .i64 (.int .i64 (.int .i64 (.nil))))))) q15, .q (.int .i64 (.int .i64 (.int .i64 (.int .i64 (.int .i64 (.int .i64 (.nil))))))) q16]) k) x11 x12 x13 q14 q15 q16 := by kernel_rfl
    have h2 := congrArg (fun r => slices_Concat_api_Key_api_Key_l1_step (fun y1 y2 y3 => k (.exit 2) (encSt [.dead, .dead, .dead, .dead, .dead, .dead, .own 2, .dead, .dead, .dead, .dead, .dead, .dead, .dead, .dead, .dead, .dead, .dead, .dead, .dead, .dead, .dead, .dead, .dead, .dead, .dead, .dead, .dead, .dead, .dead, .dead, .dead, .dead, .dead, .dead, .dead] [] [.row true (.int .i64 (.int .i64 (.int .i64 (.int .i64 (.int .i64 (.int .i64 (.nil))))))), .row true (.int .i64 (.int .i64 (.int .i64 (.int .i64 (.int .i64 (.int .i64 (.nil))))))), .row true (.int .i64 (.int .i64 (.int .i64 (.int .i64 (.int .i64 (.int .i64 (.nil)))))))] [.q (.int .i64 (.int .i64 (.int .i64 (.int .i64 (.int .i64 (.int .i64 (.nil))))))) y1, .q (.int .i64 (.int .i64 (.int .i64 (.int .i64 (.int .i64 (.int .i64 (.nil))))))) y2, .q (.int .i64 (.int .i64 (.int .i64 (.int .i64 (.int .i64 (.int .i64 (.nil))))))) y3])) r x11 x12 x13 q14 q15 q16) e
    have h3 : slices_Concat_api_Key_api_Key_l1_step (fun y1 y2 y3 => k (.exit 2) (encSt [.dead, .dead, .dead, .dead, .dead, .dead, .own 2, .dead, .dead, .dead, .dead, .dead, .dead, .dead, .dead, .dead, .dead, .dead, .dead, .dead, .dead, .dead, .dead, .dead, .dead, .dead, .dead, .dead, .dead, .dead, .dead, .dead, .dead, .dead, .dead, .dead] [] [.row true (.int .i64 (.int .i64 (.int .i64 (.int .i64 (.int .i64 (.int .i64 (.nil))))))), .row true (.int .i64 (.int .i64 (.int .i64 (.int .i64 (.int .i64 (.int .i64 (.nil))))))), .row true (.int .i64 (.int .i64 (.int .i64 (.int .i64 (.int .i64 (.int .i64 (.nil)))))))] [.q (.int .i64 (.int .i64 (.int .i64 (.int .i64 (.int .i64 (.int .i64 (.nil))))))) y1, .q (.int .i64 (.int .i64 (.int .i64 (.int .i64 (.int .i64 (.int .i64 (.nil))))))) y2, .q (.int .i64 (.int .i64 (.int .i64 (.int .i64 (.int .i64 (.int .i64 (.nil))))))) y3])) (fun (x11 : Seq ((Seq Z1) × Unit)) (x12 : Int) (x13 : Int) (q14 : Seq Z1) (q15 : Seq Z1) (q16 : Seq Z1) => slices_Concat_api_Key_api_Key_l1_run (fun y1 y2 y3 => k (.exit 2) (encSt [.dead, .dead, .dead, .dead, .dead, .dead, .own 2, .dead, .dead, .dead, .dead, .dead, .dead, .dead, .dead, .dead, .dead, .dead, .dead, .dead, .dead, .dead, .dead, .dead, .dead, .dead, .dead, .dead, .dead, .dead, .dead, .dead, .dead, .dead, .dead, .dead] [] [.row true (.int .i64 (.int .i64 (.int .i64 (.int .i64 (.int .i64 (.int .i64 (.nil))))))), .row true (.int .i64 (.int .i64 (.int .i64 (.int .i64 (.int .i64 (.int .i64 (.nil))))))), .row true (.int .i64 (.int .i64 (.int .i64 (.int .i64 (.int .i64 (.int .i64 (.nil)))))))] [.q (.int .i64 (.int .i64 (.int .i64 (.int .i64 (.int .i64 (.int .i64 (.nil))))))) y1, .q (.int .i64 (.int .i64 (.int .i64 (.int .i64 (.int .i64 (.int .i64 (.nil))))))) y2, .q (.int .i64 (.int .i64 (.int .i64 (.int .i64 (.int .i64 (.int .i64 (.nil))))))) y3])) n x11 x12 x13 q14 q15 q16) x11 x12 x13 q14 q15 q16 = slices_Concat_api_Key_api_Key_l1_run (fun y1 y2 y3 => k (.exit 2) (encSt [.dead, .dead, .dead, .dead, .dead, .dead, .own 2, .dead, .dead, .dead, .dead, .dead, .dead, .dead, .dead, .dead, .dead, .dead, .dead, .dead, .dead, .dead, .dead, .dead, .dead, .dead, .dead, .dead, .dead, .dead, .dead, .dead, .dead, .dead, .dead, .dead] [] [.row true (.int .i64 (.int .i64 (.int .i64 (.int .i64 (.int .i64 (.int .i64 (.nil))))))), .row true (.int .i64 (.int .i64 (.int .i64 (.int .i64 (.int .i64 (.int .i64 (.nil))))))), .row true (.int .i64 (.int .i64 (.int .i64 (.int .i64 (.int .i64 (.int .i64 (.nil)))))))] [.q (.int .i64 (.int .i64 (.int .i64 (.int .i64 (.int .i64 (.int .i64 (.nil))))))) y1, .q (.int .i64 (.int .i64 (.int .i64 (.int .i64 (.int .i64 (.int .i64 (.nil))))))) y2, .q (.int .i64 (.int .i64 (.int .i64 (.int .i64 (.int .i64 (.int .i64 (.nil))))))) y3])) (n + 1) x11 x12 x13 q14 q15 q16 := by kernel_rfl
    exact h1.trans (h2.trans h3)

theorem slices_Concat_api_Key_api_Key_l1_ok {α : Type} : (slices_Concat_api_Key_api_Key_l1_spec : LoopSpec α).ok Go.Proofs.Try.prog (envOf (slices_Concat_api_Key_api_Key_C) slices_Concat_api_Key_api_Key_q slices_Concat_api_Key_api_Key_inl 1000 slices_Concat_api_Key_api_Key_ann false (slices_Concat_api_Key_api_Key_loops) (fun _ => none)) := by
  intro ds k
  have h1 : slices_Concat_api_Key_api_Key_l1_ev 1000 (encSt slices_Concat_api_Key_api_Key_l1_t slices_Concat_api_Key_api_Key_l1_s slices_Concat_api_Key_api_Key_l1_h ds) k = slices_Concat_api_Key_api_Key_l1_ev 1000 (encSt slices_Concat_api_Key_api_Key_l1_t slices_Concat_api_Key_api_Key_l1_s slices_Concat_api_Key_api_Key_l1_h [.q (.sl (.int .i64 (.int .i64 (.int .i64 (.int .i64 (.int .i64 (.int .i64 (.nil))))))) (.nil)) (hdQ (.sl (.int .i64 (.int .i64 (.int .i64 (.int .i64 (.int .i64 (.int .i64 (.nil))))))) (.nil)) ds), .i (hdI ds.tail), .i (hdI ds.tail.tail), .q (.int .i64 (.int .i64 (.int .i64 (.int .i64 (.int .i64 (.int .i64 (.nil))))))) (hdQ (.int .i64 (.int .i64 (.int .i64 (.int .i64 (.int .i64 (.int .i64 (.nil))))))) ds.tail.tail.tail), .q (.int .i64 (.int .i64 (.int .i64 (.int .i64 (.int .i64 (.int .i64 (.nil))))))) (hdQ (.int .i64 (.int .i64 (.int .i64 (.int .i64 (.int .i64 (.int .i64 (.nil))))))) ds.tail.tail.tail.tail), .q (.int .i64 (.int .i64 (.int .i64 (.int .i64 (.int .i64 (.int .i64 (.nil))))))) (hdQ (.int .i64 (.int .i64 (.int .i64 (.int .i64 (.int .i64 (.int .i64 (.nil))))))) ds.tail.tail.tail.tail.tail)]) k := by kernel_rfl
  have h2 := slices_Concat_api_Key_api_Key_l1_eq 1000 (hdQ (.sl (.int .i64 (.int .i64 (.int .i64 (.int .i64 (.int .i64 (.int .i64 (.nil))))))) (.nil)) ds) (hdI ds.tail) (hdI ds.tail.tail) (hdQ (.int .i64 (.int .i64 (.int .i64 (.int .i64 (.int .i64 (.int .i64 (.nil))))))) ds.tail.tail.tail) (hdQ (.int .i64 (.int .i64 (.int .i64 (.int .i64 (.int .i64 (.int .i64 (.nil))))))) ds.tail.tail.tail.tail) (hdQ (.int .i64 (.int .i64 (.int .i64 (.int .i64 (.int .i64 (.int .i64 (.nil))))))) ds.tail.tail.tail.tail.tail) k
  exact h1.trans h2

theorem slices_Concat_api_Key_api_Key_ev {α : Type} : EvOk (α := α) Go.Proofs.Try.prog (envOf (slices_Concat_api_Key_api_Key_C) slices_Concat_api_Key_api_Key_q slices_Concat_api_Key_api_Key_inl 1000 slices_Concat_api_Key_api_Key_ann false (slices_Concat_api_Key_api_Key_loops) (fun _ => none)) 6 (slices_Concat_api_Key_api_Key_sp (slices_Concat_api_Key_api_Key)) := by intro ds k; kernel_rfl

theorem slices_Concat_api_Key_api_Key_ok {α : Type} : (slices_Concat_api_Key_api_Key_spec : FunSpec α).ok Go.Proofs.Try.prog :=
  FunSpec.ok_of (sp := slices_Concat_api_Key_api_Key_spec) (C := slices_Concat_api_Key_api_Key_C) (q := slices_Concat_api_Key_api_Key_q) (inl := slices_Concat_api_Key_api_Key_inl) (N := 1000) (ann := slices_Concat_api_Key_api_Key_ann) (fr := false) (D := 6) (l := (slices_Concat_api_Key_api_Key_loops)) (hk := (fun _ => none)) okNil (lokCons (slices_Concat_api_Key_api_Key_l0_ok) (lokCons (slices_Concat_api_Key_api_Key_l1_ok) lokNil)) noHooks (slices_Concat_api_Key_api_Key_ev)

end
end Go.Rv.Try

set_option linter.unusedVariables false
set_option maxRecDepth 100000
set_option maxHeartbeats 4000000
namespace Go.Rv.Try
open Go Go.Rv Go.RowKit
noncomputable section

-- drayman/keyed.put[drayman/api.Key]

abbrev keyed_put_api_Key_T (α : Type) : Type := (Seq Z1) → Z1 → ((Seq Z1) → Option α) → Option α

noncomputable def keyed_put_api_Key_g {α : Type} (slices_BinarySearchFunc_api_Key_api_Key_api_Key : slices_BinarySearchFunc_api_Key_api_Key_api_Key_T α) (slices_Concat_api_Key_api_Key : slices_Concat_api_Key_api_Key_T α) (l1 : Seq Z1) (x2 : Int × Int × Int × Int × Int × Int × Unit) (k : (Seq Z1) → Option α) : Option α :=
  (slices_BinarySearchFunc_api_Key_api_Key_api_Key l1 x2 fun r3 r4 =>
    (cond r4
      (cond (((decide ((0 : Int) ≤ r3)) && (decide (r3 ≤ (l1.n : Int)))) && ((decide ((0 : Int) ≤ r3)) && (decide (r3 ≤ (l1.n : Int)))))
        (cond (((decide ((0 : Int) ≤ (IntKind.i64.wrap (r3 + 1)))) && (decide ((IntKind.i64.wrap (r3 + 1)) ≤ (l1.n : Int)))) && ((decide ((0 : Int) ≤ (IntKind.i64.wrap (r3 + 1)))) && (decide ((IntKind.i64.wrap (r3 + 1)) ≤ (l1.n : Int)))))
          (slices_Concat_api_Key_api_Key (⟨false, 3, (tSel [((⟨l1.nl, r3.toNat, l1.g⟩ : Seq Z1), ()), ((⟨false, 1, (fun _ => x2)⟩ : Seq Z1), ()), ((⟨l1.nl, (l1.n - (IntKind.i64.wrap (r3 + 1)).toNat), (tShift (IntKind.i64.wrap (r3 + 1)).toNat l1.g)⟩ : Seq Z1), ())] ((⟨true, 0, fun _ => (0, 0, 0, 0, 0, 0, ())⟩ : Seq Z1), ()))⟩ : Seq ((Seq Z1) × Unit)) fun r5 =>
            (k r5))
          none)
        none)
      (cond (((decide ((0 : Int) ≤ r3)) && (decide (r3 ≤ (l1.n : Int)))) && ((decide ((0 : Int) ≤ r3)) && (decide (r3 ≤ (l1.n : Int)))))
        (cond (((decide ((0 : Int) ≤ r3)) && (decide (r3 ≤ (l1.n : Int)))) && ((decide ((0 : Int) ≤ r3)) && (decide (r3 ≤ (l1.n : Int)))))
          (slices_Concat_api_Key_api_Key (⟨false, 3, (tSel [((⟨l1.nl, r3.toNat, l1.g⟩ : Seq Z1), ()), ((⟨false, 1, (fun _ => x2)⟩ : Seq Z1), ()), ((⟨l1.nl, (l1.n - r3.toNat), (tShift r3.toNat l1.g)⟩ : Seq Z1), ())] ((⟨true, 0, fun _ => (0, 0, 0, 0, 0, 0, ())⟩ : Seq Z1), ()))⟩ : Seq ((Seq Z1) × Unit)) fun r6 =>
            (k r6))
          none)
        none)))

noncomputable def keyed_put_api_Key {α : Type} : keyed_put_api_Key_T α := keyed_put_api_Key_g slices_BinarySearchFunc_api_Key_api_Key_api_Key slices_Concat_api_Key_api_Key

noncomputable def keyed_put_api_Key_sp {α : Type} (keyed_put_api_Key : keyed_put_api_Key_T α) : FunSpec α := ⟨79, [.sl (.int .i64 (.int .i64 (.int .i64 (.int .i64 (.int .i64 (.int .i64 (.nil))))))), .agg [.int .i64, .int .i64, .int .i64, .int .i64, .int .i64, .int .i64], .func (.func 64) [] []], [], fun ds k => keyed_put_api_Key (hdQ (.int .i64 (.int .i64 (.int .i64 (.int .i64 (.int .i64 (.int .i64 (.nil))))))) ds) (hdI ds.tail, hdI ds.tail.tail, hdI ds.tail.tail.tail, hdI ds.tail.tail.tail.tail, hdI ds.tail.tail.tail.tail.tail, hdI ds.tail.tail.tail.tail.tail.tail, ()) (fun q1 => k (enc dep (.own 0) []).1 (encBs [.row true (.int .i64 (.int .i64 (.int .i64 (.int .i64 (.int .i64 (.int .i64 (.nil)))))))] [.q (.int .i64 (.int .i64 (.int .i64 (.int .i64 (.int .i64 (.int .i64 (.nil))))))) q1]).1)⟩

noncomputable def keyed_put_api_Key_spec {α : Type} : FunSpec α := keyed_put_api_Key_sp keyed_put_api_Key

noncomputable def keyed_put_api_Key_C {α : Type} (slices_BinarySearchFunc_api_Key_api_Key_api_Key : slices_BinarySearchFunc_api_Key_api_Key_api_Key_T α) (slices_Concat_api_Key_api_Key : slices_Concat_api_Key_api_Key_T α) : List (FunSpec α) := [slices_BinarySearchFunc_api_Key_api_Key_api_Key_sp slices_BinarySearchFunc_api_Key_api_Key_api_Key, slices_Concat_api_Key_api_Key_sp slices_Concat_api_Key_api_Key]

noncomputable def keyed_put_api_Key_q : FuncId → Bool := fun f => Nat.beq f 81

noncomputable def keyed_put_api_Key_inl : FuncId → Bool := fun f => false

noncomputable def keyed_put_api_Key_ann : FuncId → AnnT := fun f p => if f = 79 then (if p = [false, true, true, true, true] then ⟨[], [], [], [], 2, [], [], none⟩ else ⟨[], [], [], [], 0, [], [], none⟩) else ⟨[], [], [], [], 0, [], [], none⟩

noncomputable def keyed_put_api_Key_loops {α : Type} (slices_BinarySearchFunc_api_Key_api_Key_api_Key : slices_BinarySearchFunc_api_Key_api_Key_api_Key_T α) (slices_Concat_api_Key_api_Key : slices_Concat_api_Key_api_Key_T α) : List (LoopSpec α) := []

theorem keyed_put_api_Key_ev {α : Type} (slices_BinarySearchFunc_api_Key_api_Key_api_Key : slices_BinarySearchFunc_api_Key_api_Key_api_Key_T α) (slices_Concat_api_Key_api_Key : slices_Concat_api_Key_api_Key_T α) : EvOk (α := α) Go.Proofs.Try.prog (envOf (keyed_put_api_Key_C slices_BinarySearchFunc_api_Key_api_Key_api_Key slices_Concat_api_Key_api_Key) keyed_put_api_Key_q keyed_put_api_Key_inl 1000 keyed_put_api_Key_ann false (keyed_put_api_Key_loops slices_BinarySearchFunc_api_Key_api_Key_api_Key slices_Concat_api_Key_api_Key) (fun _ => none)) 6 (keyed_put_api_Key_sp (keyed_put_api_Key_g slices_BinarySearchFunc_api_Key_api_Key_api_Key slices_Concat_api_Key_api_Key)) := by intro ds k; kernel_rfl

theorem keyed_put_api_Key_ok {α : Type} : (keyed_put_api_Key_spec : FunSpec α).ok Go.Proofs.Try.prog :=
  FunSpec.ok_of (sp := keyed_put_api_Key_spec) (C := keyed_put_api_Key_C slices_BinarySearchFunc_api_Key_api_Key_api_Key slices_Concat_api_Key_api_Key) (q := keyed_put_api_Key_q) (inl := keyed_put_api_Key_inl) (N := 1000) (ann := keyed_put_api_Key_ann) (fr := false) (D := 6) (l := (keyed_put_api_Key_loops slices_BinarySearchFunc_api_Key_api_Key_api_Key slices_Concat_api_Key_api_Key)) (hk := (fun _ => none)) (okCons slices_BinarySearchFunc_api_Key_api_Key_api_Key_ok (okCons slices_Concat_api_Key_api_Key_ok okNil)) lokNil noHooks (keyed_put_api_Key_ev slices_BinarySearchFunc_api_Key_api_Key_api_Key slices_Concat_api_Key_api_Key)

end
end Go.Rv.Try

set_option linter.unusedVariables false
set_option maxRecDepth 100000
set_option maxHeartbeats 4000000
namespace Go.Rv.Try
open Go Go.Rv Go.RowKit
noncomputable section

-- (drayman/keyed.come).marked

abbrev keyed_come_marked_T (α : Type) : Type := ((Seq Z1) × Int × Int × Int × Int × Int × Int × Bool × Int × Bool × Unit) → Int → ((Seq Z1) → Option α) → Option α

noncomputable def keyed_come_marked_g {α : Type} (keyed_put_api_Key : keyed_put_api_Key_T α) (c1 : (Seq Z1) × Int × Int × Int × Int × Int × Int × Bool × Int × Bool × Unit) (mark2 : Int) (k : (Seq Z1) → Option α) : Option α :=
  (cond (mark2 == 2)
    (keyed_put_api_Key c1.1 (c1.2.1, c1.2.2.1, mark2, 1, c1.2.2.2.2.2.1, c1.2.2.2.2.2.2.1, ()) fun r3 =>
      (k r3))
    (cond (mark2 == 4)
      (keyed_put_api_Key c1.1 (c1.2.1, c1.2.2.1, mark2, c1.2.2.2.2.1, 1, c1.2.2.2.2.2.2.1, ()) fun r4 =>
        (k r4))
      (keyed_put_api_Key c1.1 (c1.2.1, c1.2.2.1, mark2, c1.2.2.2.2.1, c1.2.2.2.2.2.1, c1.2.2.2.2.2.2.1, ()) fun r5 =>
        (k r5))))

noncomputable def keyed_come_marked {α : Type} : keyed_come_marked_T α := keyed_come_marked_g keyed_put_api_Key

noncomputable def keyed_come_marked_sp {α : Type} (keyed_come_marked : keyed_come_marked_T α) : FunSpec α := ⟨71, [.agg [.sl (.int .i64 (.int .i64 (.int .i64 (.int .i64 (.int .i64 (.int .i64 (.nil))))))), .int .i64, .int .i64, .int .i64, .int .i64, .int .i64, .int .i64, .bool, .int .i64, .bool], .int .i64], [], fun ds k => keyed_come_marked (hdQ (.int .i64 (.int .i64 (.int .i64 (.int .i64 (.int .i64 (.int .i64 (.nil))))))) ds, hdI ds.tail, hdI ds.tail.tail, hdI ds.tail.tail.tail, hdI ds.tail.tail.tail.tail, hdI ds.tail.tail.tail.tail.tail, hdI ds.tail.tail.tail.tail.tail.tail, hdB ds.tail.tail.tail.tail.tail.tail.tail, hdI ds.tail.tail.tail.tail.tail.tail.tail.tail, hdB ds.tail.tail.tail.tail.tail.tail.tail.tail.tail, ()) (hdI ds.tail.tail.tail.tail.tail.tail.tail.tail.tail.tail) (fun q1 => k (enc dep (.own 0) []).1 (encBs [.row true (.int .i64 (.int .i64 (.int .i64 (.int .i64 (.int .i64 (.int .i64 (.nil)))))))] [.q (.int .i64 (.int .i64 (.int .i64 (.int .i64 (.int .i64 (.int .i64 (.nil))))))) q1]).1)⟩

noncomputable def keyed_come_marked_spec {α : Type} : FunSpec α := keyed_come_marked_sp keyed_come_marked

noncomputable def keyed_come_marked_C {α : Type} (keyed_put_api_Key : keyed_put_api_Key_T α) : List (FunSpec α) := [keyed_put_api_Key_sp keyed_put_api_Key]

noncomputable def keyed_come_marked_q : FuncId → Bool := fun f => false

noncomputable def keyed_come_marked_inl : FuncId → Bool := fun f => false

noncomputable def keyed_come_marked_ann : FuncId → AnnT := fun f p => ⟨[], [], [], [], 0, [], [], none⟩

noncomputable def keyed_come_marked_loops {α : Type} (keyed_put_api_Key : keyed_put_api_Key_T α) : List (LoopSpec α) := []

theorem keyed_come_marked_ev {α : Type} (keyed_put_api_Key : keyed_put_api_Key_T α) : EvOk (α := α) Go.Proofs.Try.prog (envOf (keyed_come_marked_C keyed_put_api_Key) keyed_come_marked_q keyed_come_marked_inl 1000 keyed_come_marked_ann false (keyed_come_marked_loops keyed_put_api_Key) (fun _ => none)) 6 (keyed_come_marked_sp (keyed_come_marked_g keyed_put_api_Key)) := by intro ds k; kernel_rfl

theorem keyed_come_marked_ok {α : Type} : (keyed_come_marked_spec : FunSpec α).ok Go.Proofs.Try.prog :=
  FunSpec.ok_of (sp := keyed_come_marked_spec) (C := keyed_come_marked_C keyed_put_api_Key) (q := keyed_come_marked_q) (inl := keyed_come_marked_inl) (N := 1000) (ann := keyed_come_marked_ann) (fr := false) (D := 6) (l := (keyed_come_marked_loops keyed_put_api_Key)) (hk := (fun _ => none)) (okCons keyed_put_api_Key_ok okNil) lokNil noHooks (keyed_come_marked_ev keyed_put_api_Key)

end
end Go.Rv.Try

set_option linter.unusedVariables false
set_option maxRecDepth 100000
set_option maxHeartbeats 4000000
namespace Go.Rv.Try
open Go Go.Rv Go.RowKit
noncomputable section

-- (drayman/keyed.come).back

abbrev keyed_come_back_T (α : Type) : Type := ((Seq Z1) × Int × Int × Int × Int × Int × Int × Bool × Int × Bool × Unit) → ((Seq Z1) → Int → Bool → Option α) → Option α

noncomputable def keyed_come_back_g {α : Type} (keyed_come_marked : keyed_come_marked_T α) (c1 : (Seq Z1) × Int × Int × Int × Int × Int × Int × Bool × Int × Bool × Unit) (k : (Seq Z1) → Int → Bool → Option α) : Option α :=
  (cond c1.2.2.2.2.2.2.2.1
    (cond c1.2.2.2.2.2.2.2.1
      (cond (!(c1.2.2.2.1 == 2))
        (k c1.1 1 false)
        (cond (c1.2.2.2.2.2.2.2.2.1 != 1)
          (k c1.1 2 false)
          (cond (c1.2.2.2.1 == 2)
            (keyed_come_marked c1 4 fun r2 =>
              (k r2 1 true))
            (keyed_come_marked c1 3 fun r3 =>
              (k r3 1 false)))))
      (cond (c1.2.2.2.2.2.2.2.2.1 != 1)
        (k c1.1 2 false)
        (cond (c1.2.2.2.1 == 2)
          (keyed_come_marked c1 4 fun r4 =>
            (k r4 1 true))
          (keyed_come_marked c1 3 fun r5 =>
            (k r5 1 false)))))
    (cond c1.2.2.2.2.2.2.2.1
      (k c1.1 1 false)
      (cond (c1.2.2.2.2.2.2.2.2.1 != 1)
        (k c1.1 2 false)
        (keyed_come_marked c1 3 fun r6 =>
          (k r6 1 false)))))

noncomputable def keyed_come_back {α : Type} : keyed_come_back_T α := keyed_come_back_g keyed_come_marked

noncomputable def keyed_come_back_sp {α : Type} (keyed_come_back : keyed_come_back_T α) : FunSpec α := ⟨57, [.agg [.sl (.int .i64 (.int .i64 (.int .i64 (.int .i64 (.int .i64 (.int .i64 (.nil))))))), .int .i64, .int .i64, .int .i64, .int .i64, .int .i64, .int .i64, .bool, .int .i64, .bool]], [], fun ds k => keyed_come_back (hdQ (.int .i64 (.int .i64 (.int .i64 (.int .i64 (.int .i64 (.int .i64 (.nil))))))) ds, hdI ds.tail, hdI ds.tail.tail, hdI ds.tail.tail.tail, hdI ds.tail.tail.tail.tail, hdI ds.tail.tail.tail.tail.tail, hdI ds.tail.tail.tail.tail.tail.tail, hdB ds.tail.tail.tail.tail.tail.tail.tail, hdI ds.tail.tail.tail.tail.tail.tail.tail.tail, hdB ds.tail.tail.tail.tail.tail.tail.tail.tail.tail, ()) (fun r1 r2 r3 => k (enc dep (.tup [.sl (.int .i64 (.int .i64 (.int .i64 (.int .i64 (.int .i64 (.int .i64 (.nil))))))), .int .i64, .bool]) [.q (.int .i64 (.int .i64 (.int .i64 (.int .i64 (.int .i64 (.int .i64 (.nil))))))) r1, .i r2, .b r3]).1 [])⟩

noncomputable def keyed_come_back_spec {α : Type} : FunSpec α := keyed_come_back_sp keyed_come_back

noncomputable def keyed_come_back_C {α : Type} (keyed_come_marked : keyed_come_marked_T α) : List (FunSpec α) := [keyed_come_marked_sp keyed_come_marked]

noncomputable def keyed_come_back_q : FuncId → Bool := fun f => false

noncomputable def keyed_come_back_inl : FuncId → Bool := fun f => false

noncomputable def keyed_come_back_ann : FuncId → AnnT := fun f p => ⟨[], [], [], [], 0, [], [], none⟩

noncomputable def keyed_come_back_loops {α : Type} (keyed_come_marked : keyed_come_marked_T α) : List (LoopSpec α) := []

theorem keyed_come_back_ev {α : Type} (keyed_come_marked : keyed_come_marked_T α) : EvOk (α := α) Go.Proofs.Try.prog (envOf (keyed_come_back_C keyed_come_marked) keyed_come_back_q keyed_come_back_inl 1000 keyed_come_back_ann true (keyed_come_back_loops keyed_come_marked) (fun _ => none)) 6 (keyed_come_back_sp (keyed_come_back_g keyed_come_marked)) := by intro ds k; kernel_rfl

theorem keyed_come_back_ok {α : Type} : (keyed_come_back_spec : FunSpec α).ok Go.Proofs.Try.prog :=
  FunSpec.ok_of (sp := keyed_come_back_spec) (C := keyed_come_back_C keyed_come_marked) (q := keyed_come_back_q) (inl := keyed_come_back_inl) (N := 1000) (ann := keyed_come_back_ann) (fr := true) (D := 6) (l := (keyed_come_back_loops keyed_come_marked)) (hk := (fun _ => none)) (okCons keyed_come_marked_ok okNil) lokNil noHooks (keyed_come_back_ev keyed_come_marked)

end
end Go.Rv.Try

set_option linter.unusedVariables false
set_option maxRecDepth 100000
set_option maxHeartbeats 4000000
namespace Go.Rv.Try
open Go Go.Rv Go.RowKit
noncomputable section

-- slices.Clone[[]drayman/api.Key,drayman/api.Key]

abbrev slices_Clone_api_Key_api_Key_T (α : Type) : Type := (Seq Z1) → ((Seq Z1) → Option α) → Option α

noncomputable def slices_Clone_api_Key_api_Key {α : Type} (s1 : Seq Z1) (k : (Seq Z1) → Option α) : Option α :=
  (cond s1.nl
    (k (⟨true, 0, (fun _ => (0, 0, 0, 0, 0, 0, ()))⟩ : Seq Z1))
    (cond (decide (((0 + s1.n)) * 48 ≤ 140737488355328))
      (k (⟨false, (0 + s1.n), (tApp 0 (tSel [] (0, 0, 0, 0, 0, 0, ())) s1.g)⟩ : Seq Z1))
      none))

noncomputable def slices_Clone_api_Key_api_Key_sp {α : Type} (slices_Clone_api_Key_api_Key : slices_Clone_api_Key_api_Key_T α) : FunSpec α := ⟨58, [.sl (.int .i64 (.int .i64 (.int .i64 (.int .i64 (.int .i64 (.int .i64 (.nil)))))))], [], fun ds k => slices_Clone_api_Key_api_Key (hdQ (.int .i64 (.int .i64 (.int .i64 (.int .i64 (.int .i64 (.int .i64 (.nil))))))) ds) (fun q1 => k (enc dep (.own 0) []).1 (encBs [.row true (.int .i64 (.int .i64 (.int .i64 (.int .i64 (.int .i64 (.int .i64 (.nil)))))))] [.q (.int .i64 (.int .i64 (.int .i64 (.int .i64 (.int .i64 (.int .i64 (.nil))))))) q1]).1)⟩

noncomputable def slices_Clone_api_Key_api_Key_spec {α : Type} : FunSpec α := slices_Clone_api_Key_api_Key_sp slices_Clone_api_Key_api_Key

noncomputable def slices_Clone_api_Key_api_Key_C {α : Type} : List (FunSpec α) := []

noncomputable def slices_Clone_api_Key_api_Key_q : FuncId → Bool := fun f => false

noncomputable def slices_Clone_api_Key_api_Key_inl : FuncId → Bool := fun f => false

noncomputable def slices_Clone_api_Key_api_Key_ann : FuncId → AnnT := fun f p => ⟨[], [], [], [], 0, [], [], none⟩

noncomputable def slices_Clone_api_Key_api_Key_loops {α : Type} : List (LoopSpec α) := []

theorem slices_Clone_api_Key_api_Key_ev {α : Type} : EvOk (α := α) Go.Proofs.Try.prog (envOf (slices_Clone_api_Key_api_Key_C) slices_Clone_api_Key_api_Key_q slices_Clone_api_Key_api_Key_inl 1000 slices_Clone_api_Key_api_Key_ann false (slices_Clone_api_Key_api_Key_loops) (fun _ => none)) 6 (slices_Clone_api_Key_api_Key_sp (slices_Clone_api_Key_api_Key)) := by intro ds k; kernel_rfl

theorem slices_Clone_api_Key_api_Key_ok {α : Type} : (slices_Clone_api_Key_api_Key_spec : FunSpec α).ok Go.Proofs.Try.prog :=
  FunSpec.ok_of (sp := slices_Clone_api_Key_api_Key_spec) (C := slices_Clone_api_Key_api_Key_C) (q := slices_Clone_api_Key_api_Key_q) (inl := slices_Clone_api_Key_api_Key_inl) (N := 1000) (ann := slices_Clone_api_Key_api_Key_ann) (fr := false) (D := 6) (l := (slices_Clone_api_Key_api_Key_loops)) (hk := (fun _ => none)) okNil lokNil noHooks (slices_Clone_api_Key_api_Key_ev)

end
end Go.Rv.Try

set_option linter.unusedVariables false
set_option maxRecDepth 100000
set_option maxHeartbeats 4000000
namespace Go.Rv.Try
open Go Go.Rv Go.RowKit
noncomputable section

-- (drayman/keyed.come).there

abbrev keyed_come_there_T (α : Type) : Type := ((Seq Z1) × Int × Int × Int × Int × Int × Int × Bool × Int × Bool × Unit) → ((Seq Z1) → Int → Bool → Option α) → Option α

noncomputable def keyed_come_there_g {α : Type} (keyed_come_marked : keyed_come_marked_T α) (c1 : (Seq Z1) × Int × Int × Int × Int × Int × Int × Bool × Int × Bool × Unit) (k : (Seq Z1) → Int → Bool → Option α) : Option α :=
  (cond c1.2.2.2.2.2.2.2.1
    (cond (c1.2.2.2.1 == 2)
      (k c1.1 1 false)
      (cond c1.2.2.2.2.2.2.2.1
        (k c1.1 3 false)
        (cond (c1.2.2.2.2.2.2.2.2.1 == 1)
          (keyed_come_marked c1 2 fun r2 =>
            (k r2 1 true))
          (cond (c1.2.2.2.2.2.2.2.2.1 == 3)
            (cond (!c1.2.2.2.2.2.2.2.2.2.1)
              (keyed_come_marked c1 5 fun r3 =>
                (k r3 3 false))
              (k c1.1 2 false))
            (k c1.1 2 false)))))
    (cond c1.2.2.2.2.2.2.2.1
      (k c1.1 3 false)
      (cond (c1.2.2.2.2.2.2.2.2.1 == 1)
        (keyed_come_marked c1 2 fun r4 =>
          (k r4 1 true))
        (cond (c1.2.2.2.2.2.2.2.2.1 == 3)
          (cond (!c1.2.2.2.2.2.2.2.2.2.1)
            (keyed_come_marked c1 5 fun r5 =>
              (k r5 3 false))
            (k c1.1 2 false))
          (k c1.1 2 false)))))

noncomputable def keyed_come_there {α : Type} : keyed_come_there_T α := keyed_come_there_g keyed_come_marked

noncomputable def keyed_come_there_sp {α : Type} (keyed_come_there : keyed_come_there_T α) : FunSpec α := ⟨56, [.agg [.sl (.int .i64 (.int .i64 (.int .i64 (.int .i64 (.int .i64 (.int .i64 (.nil))))))), .int .i64, .int .i64, .int .i64, .int .i64, .int .i64, .int .i64, .bool, .int .i64, .bool]], [], fun ds k => keyed_come_there (hdQ (.int .i64 (.int .i64 (.int .i64 (.int .i64 (.int .i64 (.int .i64 (.nil))))))) ds, hdI ds.tail, hdI ds.tail.tail, hdI ds.tail.tail.tail, hdI ds.tail.tail.tail.tail, hdI ds.tail.tail.tail.tail.tail, hdI ds.tail.tail.tail.tail.tail.tail, hdB ds.tail.tail.tail.tail.tail.tail.tail, hdI ds.tail.tail.tail.tail.tail.tail.tail.tail, hdB ds.tail.tail.tail.tail.tail.tail.tail.tail.tail, ()) (fun r1 r2 r3 => k (enc dep (.tup [.sl (.int .i64 (.int .i64 (.int .i64 (.int .i64 (.int .i64 (.int .i64 (.nil))))))), .int .i64, .bool]) [.q (.int .i64 (.int .i64 (.int .i64 (.int .i64 (.int .i64 (.int .i64 (.nil))))))) r1, .i r2, .b r3]).1 [])⟩

noncomputable def keyed_come_there_spec {α : Type} : FunSpec α := keyed_come_there_sp keyed_come_there

noncomputable def keyed_come_there_C {α : Type} (keyed_come_marked : keyed_come_marked_T α) : List (FunSpec α) := [keyed_come_marked_sp keyed_come_marked]

noncomputable def keyed_come_there_q : FuncId → Bool := fun f => false

noncomputable def keyed_come_there_inl : FuncId → Bool := fun f => false

noncomputable def keyed_come_there_ann : FuncId → AnnT := fun f p => ⟨[], [], [], [], 0, [], [], none⟩

noncomputable def keyed_come_there_loops {α : Type} (keyed_come_marked : keyed_come_marked_T α) : List (LoopSpec α) := []

theorem keyed_come_there_ev {α : Type} (keyed_come_marked : keyed_come_marked_T α) : EvOk (α := α) Go.Proofs.Try.prog (envOf (keyed_come_there_C keyed_come_marked) keyed_come_there_q keyed_come_there_inl 1000 keyed_come_there_ann true (keyed_come_there_loops keyed_come_marked) (fun _ => none)) 6 (keyed_come_there_sp (keyed_come_there_g keyed_come_marked)) := by intro ds k; kernel_rfl

theorem keyed_come_there_ok {α : Type} : (keyed_come_there_spec : FunSpec α).ok Go.Proofs.Try.prog :=
  FunSpec.ok_of (sp := keyed_come_there_spec) (C := keyed_come_there_C keyed_come_marked) (q := keyed_come_there_q) (inl := keyed_come_there_inl) (N := 1000) (ann := keyed_come_there_ann) (fr := true) (D := 6) (l := (keyed_come_there_loops keyed_come_marked)) (hk := (fun _ => none)) (okCons keyed_come_marked_ok okNil) lokNil noHooks (keyed_come_there_ev keyed_come_marked)

end
end Go.Rv.Try

set_option linter.unusedVariables false
set_option maxRecDepth 100000
set_option maxHeartbeats 4000000
namespace Go.Rv.Try
open Go Go.Rv Go.RowKit
noncomputable section

-- drayman/keyed.Come

abbrev keyed_Come_T (α : Type) : Type := (Seq Z1) → Z0 → Int → (Int → Bool → Int → (Seq Z1) → Option α) → Option α

noncomputable def keyed_Come_g {α : Type} (keyed_Fit : keyed_Fit_T α) (outbox_Fit : outbox_Fit_T α) (keyed_Find : keyed_Find_T α) (keyed_come_back : keyed_come_back_T α) (slices_Clone_api_Key_api_Key : slices_Clone_api_Key_api_Key_T α) (keyed_come_there : keyed_come_there_T α) (x1 : Seq Z1) (x2 : Int × Int × Int × Bool × Int × Int × Bool × Unit) (x3 : Int) (k : Int → Bool → Int → (Seq Z1) → Option α) : Option α :=
  (keyed_Fit x1 fun r4 =>
    (cond (!r4)
      (k 0 false 12 (⟨true, 0, (fun _ => (0, 0, 0, 0, 0, 0, ()))⟩ : Seq Z1))
      (outbox_Fit (⟨false, 1, (fun _ => x2)⟩ : Seq Z0) fun r5 =>
        (cond (!(!r5))
          (cond (!(decide (x3 < 1)))
            (cond (decide (x3 > 3))
              (k 0 false 1 (⟨true, 0, (fun _ => (0, 0, 0, 0, 0, 0, ()))⟩ : Seq Z1))
              (keyed_Find x1 x2.2.1 x2.2.2.1 fun r6 r7 =>
                (cond (!r7)
                  (cond x2.2.2.2.1
                    (keyed_come_back (x1, x2.2.1, x2.2.2.1, 0, 0, 0, x2.2.2.2.2.2.1, r7, x3, x2.2.2.2.2.2.2.1, ()) fun r8 r9 r10 =>
                      (slices_Clone_api_Key_api_Key r8 fun r11 =>
                        (k r9 r10 0 r11)))
                    (keyed_come_there (x1, x2.2.1, x2.2.2.1, 0, 0, 0, x2.2.2.2.2.2.1, r7, x3, x2.2.2.2.2.2.2.1, ()) fun r12 r13 r14 =>
                      (slices_Clone_api_Key_api_Key r12 fun r15 =>
                        (k r13 r14 0 r15))))
                  (cond x2.2.2.2.1
                    (keyed_come_back (x1, r6.1, r6.2.1, r6.2.2.1, r6.2.2.2.1, r6.2.2.2.2.1, r6.2.2.2.2.2.1, r7, x3, x2.2.2.2.2.2.2.1, ()) fun r16 r17 r18 =>
                      (slices_Clone_api_Key_api_Key r16 fun r19 =>
                        (k r17 r18 0 r19)))
                    (keyed_come_there (x1, r6.1, r6.2.1, r6.2.2.1, r6.2.2.2.1, r6.2.2.2.2.1, r6.2.2.2.2.2.1, r7, x3, x2.2.2.2.2.2.2.1, ()) fun r20 r21 r22 =>
                      (slices_Clone_api_Key_api_Key r20 fun r23 =>
                        (k r21 r22 0 r23)))))))
            (k 0 false 1 (⟨true, 0, (fun _ => (0, 0, 0, 0, 0, 0, ()))⟩ : Seq Z1)))
          (k 0 false 1 (⟨true, 0, (fun _ => (0, 0, 0, 0, 0, 0, ()))⟩ : Seq Z1))))))

noncomputable def keyed_Come {α : Type} : keyed_Come_T α := keyed_Come_g keyed_Fit outbox_Fit keyed_Find keyed_come_back slices_Clone_api_Key_api_Key keyed_come_there

noncomputable def keyed_Come_sp {α : Type} (keyed_Come : keyed_Come_T α) : FunSpec α := ⟨34, [.sl (.int .i64 (.int .i64 (.int .i64 (.int .i64 (.int .i64 (.int .i64 (.nil))))))), .agg [.int .i64, .int .i64, .int .i64, .bool, .int .i64, .int .i64, .bool], .int .i64], [], fun ds k => keyed_Come (hdQ (.int .i64 (.int .i64 (.int .i64 (.int .i64 (.int .i64 (.int .i64 (.nil))))))) ds) (hdI ds.tail, hdI ds.tail.tail, hdI ds.tail.tail.tail, hdB ds.tail.tail.tail.tail, hdI ds.tail.tail.tail.tail.tail, hdI ds.tail.tail.tail.tail.tail.tail, hdB ds.tail.tail.tail.tail.tail.tail.tail, ()) (hdI ds.tail.tail.tail.tail.tail.tail.tail.tail) (fun r1 r2 r3 q4 => k (enc dep (.tup [.own 0, .int .i64, .bool, .int .i64]) [.i r1, .b r2, .i r3]).1 (encBs [.row true (.int .i64 (.int .i64 (.int .i64 (.int .i64 (.int .i64 (.int .i64 (.nil)))))))] [.q (.int .i64 (.int .i64 (.int .i64 (.int .i64 (.int .i64 (.int .i64 (.nil))))))) q4]).1)⟩

noncomputable def keyed_Come_spec {α : Type} : FunSpec α := keyed_Come_sp keyed_Come

noncomputable def keyed_Come_C {α : Type} (keyed_Fit : keyed_Fit_T α) (outbox_Fit : outbox_Fit_T α) (keyed_Find : keyed_Find_T α) (keyed_come_back : keyed_come_back_T α) (slices_Clone_api_Key_api_Key : slices_Clone_api_Key_api_Key_T α) (keyed_come_there : keyed_come_there_T α) : List (FunSpec α) := [keyed_Fit_sp keyed_Fit, outbox_Fit_sp outbox_Fit, keyed_Find_sp keyed_Find, keyed_come_back_sp keyed_come_back, slices_Clone_api_Key_api_Key_sp slices_Clone_api_Key_api_Key, keyed_come_there_sp keyed_come_there]

noncomputable def keyed_Come_q : FuncId → Bool := fun f => Nat.beq f 35 || Nat.beq f 38 || Nat.beq f 55

noncomputable def keyed_Come_inl : FuncId → Bool := fun f => false

noncomputable def keyed_Come_ann : FuncId → AnnT := fun f p => ⟨[], [], [], [], 0, [], [], none⟩

noncomputable def keyed_Come_loops {α : Type} (keyed_Fit : keyed_Fit_T α) (outbox_Fit : outbox_Fit_T α) (keyed_Find : keyed_Find_T α) (keyed_come_back : keyed_come_back_T α) (slices_Clone_api_Key_api_Key : slices_Clone_api_Key_api_Key_T α) (keyed_come_there : keyed_come_there_T α) : List (LoopSpec α) := []

theorem keyed_Come_ev {α : Type} (keyed_Fit : keyed_Fit_T α) (outbox_Fit : outbox_Fit_T α) (keyed_Find : keyed_Find_T α) (keyed_come_back : keyed_come_back_T α) (slices_Clone_api_Key_api_Key : slices_Clone_api_Key_api_Key_T α) (keyed_come_there : keyed_come_there_T α) : EvOk (α := α) Go.Proofs.Try.prog (envOf (keyed_Come_C keyed_Fit outbox_Fit keyed_Find keyed_come_back slices_Clone_api_Key_api_Key keyed_come_there) keyed_Come_q keyed_Come_inl 1000 keyed_Come_ann false (keyed_Come_loops keyed_Fit outbox_Fit keyed_Find keyed_come_back slices_Clone_api_Key_api_Key keyed_come_there) (fun _ => none)) 6 (keyed_Come_sp (keyed_Come_g keyed_Fit outbox_Fit keyed_Find keyed_come_back slices_Clone_api_Key_api_Key keyed_come_there)) := by intro ds k; kernel_rfl

theorem keyed_Come_ok {α : Type} : (keyed_Come_spec : FunSpec α).ok Go.Proofs.Try.prog :=
  FunSpec.ok_of (sp := keyed_Come_spec) (C := keyed_Come_C keyed_Fit outbox_Fit keyed_Find keyed_come_back slices_Clone_api_Key_api_Key keyed_come_there) (q := keyed_Come_q) (inl := keyed_Come_inl) (N := 1000) (ann := keyed_Come_ann) (fr := false) (D := 6) (l := (keyed_Come_loops keyed_Fit outbox_Fit keyed_Find keyed_come_back slices_Clone_api_Key_api_Key keyed_come_there)) (hk := (fun _ => none)) (okCons keyed_Fit_ok (okCons outbox_Fit_ok (okCons keyed_Find_ok (okCons keyed_come_back_ok (okCons slices_Clone_api_Key_api_Key_ok (okCons keyed_come_there_ok okNil)))))) lokNil noHooks (keyed_Come_ev keyed_Fit outbox_Fit keyed_Find keyed_come_back slices_Clone_api_Key_api_Key keyed_come_there)

end
end Go.Rv.Try

set_option linter.unusedVariables false
set_option maxRecDepth 100000
set_option maxHeartbeats 4000000
namespace Go.Rv.Try
open Go Go.Rv Go.RowKit
noncomputable section

-- (*drayman/pay.Till).moves

abbrev pay_Till_moves_T (α : Type) : Type := Int → Int → ((Seq Z1) × Int × Int × Int × Unit) → (((Seq Z1) × Int × Int × Int × Unit) → Option α) → Option α

noncomputable def pay_Till_moves {α : Type} (op1 : Int) (n2 : Int) (x3 : (Seq Z1) × Int × Int × Int × Unit) (k : ((Seq Z1) × Int × Int × Int × Unit) → Option α) : Option α :=
  (cond (op1 == 2)
    (k (x3.1, x3.2.1, (IntKind.i64.wrap (x3.2.2.1 + n2)), x3.2.2.2.1, ()))
    (cond (op1 == 6)
      (k (x3.1, x3.2.1, (IntKind.i64.wrap (x3.2.2.1 - n2)), (IntKind.i64.wrap (x3.2.2.2.1 + n2)), ()))
      (k x3)))

noncomputable def pay_Till_moves_sp {α : Type} (pay_Till_moves : pay_Till_moves_T α) : FunSpec α := ⟨36, [.ref 0 0, .int .i64, .int .i64], [.box [.sl (.int .i64 (.int .i64 (.int .i64 (.int .i64 (.int .i64 (.int .i64 (.nil))))))), .int .i64, .int .i64, .int .i64]], fun ds k => pay_Till_moves (hdI ds) (hdI ds.tail) (hdQ (.int .i64 (.int .i64 (.int .i64 (.int .i64 (.int .i64 (.int .i64 (.nil))))))) ds.tail.tail, hdI ds.tail.tail.tail, hdI ds.tail.tail.tail.tail, hdI ds.tail.tail.tail.tail.tail, ()) (fun r1 => k (enc dep (.tup []) []).1 (encBs [.box [.sl (.int .i64 (.int .i64 (.int .i64 (.int .i64 (.int .i64 (.int .i64 (.nil))))))), .int .i64, .int .i64, .int .i64]] [.q (.int .i64 (.int .i64 (.int .i64 (.int .i64 (.int .i64 (.int .i64 (.nil))))))) r1.1, .i r1.2.1, .i r1.2.2.1, .i r1.2.2.2.1]).1)⟩

noncomputable def pay_Till_moves_spec {α : Type} : FunSpec α := pay_Till_moves_sp pay_Till_moves

noncomputable def pay_Till_moves_C {α : Type} : List (FunSpec α) := []

noncomputable def pay_Till_moves_q : FuncId → Bool := fun f => false

noncomputable def pay_Till_moves_inl : FuncId → Bool := fun f => false

noncomputable def pay_Till_moves_ann : FuncId → AnnT := fun f p => ⟨[], [], [], [], 0, [], [], none⟩

noncomputable def pay_Till_moves_loops {α : Type} : List (LoopSpec α) := []

theorem pay_Till_moves_ev {α : Type} : EvOk (α := α) Go.Proofs.Try.prog (envOf (pay_Till_moves_C) pay_Till_moves_q pay_Till_moves_inl 1000 pay_Till_moves_ann false (pay_Till_moves_loops) (fun _ => none)) 6 (pay_Till_moves_sp (pay_Till_moves)) := by intro ds k; kernel_rfl

theorem pay_Till_moves_ok {α : Type} : (pay_Till_moves_spec : FunSpec α).ok Go.Proofs.Try.prog :=
  FunSpec.ok_of (sp := pay_Till_moves_spec) (C := pay_Till_moves_C) (q := pay_Till_moves_q) (inl := pay_Till_moves_inl) (N := 1000) (ann := pay_Till_moves_ann) (fr := false) (D := 6) (l := (pay_Till_moves_loops)) (hk := (fun _ => none)) okNil lokNil noHooks (pay_Till_moves_ev)

end
end Go.Rv.Try

set_option linter.unusedVariables false
set_option maxRecDepth 100000
set_option maxHeartbeats 4000000
namespace Go.Rv.Try
open Go Go.Rv Go.RowKit
noncomputable section

-- drayman/pay.Come

abbrev pay_Come_T (α : Type) : Type := ((Seq Z1) × Int × Int × Int × Unit) → Z0 → Int → (((Seq Z1) × Int × Int × Int × Unit) → (Int × Int × Int × Int × Bool × Int × Int × Unit) → Int → Option α) → Option α

noncomputable def pay_Come_g {α : Type} (pay_Fit : pay_Fit_T α) (outbox_Service : outbox_Service_T α) (keyed_Come : keyed_Come_T α) (keyed_Find : keyed_Find_T α) (pay_Till_moves : pay_Till_moves_T α) (pay_within : pay_within_T α) (x1 : (Seq Z1) × Int × Int × Int × Unit) (x2 : Int × Int × Int × Bool × Int × Int × Bool × Unit) (x3 : Int) (k : ((Seq Z1) × Int × Int × Int × Unit) → (Int × Int × Int × Int × Bool × Int × Int × Unit) → Int → Option α) : Option α :=
  (pay_Fit x1 fun r4 =>
    (cond (!r4)
      (k ((⟨true, 0, (fun _ => (0, 0, 0, 0, 0, 0, ()))⟩ : Seq Z1), 0, 0, 0, ()) (0, 0, 0, 0, false, 0, 0, ()) 12)
      (outbox_Service x2.2.2.2.2.1 fun r5 =>
        (cond (r5 != 1)
          (k ((⟨true, 0, (fun _ => (0, 0, 0, 0, 0, 0, ()))⟩ : Seq Z1), 0, 0, 0, ()) (0, 0, 0, 0, false, 0, 0, ()) 1)
          (keyed_Come x1.1 x2 x3 fun r6 r7 r8 r9 =>
            (cond (r8 != 0)
              (k ((⟨true, 0, (fun _ => (0, 0, 0, 0, 0, 0, ()))⟩ : Seq Z1), 0, 0, 0, ()) (0, 0, 0, 0, false, 0, 0, ()) r8)
              (keyed_Find r9 x2.2.1 x2.2.2.1 fun r10 r11 =>
                (cond r7
                  (cond x2.2.2.2.1
                    (pay_Till_moves x2.2.2.2.2.1 (IntKind.i64.wrap (0 - r10.2.2.2.2.2.1)) (r9, x1.2.1, x1.2.2.1, x1.2.2.2.1, ()) fun r12 =>
                      (cond (!(x1.2.1 == 1099511627776))
                        (pay_within r12 fun r13 =>
                          (cond (!r13)
                            (k ((⟨true, 0, (fun _ => (0, 0, 0, 0, 0, 0, ()))⟩ : Seq Z1), 0, 0, 0, ()) (0, 0, 0, 0, false, 0, 0, ()) 5)
                            (k (r12.1, (IntKind.i64.wrap (r12.2.1 + 1)), r12.2.2.1, r12.2.2.2.1, ()) (1, x1.2.1, x2.2.1, x2.2.2.1, x2.2.2.2.1, x2.1, r6, ()) 0)))
                        (k ((⟨true, 0, (fun _ => (0, 0, 0, 0, 0, 0, ()))⟩ : Seq Z1), 0, 0, 0, ()) (0, 0, 0, 0, false, 0, 0, ()) 5)))
                    (cond r7
                      (pay_Till_moves x2.2.2.2.2.1 r10.2.2.2.2.2.1 (r9, x1.2.1, x1.2.2.1, x1.2.2.2.1, ()) fun r14 =>
                        (cond (!(x1.2.1 == 1099511627776))
                          (pay_within r14 fun r15 =>
                            (cond (!r15)
                              (k ((⟨true, 0, (fun _ => (0, 0, 0, 0, 0, 0, ()))⟩ : Seq Z1), 0, 0, 0, ()) (0, 0, 0, 0, false, 0, 0, ()) 5)
                              (k (r14.1, (IntKind.i64.wrap (r14.2.1 + 1)), r14.2.2.1, r14.2.2.2.1, ()) (1, x1.2.1, x2.2.1, x2.2.2.1, x2.2.2.2.1, x2.1, r6, ()) 0)))
                          (k ((⟨true, 0, (fun _ => (0, 0, 0, 0, 0, 0, ()))⟩ : Seq Z1), 0, 0, 0, ()) (0, 0, 0, 0, false, 0, 0, ()) 5)))
                      (cond (!(x1.2.1 == 1099511627776))
                        (pay_within (r9, x1.2.1, x1.2.2.1, x1.2.2.2.1, ()) fun r16 =>
                          (cond (!r16)
                            (k ((⟨true, 0, (fun _ => (0, 0, 0, 0, 0, 0, ()))⟩ : Seq Z1), 0, 0, 0, ()) (0, 0, 0, 0, false, 0, 0, ()) 5)
                            (k (r9, (IntKind.i64.wrap (x1.2.1 + 1)), x1.2.2.1, x1.2.2.2.1, ()) (1, x1.2.1, x2.2.1, x2.2.2.1, x2.2.2.2.1, x2.1, r6, ()) 0)))
                        (k ((⟨true, 0, (fun _ => (0, 0, 0, 0, 0, 0, ()))⟩ : Seq Z1), 0, 0, 0, ()) (0, 0, 0, 0, false, 0, 0, ()) 5))))
                  (cond r7
                    (pay_Till_moves x2.2.2.2.2.1 r10.2.2.2.2.2.1 (r9, x1.2.1, x1.2.2.1, x1.2.2.2.1, ()) fun r17 =>
                      (cond (!(x1.2.1 == 1099511627776))
                        (pay_within r17 fun r18 =>
                          (cond (!r18)
                            (k ((⟨true, 0, (fun _ => (0, 0, 0, 0, 0, 0, ()))⟩ : Seq Z1), 0, 0, 0, ()) (0, 0, 0, 0, false, 0, 0, ()) 5)
                            (k (r17.1, (IntKind.i64.wrap (r17.2.1 + 1)), r17.2.2.1, r17.2.2.2.1, ()) (1, x1.2.1, x2.2.1, x2.2.2.1, x2.2.2.2.1, x2.1, r6, ()) 0)))
                        (k ((⟨true, 0, (fun _ => (0, 0, 0, 0, 0, 0, ()))⟩ : Seq Z1), 0, 0, 0, ()) (0, 0, 0, 0, false, 0, 0, ()) 5)))
                    (cond (!(x1.2.1 == 1099511627776))
                      (pay_within (r9, x1.2.1, x1.2.2.1, x1.2.2.2.1, ()) fun r19 =>
                        (cond (!r19)
                          (k ((⟨true, 0, (fun _ => (0, 0, 0, 0, 0, 0, ()))⟩ : Seq Z1), 0, 0, 0, ()) (0, 0, 0, 0, false, 0, 0, ()) 5)
                          (k (r9, (IntKind.i64.wrap (x1.2.1 + 1)), x1.2.2.1, x1.2.2.2.1, ()) (1, x1.2.1, x2.2.1, x2.2.2.1, x2.2.2.2.1, x2.1, r6, ()) 0)))
                      (k ((⟨true, 0, (fun _ => (0, 0, 0, 0, 0, 0, ()))⟩ : Seq Z1), 0, 0, 0, ()) (0, 0, 0, 0, false, 0, 0, ()) 5)))))))))))

noncomputable def pay_Come {α : Type} : pay_Come_T α := pay_Come_g pay_Fit outbox_Service keyed_Come keyed_Find pay_Till_moves pay_within

noncomputable def pay_Come_sp {α : Type} (pay_Come : pay_Come_T α) : FunSpec α := ⟨9, [.agg [.sl (.int .i64 (.int .i64 (.int .i64 (.int .i64 (.int .i64 (.int .i64 (.nil))))))), .int .i64, .int .i64, .int .i64], .agg [.int .i64, .int .i64, .int .i64, .bool, .int .i64, .int .i64, .bool], .int .i64], [], fun ds k => pay_Come (hdQ (.int .i64 (.int .i64 (.int .i64 (.int .i64 (.int .i64 (.int .i64 (.nil))))))) ds, hdI ds.tail, hdI ds.tail.tail, hdI ds.tail.tail.tail, ()) (hdI ds.tail.tail.tail.tail, hdI ds.tail.tail.tail.tail.tail, hdI ds.tail.tail.tail.tail.tail.tail, hdB ds.tail.tail.tail.tail.tail.tail.tail, hdI ds.tail.tail.tail.tail.tail.tail.tail.tail, hdI ds.tail.tail.tail.tail.tail.tail.tail.tail.tail, hdB ds.tail.tail.tail.tail.tail.tail.tail.tail.tail.tail, ()) (hdI ds.tail.tail.tail.tail.tail.tail.tail.tail.tail.tail.tail) (fun r1 r2 r3 => k (enc dep (.tup [.agg [.sl (.int .i64 (.int .i64 (.int .i64 (.int .i64 (.int .i64 (.int .i64 (.nil))))))), .int .i64, .int .i64, .int .i64], .agg [.int .i64, .int .i64, .int .i64, .int .i64, .bool, .int .i64, .int .i64], .int .i64]) [.q (.int .i64 (.int .i64 (.int .i64 (.int .i64 (.int .i64 (.int .i64 (.nil))))))) r1.1, .i r1.2.1, .i r1.2.2.1, .i r1.2.2.2.1, .i r2.1, .i r2.2.1, .i r2.2.2.1, .i r2.2.2.2.1, .b r2.2.2.2.2.1, .i r2.2.2.2.2.2.1, .i r2.2.2.2.2.2.2.1, .i r3]).1 [])⟩

noncomputable def pay_Come_spec {α : Type} : FunSpec α := pay_Come_sp pay_Come

noncomputable def pay_Come_C {α : Type} (pay_Fit : pay_Fit_T α) (outbox_Service : outbox_Service_T α) (keyed_Come : keyed_Come_T α) (keyed_Find : keyed_Find_T α) (pay_Till_moves : pay_Till_moves_T α) (pay_within : pay_within_T α) : List (FunSpec α) := [pay_Fit_sp pay_Fit, outbox_Service_sp outbox_Service, keyed_Come_sp keyed_Come, keyed_Find_sp keyed_Find, pay_Till_moves_sp pay_Till_moves, pay_within_sp pay_within]

noncomputable def pay_Come_q : FuncId → Bool := fun f => Nat.beq f 10 || Nat.beq f 33 || Nat.beq f 35 || Nat.beq f 37

noncomputable def pay_Come_inl : FuncId → Bool := fun f => false

noncomputable def pay_Come_ann : FuncId → AnnT := fun f p => if f = 9 then (if p = [false, true, true, true, true, true, true, true, true, true] then ⟨[0], [2, 3, 4, 5], [], [], 2, [], [], none⟩ else ⟨[], [], [], [], 0, [], [], none⟩) else ⟨[], [], [], [], 0, [], [], none⟩

noncomputable def pay_Come_loops {α : Type} (pay_Fit : pay_Fit_T α) (outbox_Service : outbox_Service_T α) (keyed_Come : keyed_Come_T α) (keyed_Find : keyed_Find_T α) (pay_Till_moves : pay_Till_moves_T α) (pay_within : pay_within_T α) : List (LoopSpec α) := []

theorem pay_Come_ev {α : Type} (pay_Fit : pay_Fit_T α) (outbox_Service : outbox_Service_T α) (keyed_Come : keyed_Come_T α) (keyed_Find : keyed_Find_T α) (pay_Till_moves : pay_Till_moves_T α) (pay_within : pay_within_T α) : EvOk (α := α) Go.Proofs.Try.prog (envOf (pay_Come_C pay_Fit outbox_Service keyed_Come keyed_Find pay_Till_moves pay_within) pay_Come_q pay_Come_inl 1000 pay_Come_ann true (pay_Come_loops pay_Fit outbox_Service keyed_Come keyed_Find pay_Till_moves pay_within) (fun _ => none)) 6 (pay_Come_sp (pay_Come_g pay_Fit outbox_Service keyed_Come keyed_Find pay_Till_moves pay_within)) := by intro ds k; kernel_rfl

theorem pay_Come_ok {α : Type} : (pay_Come_spec : FunSpec α).ok Go.Proofs.Try.prog :=
  FunSpec.ok_of (sp := pay_Come_spec) (C := pay_Come_C pay_Fit outbox_Service keyed_Come keyed_Find pay_Till_moves pay_within) (q := pay_Come_q) (inl := pay_Come_inl) (N := 1000) (ann := pay_Come_ann) (fr := true) (D := 6) (l := (pay_Come_loops pay_Fit outbox_Service keyed_Come keyed_Find pay_Till_moves pay_within)) (hk := (fun _ => none)) (okCons pay_Fit_ok (okCons outbox_Service_ok (okCons keyed_Come_ok (okCons keyed_Find_ok (okCons pay_Till_moves_ok (okCons pay_within_ok okNil)))))) lokNil noHooks (pay_Come_ev pay_Fit outbox_Service keyed_Come keyed_Find pay_Till_moves pay_within)

end
end Go.Rv.Try

set_option linter.unusedVariables false
set_option maxRecDepth 100000
set_option maxHeartbeats 4000000
namespace Go.Rv.Try
open Go Go.Rv Go.RowKit
noncomputable section

-- drayman/draymanlaw32.awake

abbrev draymanlaw32_awake_T (α : Type) : Type := (Bool → Option α) → Option α

noncomputable def draymanlaw32_awake_g {α : Type} (pay_New : pay_New_T α) (pay_Come : pay_Come_T α) (k : Bool → Option α) : Option α :=
  (pay_New fun r1 =>
    (pay_Come r1 (1, 1, 0, false, 2, 5, false, ()) 1 fun r2 r3 r4 =>
      (pay_Come r2 (1, 1, 0, true, 2, 5, false, ()) 1 fun r5 r6 r7 =>
        (pay_Come r5 (1, 1, 0, false, 4, 0, false, ()) 1 fun r8 r9 r10 =>
          (cond (r4 == 0)
            (cond (r7 == 0)
              (cond (r2.2.2.1 == 5)
                (cond (r3.2.1 == 1)
                  (cond (r3.2.2.2.2.2.2.1 == 1)
                    (cond (r5.2.2.1 == 0)
                      (cond (r6.2.1 == 2)
                        (cond r6.2.2.2.2.1
                          (k (r10 == 1))
                          (k false))
                        (k false))
                      (k false))
                    (k false))
                  (k false))
                (k false))
              (k false))
            (k false))))))

noncomputable def draymanlaw32_awake {α : Type} : draymanlaw32_awake_T α := draymanlaw32_awake_g pay_New pay_Come

noncomputable def draymanlaw32_awake_sp {α : Type} (draymanlaw32_awake : draymanlaw32_awake_T α) : FunSpec α := ⟨7, [], [], fun ds k => draymanlaw32_awake  (fun r1 => k (enc dep (.bool) [.b r1]).1 [])⟩

noncomputable def draymanlaw32_awake_spec {α : Type} : FunSpec α := draymanlaw32_awake_sp draymanlaw32_awake

noncomputable def draymanlaw32_awake_C {α : Type} (pay_New : pay_New_T α) (pay_Come : pay_Come_T α) : List (FunSpec α) := [pay_New_sp pay_New, pay_Come_sp pay_Come]

noncomputable def draymanlaw32_awake_q : FuncId → Bool := fun f => false

noncomputable def draymanlaw32_awake_inl : FuncId → Bool := fun f => false

noncomputable def draymanlaw32_awake_ann : FuncId → AnnT := fun f p => if f = 7 then (if p = [false, true, true] then ⟨[], [], [], [], 2, [], [], none⟩ else ⟨[], [], [], [], 0, [], [], none⟩) else ⟨[], [], [], [], 0, [], [], none⟩

noncomputable def draymanlaw32_awake_loops {α : Type} (pay_New : pay_New_T α) (pay_Come : pay_Come_T α) : List (LoopSpec α) := []

theorem draymanlaw32_awake_ev {α : Type} (pay_New : pay_New_T α) (pay_Come : pay_Come_T α) : EvOk (α := α) Go.Proofs.Try.prog (envOf (draymanlaw32_awake_C pay_New pay_Come) draymanlaw32_awake_q draymanlaw32_awake_inl 1000 draymanlaw32_awake_ann false (draymanlaw32_awake_loops pay_New pay_Come) (fun _ => none)) 6 (draymanlaw32_awake_sp (draymanlaw32_awake_g pay_New pay_Come)) := by intro ds k; kernel_rfl

theorem draymanlaw32_awake_ok {α : Type} : (draymanlaw32_awake_spec : FunSpec α).ok Go.Proofs.Try.prog :=
  FunSpec.ok_of (sp := draymanlaw32_awake_spec) (C := draymanlaw32_awake_C pay_New pay_Come) (q := draymanlaw32_awake_q) (inl := draymanlaw32_awake_inl) (N := 1000) (ann := draymanlaw32_awake_ann) (fr := false) (D := 6) (l := (draymanlaw32_awake_loops pay_New pay_Come)) (hk := (fun _ => none)) (okCons pay_New_ok (okCons pay_Come_ok okNil)) lokNil noHooks (draymanlaw32_awake_ev pay_New pay_Come)

end
end Go.Rv.Try

set_option linter.unusedVariables false
set_option maxRecDepth 100000
set_option maxHeartbeats 4000000
namespace Go.Rv.Try
open Go Go.Rv Go.RowKit
noncomputable section

-- drayman/draymanref01.Fit

abbrev draymanref01_Fit_T (α : Type) : Type := Int → (Bool → Option α) → Option α

noncomputable def draymanref01_Fit {α : Type} (n1 : Int) (k : Bool → Option α) : Option α :=
  (cond (decide (n1 ≥ 0))
    (k (decide (n1 ≤ 1099511627776)))
    (k false))

noncomputable def draymanref01_Fit_sp {α : Type} (draymanref01_Fit : draymanref01_Fit_T α) : FunSpec α := ⟨65, [.int .i64], [], fun ds k => draymanref01_Fit (hdI ds) (fun r1 => k (enc dep (.bool) [.b r1]).1 [])⟩

noncomputable def draymanref01_Fit_spec {α : Type} : FunSpec α := draymanref01_Fit_sp draymanref01_Fit

noncomputable def draymanref01_Fit_C {α : Type} : List (FunSpec α) := []

noncomputable def draymanref01_Fit_q : FuncId → Bool := fun f => false

noncomputable def draymanref01_Fit_inl : FuncId → Bool := fun f => false

noncomputable def draymanref01_Fit_ann : FuncId → AnnT := fun f p => ⟨[], [], [], [], 0, [], [], none⟩

noncomputable def draymanref01_Fit_loops {α : Type} : List (LoopSpec α) := []

theorem draymanref01_Fit_ev {α : Type} : EvOk (α := α) Go.Proofs.Try.prog (envOf (draymanref01_Fit_C) draymanref01_Fit_q draymanref01_Fit_inl 1000 draymanref01_Fit_ann false (draymanref01_Fit_loops) (fun _ => none)) 6 (draymanref01_Fit_sp (draymanref01_Fit)) := by intro ds k; kernel_rfl

theorem draymanref01_Fit_ok {α : Type} : (draymanref01_Fit_spec : FunSpec α).ok Go.Proofs.Try.prog :=
  FunSpec.ok_of (sp := draymanref01_Fit_spec) (C := draymanref01_Fit_C) (q := draymanref01_Fit_q) (inl := draymanref01_Fit_inl) (N := 1000) (ann := draymanref01_Fit_ann) (fr := false) (D := 6) (l := (draymanref01_Fit_loops)) (hk := (fun _ => none)) okNil lokNil noHooks (draymanref01_Fit_ev)

end
end Go.Rv.Try

set_option linter.unusedVariables false
set_option maxRecDepth 100000
set_option maxHeartbeats 4000000
namespace Go.Rv.Try
open Go Go.Rv Go.RowKit
noncomputable section

-- drayman/draymanref31.One

abbrev draymanref31_One_T (α : Type) : Type := Z1 → (Bool → Option α) → Option α

noncomputable def draymanref31_One_g {α : Type} (draymanref01_Fit : draymanref01_Fit_T α) (x1 : Int × Int × Int × Int × Int × Int × Unit) (k : Bool → Option α) : Option α :=
  (cond (!(decide (x1.1 < 1)))
    (cond (!(decide (x1.1 > 1099511627776)))
      (cond (!(decide (x1.2.1 < 0)))
        (cond (!(decide (x1.2.1 ≥ 6)))
          (draymanref01_Fit x1.2.2.2.2.2.1 fun r2 =>
            (cond (!r2)
              (k false)
              (cond (x1.2.2.1 == 2)
                (cond (x1.2.2.2.1 == 1)
                  (k (x1.2.2.2.2.1 == 0))
                  (k false))
                (cond (x1.2.2.1 == 4)
                  (cond (x1.2.2.2.1 == 1)
                    (k (x1.2.2.2.2.1 == 1))
                    (k false))
                  (cond (x1.2.2.1 == 5)
                    (cond (x1.2.2.1 == 5)
                      (cond (x1.2.2.2.1 == 0)
                        (k (x1.2.2.2.2.1 == 0))
                        (k false))
                      (k false))
                    (cond (x1.2.2.1 == 3)
                      (cond (x1.2.2.2.1 == 0)
                        (k (x1.2.2.2.2.1 == 0))
                        (k false))
                      (k false)))))))
          (k false))
        (k false))
      (k false))
    (k false))

noncomputable def draymanref31_One {α : Type} : draymanref31_One_T α := draymanref31_One_g draymanref01_Fit

noncomputable def draymanref31_One_sp {α : Type} (draymanref31_One : draymanref31_One_T α) : FunSpec α := ⟨39, [.agg [.int .i64, .int .i64, .int .i64, .int .i64, .int .i64, .int .i64]], [], fun ds k => draymanref31_One (hdI ds, hdI ds.tail, hdI ds.tail.tail, hdI ds.tail.tail.tail, hdI ds.tail.tail.tail.tail, hdI ds.tail.tail.tail.tail.tail, ()) (fun r1 => k (enc dep (.bool) [.b r1]).1 [])⟩

noncomputable def draymanref31_One_spec {α : Type} : FunSpec α := draymanref31_One_sp draymanref31_One

noncomputable def draymanref31_One_C {α : Type} (draymanref01_Fit : draymanref01_Fit_T α) : List (FunSpec α) := [draymanref01_Fit_sp draymanref01_Fit]

noncomputable def draymanref31_One_q : FuncId → Bool := fun f => Nat.beq f 65

noncomputable def draymanref31_One_inl : FuncId → Bool := fun f => false

noncomputable def draymanref31_One_ann : FuncId → AnnT := fun f p => ⟨[], [], [], [], 0, [], [], none⟩

noncomputable def draymanref31_One_loops {α : Type} (draymanref01_Fit : draymanref01_Fit_T α) : List (LoopSpec α) := []

theorem draymanref31_One_ev {α : Type} (draymanref01_Fit : draymanref01_Fit_T α) : EvOk (α := α) Go.Proofs.Try.prog (envOf (draymanref31_One_C draymanref01_Fit) draymanref31_One_q draymanref31_One_inl 1000 draymanref31_One_ann false (draymanref31_One_loops draymanref01_Fit) (fun _ => none)) 6 (draymanref31_One_sp (draymanref31_One_g draymanref01_Fit)) := by intro ds k; kernel_rfl

theorem draymanref31_One_ok {α : Type} : (draymanref31_One_spec : FunSpec α).ok Go.Proofs.Try.prog :=
  FunSpec.ok_of (sp := draymanref31_One_spec) (C := draymanref31_One_C draymanref01_Fit) (q := draymanref31_One_q) (inl := draymanref31_One_inl) (N := 1000) (ann := draymanref31_One_ann) (fr := false) (D := 6) (l := (draymanref31_One_loops draymanref01_Fit)) (hk := (fun _ => none)) (okCons draymanref01_Fit_ok okNil) lokNil noHooks (draymanref31_One_ev draymanref01_Fit)

end
end Go.Rv.Try

set_option linter.unusedVariables false
set_option maxRecDepth 100000
set_option maxHeartbeats 4000000
namespace Go.Rv.Try
open Go Go.Rv Go.RowKit
noncomputable section

-- drayman/draymanref31.ahead

abbrev draymanref31_ahead_T (α : Type) : Type := Z1 → Z1 → (Bool → Option α) → Option α

noncomputable def draymanref31_ahead {α : Type} (a1 : Int × Int × Int × Int × Int × Int × Unit) (b2 : Int × Int × Int × Int × Int × Int × Unit) (k : Bool → Option α) : Option α :=
  (cond (!(decide (a1.1 < b2.1)))
    (cond (a1.1 == b2.1)
      (k (decide (a1.2.1 < b2.2.1)))
      (k false))
    (k true))

noncomputable def draymanref31_ahead_sp {α : Type} (draymanref31_ahead : draymanref31_ahead_T α) : FunSpec α := ⟨40, [.agg [.int .i64, .int .i64, .int .i64, .int .i64, .int .i64, .int .i64], .agg [.int .i64, .int .i64, .int .i64, .int .i64, .int .i64, .int .i64]], [], fun ds k => draymanref31_ahead (hdI ds, hdI ds.tail, hdI ds.tail.tail, hdI ds.tail.tail.tail, hdI ds.tail.tail.tail.tail, hdI ds.tail.tail.tail.tail.tail, ()) (hdI ds.tail.tail.tail.tail.tail.tail, hdI ds.tail.tail.tail.tail.tail.tail.tail, hdI ds.tail.tail.tail.tail.tail.tail.tail.tail, hdI ds.tail.tail.tail.tail.tail.tail.tail.tail.tail, hdI ds.tail.tail.tail.tail.tail.tail.tail.tail.tail.tail, hdI ds.tail.tail.tail.tail.tail.tail.tail.tail.tail.tail.tail, ()) (fun r1 => k (enc dep (.bool) [.b r1]).1 [])⟩

noncomputable def draymanref31_ahead_spec {α : Type} : FunSpec α := draymanref31_ahead_sp draymanref31_ahead

noncomputable def draymanref31_ahead_C {α : Type} : List (FunSpec α) := []

noncomputable def draymanref31_ahead_q : FuncId → Bool := fun f => false

noncomputable def draymanref31_ahead_inl : FuncId → Bool := fun f => false

noncomputable def draymanref31_ahead_ann : FuncId → AnnT := fun f p => ⟨[], [], [], [], 0, [], [], none⟩

noncomputable def draymanref31_ahead_loops {α : Type} : List (LoopSpec α) := []

theorem draymanref31_ahead_ev {α : Type} : EvOk (α := α) Go.Proofs.Try.prog (envOf (draymanref31_ahead_C) draymanref31_ahead_q draymanref31_ahead_inl 1000 draymanref31_ahead_ann false (draymanref31_ahead_loops) (fun _ => none)) 6 (draymanref31_ahead_sp (draymanref31_ahead)) := by intro ds k; kernel_rfl

theorem draymanref31_ahead_ok {α : Type} : (draymanref31_ahead_spec : FunSpec α).ok Go.Proofs.Try.prog :=
  FunSpec.ok_of (sp := draymanref31_ahead_spec) (C := draymanref31_ahead_C) (q := draymanref31_ahead_q) (inl := draymanref31_ahead_inl) (N := 1000) (ann := draymanref31_ahead_ann) (fr := false) (D := 6) (l := (draymanref31_ahead_loops)) (hk := (fun _ => none)) okNil lokNil noHooks (draymanref31_ahead_ev)

end
end Go.Rv.Try

set_option linter.unusedVariables false
set_option maxRecDepth 100000
set_option maxHeartbeats 4000000
namespace Go.Rv.Try
open Go Go.Rv Go.RowKit
noncomputable section

-- drayman/draymanref31.Fit

abbrev draymanref31_Fit_T (α : Type) : Type := (Seq Z1) → (Bool → Option α) → Option α

noncomputable def draymanref31_Fit_l0_step {α : Type} (draymanref31_One : draymanref31_One_T α) (draymanref31_ahead : draymanref31_ahead_T α) (kr : (Bool) → Option α) (k0 : Option α) (rec : (Seq Z1) → (Int) → Option α) (l2 : Seq Z1) (i3 : Int) : Option α :=
  (cond (decide (i3 < (l2.n : Int)))
    (cond (((decide ((0 : Int) ≤ i3)) && (decide (i3 < (l2.n : Int)))) && ((decide ((0 : Int) ≤ i3)) && (decide (i3 < (l2.n : Int)))))
      (draymanref31_One (l2.g i3.toNat) fun r4 =>
        (cond (!(!r4))
          (cond (decide (i3 > 0))
            (cond (((decide ((0 : Int) ≤ (IntKind.i64.wrap (i3 - 1)))) && (decide ((IntKind.i64.wrap (i3 - 1)) < (l2.n : Int)))) && ((decide ((0 : Int) ≤ (IntKind.i64.wrap (i3 - 1)))) && (decide ((IntKind.i64.wrap (i3 - 1)) < (l2.n : Int)))))
              (cond (((decide ((0 : Int) ≤ i3)) && (decide (i3 < (l2.n : Int)))) && ((decide ((0 : Int) ≤ i3)) && (decide (i3 < (l2.n : Int)))))
                (draymanref31_ahead (l2.g (IntKind.i64.wrap (i3 - 1)).toNat) (l2.g i3.toNat) fun r5 =>
                  (cond (!r5)
                    (kr false)
                    (rec l2 (IntKind.i64.wrap (i3 + 1)))))
                none)
              none)
            (rec l2 (IntKind.i64.wrap (i3 + 1))))
          (kr false)))
      none)
    (k0))

noncomputable def draymanref31_Fit_l0_run {α : Type} (draymanref31_One : draymanref31_One_T α) (draymanref31_ahead : draymanref31_ahead_T α) (kr : (Bool) → Option α) (k0 : Option α) : Nat → (Seq Z1) → (Int) → Option α
  | 0, _, _ => none
  | n + 1, l2, i3 => draymanref31_Fit_l0_step draymanref31_One draymanref31_ahead kr k0 (fun l2 i3 => draymanref31_Fit_l0_run draymanref31_One draymanref31_ahead kr k0 n l2 i3) l2 i3

noncomputable def draymanref31_Fit_g {α : Type} (draymanref31_One : draymanref31_One_T α) (draymanref31_ahead : draymanref31_ahead_T α) (l1 : Seq Z1) (k : Bool → Option α) : Option α :=
  (draymanref31_Fit_l0_run draymanref31_One draymanref31_ahead
    (fun x6 =>
      (k x6))
    ((k true))
    1000 l1 0)

noncomputable def draymanref31_Fit {α : Type} : draymanref31_Fit_T α := draymanref31_Fit_g draymanref31_One draymanref31_ahead

noncomputable def draymanref31_Fit_sp {α : Type} (draymanref31_Fit : draymanref31_Fit_T α) : FunSpec α := ⟨11, [.sl (.int .i64 (.int .i64 (.int .i64 (.int .i64 (.int .i64 (.int .i64 (.nil)))))))], [], fun ds k => draymanref31_Fit (hdQ (.int .i64 (.int .i64 (.int .i64 (.int .i64 (.int .i64 (.int .i64 (.nil))))))) ds) (fun r1 => k (enc dep (.bool) [.b r1]).1 [])⟩

noncomputable def draymanref31_Fit_spec {α : Type} : FunSpec α := draymanref31_Fit_sp draymanref31_Fit

noncomputable def draymanref31_Fit_C {α : Type} (draymanref31_One : draymanref31_One_T α) (draymanref31_ahead : draymanref31_ahead_T α) : List (FunSpec α) := [draymanref31_One_sp draymanref31_One, draymanref31_ahead_sp draymanref31_ahead]

noncomputable def draymanref31_Fit_q : FuncId → Bool := fun f => Nat.beq f 39 || Nat.beq f 40

noncomputable def draymanref31_Fit_inl : FuncId → Bool := fun f => false

noncomputable def draymanref31_Fit_ann : FuncId → AnnT := fun f p => if f = 11 then (if p = [true, false, true] then ⟨[0, 3], [], [], [2], 0, [], [], none⟩ else ⟨[], [], [], [], 0, [], [], none⟩) else ⟨[], [], [], [], 0, [], [], none⟩

noncomputable def draymanref31_Fit_l0_t : List Sh := [.sl (.int .i64 (.int .i64 (.int .i64 (.int .i64 (.int .i64 (.int .i64 (.nil))))))), .dead, .dead, .int .i64, .dead, .dead, .dead, .dead, .dead, .dead, .dead, .dead, .dead, .dead, .dead, .dead, .dead, .dead, .dead, .dead, .dead, .dead, .dead, .dead, .dead, .dead, .dead, .dead, .dead, .dead, .dead, .dead, .dead]
noncomputable def draymanref31_Fit_l0_s : List (List Sh) := []
noncomputable def draymanref31_Fit_l0_h : List BSh := []

noncomputable def draymanref31_Fit_l0_spec {α : Type} (draymanref31_One : draymanref31_One_T α) (draymanref31_ahead : draymanref31_ahead_T α) : LoopSpec α := ⟨6, 11, [true, false, true], draymanref31_Fit_l0_t, draymanref31_Fit_l0_s, draymanref31_Fit_l0_h, fun ds k => draymanref31_Fit_l0_run draymanref31_One draymanref31_ahead (fun y1 => k .ret (encSt [.dead, .dead, .bool, .dead, .dead, .dead, .dead, .dead, .dead, .dead, .dead, .dead, .dead, .dead, .dead, .dead, .dead, .dead, .dead, .dead, .dead, .dead, .dead, .dead, .dead, .dead, .dead, .dead, .dead, .dead, .dead, .dead, .dead] [] [] [.b y1])) (k (.exit 0) (encSt [.dead, .dead, .dead, .dead, .dead, .dead, .dead, .dead, .dead, .dead, .dead, .dead, .dead, .dead, .dead, .dead, .dead, .dead, .dead, .dead, .dead, .dead, .dead, .dead, .dead, .dead, .dead, .dead, .dead, .dead, .dead, .dead, .dead] [] [] [])) 1000 (hdQ (.int .i64 (.int .i64 (.int .i64 (.int .i64 (.int .i64 (.int .i64 (.nil))))))) ds) (hdI ds.tail)⟩

noncomputable def draymanref31_Fit_loops {α : Type} (draymanref31_One : draymanref31_One_T α) (draymanref31_ahead : draymanref31_ahead_T α) : List (LoopSpec α) := [draymanref31_Fit_l0_spec draymanref31_One draymanref31_ahead]

noncomputable def draymanref31_Fit_l0_ev {α : Type} (draymanref31_One : draymanref31_One_T α) (draymanref31_ahead : draymanref31_ahead_T α) (n : Nat) (st : St) (k : X → St → Option α) : Option α := loopN (evCode Go.Proofs.Try.prog (callD Go.Proofs.Try.prog (envOf (draymanref31_Fit_C draymanref31_One draymanref31_ahead) draymanref31_Fit_q draymanref31_Fit_inl 1000 draymanref31_Fit_ann false (draymanref31_Fit_loops draymanref31_One draymanref31_ahead) (fun _ => none)) 6) (((envOf (draymanref31_Fit_C draymanref31_One draymanref31_ahead) draymanref31_Fit_q draymanref31_Fit_inl 1000 draymanref31_Fit_ann false (draymanref31_Fit_loops draymanref31_One draymanref31_ahead) (fun _ => none)) : Env α).L 6 11) 1000 (draymanref31_Fit_ann 11) (false :: [true, false, true]) (loopC Go.Proofs.Try.prog 11 [true, false, true])) ((draymanref31_Fit_ann 11 [true, false, true]).head 0) ((draymanref31_Fit_ann 11 [true, false, true]).leave 0) n st k

theorem draymanref31_Fit_l0_eq {α : Type} (draymanref31_One : draymanref31_One_T α) (draymanref31_ahead : draymanref31_ahead_T α) : ∀ (n : Nat) (l2 : Seq Z1) (i3 : Int) (k : X → St → Option α), draymanref31_Fit_l0_ev draymanref31_One draymanref31_ahead n (encSt draymanref31_Fit_l0_t draymanref31_Fit_l0_s draymanref31_Fit_l0_h [.q (.int .i64 (.int .i64 (.int .i64 (.int .i64 (.int .i64 (.int .i64 (.nil))))))) l2, .i i3]) k = draymanref31_Fit_l0_run draymanref31_One draymanref31_ahead (fun y1 => k .ret (encSt [.dead, .dead, .bool, .dead, .dead, .dead, .dead, .dead, .dead, .dead, .dead, .dead, .dead, .dead, .dead, .dead, .dead, .dead, .dead, .dead, .dead, .dead, .dead, .dead, .dead, .dead, .dead, .dead, .dead, .dead, .dead, .dead, .dead] [] [] [.b y1])) (k (.exit 0) (encSt [.dead, .dead, .dead, .dead, .dead, .dead, .dead, .dead, .dead, .dead, .dead, .dead, .dead, .dead, .dead, .dead, .dead, .dead, .dead, .dead, .dead, .dead, .dead, .dead, .dead, .dead, .dead, .dead, .dead, .dead, .dead, .dead, .dead] [] [] [])) n l2 i3 := by
  intro n
  induction n with
  | zero => intros; kernel_rfl
  | succ n ih =>
    intro l2 i3 k
    have e : (fun (l2 : Seq Z1) (i3 : Int) => draymanref31_Fit_l0_ev draymanref31_One draymanref31_ahead n (encSt draymanref31_Fit_l0_t draymanref31_Fit_l0_s draymanref31_Fit_l0_h [.q (.int .i64 (.int .i64 (.int .i64 (.int .i64 (.int .i64 (.int .i64 (.nil))))))) l2, .i i3]) k) = (fun (l2 : Seq Z1) (i3 : Int) => draymanref31_Fit_l0_run draymanref31_One draymanref31_ahead (fun y1 => k .ret (encSt [.dead, .dead, .bool, .dead, .dead, .dead, .dead, .dead, .dead, .dead, .dead, .dead, .dead, .dead, .dead, .dead, .dead, .dead, .dead, .dead, .dead, .dead, .dead, .dead, .dead, .dead, .dead, .dead, .dead, .dead, .dead, .dead, .dead] [] [] [.b y1])) (k (.exit 0) (encSt [.dead, .dead, .dead, .dead, .dead, .dead, .dead, .dead, .dead, .dead, .dead, .dead, .dead, .dead, .dead, .dead, .dead, .dead, .dead, .dead, .dead, .dead, .dead, .dead, .dead, .dead, .dead, .dead, .dead, .dead, .dead, .dead, .dead] [] [] [])) n l2 i3) := by
      funext l2 i3
      exact ih l2 i3 k
    have h1 : draymanref31_Fit_l0_ev draymanref31_One draymanref31_ahead (n + 1) (encSt draymanref31_Fit_l0_t draymanref31_Fit_l0_s draymanref31_Fit_l0_h [.q (.int .i64 (.int .i64 (.int .i64 (.int .i64 (.int .i64 (.int .i64 (.nil))))))) l2, .i i3]) k = draymanref31_Fit_l0_step draymanref31_One draymanref31_ahead (fun y1 => k .ret (encSt [.dead, .dead, .bool, .dead, .dead, .dead, .dead, .dead, .dead, .dead, .dead, .dead, .dead, .dead, .dead, .dead, .dead, .dead, .dead, .dead, .dead, .dead, .dead, .dead, .dead, .dead, .dead, .dead, .dead, .dead, .dead, .dead, .dead] [] [] [.b y1])) (k (.exit 0) (encSt [.dead, .dead, .dead, .dead, .dead, .dead, .dead, .dead, .dead, .dead, .dead, .dead, .dead, .dead, .dead, .dead, .dead, .dead, .dead, .dead, .dead, .dead, .dead, .dead, .dead, .dead, .dead, .dead, .dead, .dead, .dead, .dead, .dead] [] [] [])) (fun (l2 : Seq Z1) (i3 : Int) => draymanref31_Fit_l0_ev draymanref31_One draymanref31_ahead n (encSt draymanref31_Fit_l0_t draymanref31_Fit_l0_s draymanref31_Fit_l0_h [.q (.int .i64 (.int .i64 (.int .i64 (.int .i64 (.int .i64 (.int .i64 (.nil))))))) l2, .i i3]) k) l2 i3 := by kernel_rfl
    have h2 := congrArg (fun r => draymanref31_Fit_l0_step draymanref31_One draymanref31_ahead (fun y1 => k .ret (encSt [.dead, .dead, .bool, .dead, .dead, .dead, .dead, .dead, .dead, .dead, .dead, .dead, .dead, .dead, .dead, .dead, .dead, .dead, .dead, .dead, .dead, .dead, .dead, .dead, .dead, .dead, .dead, .dead, .dead, .dead, .dead, .dead, .dead] [] [] [.b y1])) (k (.exit 0) (encSt [.dead, .dead, .dead, .dead, .dead, .dead, .dead, .dead, .dead, .dead, .dead, .dead, .dead, .dead, .dead, .dead, .dead, .dead, .dead, .dead, .dead, .dead, .dead, .dead, .dead, .dead, .dead, .dead, .dead, .dead, .dead, .dead, .dead] [] [] [])) r l2 i3) e
    have h3 : draymanref31_Fit_l0_step draymanref31_One draymanref31_ahead (fun y1 => k .ret (encSt [.dead, .dead, .bool, .dead, .dead, .dead, .dead, .dead, .dead, .dead, .dead, .dead, .dead, .dead, .dead, .dead, .dead, .dead, .dead, .dead, .dead, .dead, .dead, .dead, .dead, .dead, .dead, .dead, .dead, .dead, .dead, .dead, .dead] [] [] [.b y1])) (k (.exit 0) (encSt [.dead, .dead, .dead, .dead, .dead, .dead, .dead, .dead, .dead, .dead, .dead, .dead, .dead, .dead, .dead, .dead, .dead, .dead, .dead, .dead, .dead, .dead, .dead, .dead, .dead, .dead, .dead, .dead, .dead, .dead, .dead, .dead, .dead] [] [] [])) (fun (l2 : Seq Z1) (i3 : Int) => draymanref31_Fit_l0_run draymanref31_One draymanref31_ahead (fun y1 => k .ret (encSt [.dead, .dead, .bool, .dead, .dead, .dead, .dead, .dead, .dead, .dead, .dead, .dead, .dead, .dead, .dead, .dead, .dead, .dead, .dead, .dead, .dead, .dead, .dead, .dead, .dead, .dead, .dead, .dead, .dead, .dead, .dead, .dead, .dead] [] [] [.b y1])) (k (.exit 0) (encSt [.dead, .dead, .dead, .dead, .dead, .dead, .dead, .dead, .dead, .dead, .dead, .dead, .dead, .dead, .dead, .dead, .dead, .dead, .dead, .dead, .dead, .dead, .dead, .dead, .dead, .dead, .dead, .dead, .dead, .dead, .dead, .dead, .dead] [] [] [])) n l2 i3) l2 i3 = draymanref31_Fit_l0_run draymanref31_One draymanref31_ahead (fun y1 => k .ret (encSt [.dead, .dead, .bool, .dead, .dead, .dead, .dead, .dead, .dead, .dead, .dead, .dead, .dead, .dead, .dead, .dead, .dead, .dead, .dead, .dead, .dead, .dead, .dead, .dead, .dead, .dead, .dead, .dead, .dead, .dead, .dead, .dead, .dead] [] [] [.b y1])) (k (.exit 0) (encSt [.dead, .dead, .dead, .dead, .dead, .dead, .dead, .dead, .dead, .dead, .dead, .dead, .dead, .dead, .dead, .dead, .dead, .dead, .dead, .dead, .dead, .dead, .dead, .dead, .dead, .dead, .dead, .dead, .dead, .dead, .dead, .dead, .dead] [] [] [])) (n + 1) l2 i3 := by kernel_rfl
    exact h1.trans (h2.trans h3)

theorem draymanref31_Fit_l0_ok {α : Type} (draymanref31_One : draymanref31_One_T α) (draymanref31_ahead : draymanref31_ahead_T α) : (draymanref31_Fit_l0_spec draymanref31_One draymanref31_ahead : LoopSpec α).ok Go.Proofs.Try.prog (envOf (draymanref31_Fit_C draymanref31_One draymanref31_ahead) draymanref31_Fit_q draymanref31_Fit_inl 1000 draymanref31_Fit_ann false (draymanref31_Fit_loops draymanref31_One draymanref31_ahead) (fun _ => none)) := by
  intro ds k
  have h1 : draymanref31_Fit_l0_ev draymanref31_One draymanref31_ahead 1000 (encSt draymanref31_Fit_l0_t draymanref31_Fit_l0_s draymanref31_Fit_l0_h ds) k = draymanref31_Fit_l0_ev draymanref31_One draymanref31_ahead 1000 (encSt draymanref31_Fit_l0_t draymanref31_Fit_l0_s draymanref31_Fit_l0_h [.q (.int .i64 (.int .i64 (.int .i64 (.int .i64 (.int .i64 (.int .i64 (.nil))))))) (hdQ (.int .i64 (.int .i64 (.int .i64 (.int .i64 (.int .i64 (.int .i64 (.nil))))))) ds), .i (hdI ds.tail)]) k := by kernel_rfl
  have h2 := draymanref31_Fit_l0_eq draymanref31_One draymanref31_ahead 1000 (hdQ (.int .i64 (.int .i64 (.int .i64 (.int .i64 (.int .i64 (.int .i64 (.nil))))))) ds) (hdI ds.tail) k
  exact h1.trans h2

theorem draymanref31_Fit_ev {α : Type} (draymanref31_One : draymanref31_One_T α) (draymanref31_ahead : draymanref31_ahead_T α) : EvOk (α := α) Go.Proofs.Try.prog (envOf (draymanref31_Fit_C draymanref31_One draymanref31_ahead) draymanref31_Fit_q draymanref31_Fit_inl 1000 draymanref31_Fit_ann false (draymanref31_Fit_loops draymanref31_One draymanref31_ahead) (fun _ => none)) 6 (draymanref31_Fit_sp (draymanref31_Fit_g draymanref31_One draymanref31_ahead)) := by intro ds k; kernel_rfl

theorem draymanref31_Fit_ok {α : Type} : (draymanref31_Fit_spec : FunSpec α).ok Go.Proofs.Try.prog :=
  FunSpec.ok_of (sp := draymanref31_Fit_spec) (C := draymanref31_Fit_C draymanref31_One draymanref31_ahead) (q := draymanref31_Fit_q) (inl := draymanref31_Fit_inl) (N := 1000) (ann := draymanref31_Fit_ann) (fr := false) (D := 6) (l := (draymanref31_Fit_loops draymanref31_One draymanref31_ahead)) (hk := (fun _ => none)) (okCons draymanref31_One_ok (okCons draymanref31_ahead_ok okNil)) (lokCons (draymanref31_Fit_l0_ok draymanref31_One draymanref31_ahead) lokNil) noHooks (draymanref31_Fit_ev draymanref31_One draymanref31_ahead)

end
end Go.Rv.Try
