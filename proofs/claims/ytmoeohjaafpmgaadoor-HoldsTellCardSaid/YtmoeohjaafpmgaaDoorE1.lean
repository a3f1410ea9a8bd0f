/- What the functions of the program compute, each with the proof that its code computes it. Written by a program (rvp2.py). -/
import Derived.Test.YtmoeohjaafpmgaaDoorProg
import Derived.Test.YtmoeohjaafpmgaaDoorRvP
import Derived.Test.YtmoeohjaafpmgaaDoorFx
import Derived.Test.YtmoeohjaafpmgaaDoorUtf8
import Derived.Test.YtmoeohjaafpmgaaDoorE0

set_option linter.unusedVariables false
set_option maxRecDepth 100000
set_option maxHeartbeats 4000000
namespace Go.Rv.Tryd
open Go Go.Rv Go.RowKit
noncomputable section

-- slices.Concat[[]drayman/api.Hold,drayman/api.Hold]

abbrev slices_Concat_api_Hold_api_Hold_T (α : Type) : Type := (Seq ((Seq (Int × (Seq (ByteArray × Int × Unit)) × Int × Unit)) × Unit)) → ((Seq (Int × (Seq (ByteArray × Int × Unit)) × Int × Unit)) → Option α) → Option α

noncomputable def slices_Concat_api_Hold_api_Hold_l0_step {α : Type} (k0 : (Seq ((Seq (Int × (Seq (ByteArray × Int × Unit)) × Int × Unit)) × Unit)) → (Int) → (Seq (Int × (Seq (ByteArray × Int × Unit)) × Int × Unit)) → Option α) (rec : (Seq ((Seq (Int × (Seq (ByteArray × Int × Unit)) × Int × Unit)) × Unit)) → (Int) → (Seq ((Seq (Int × (Seq (ByteArray × Int × Unit)) × Int × Unit)) × Unit)) → (Int) → (Int) → (Seq (Int × (Seq (ByteArray × Int × Unit)) × Int × Unit)) → Option α) (slices2 : Seq ((Seq (Int × (Seq (ByteArray × Int × Unit)) × Int × Unit)) × Unit)) (size3 : Int) (x4 : Seq ((Seq (Int × (Seq (ByteArray × Int × Unit)) × Int × Unit)) × Unit)) (x5 : Int) (x6 : Int) (q7 : Seq (Int × (Seq (ByteArray × Int × Unit)) × Int × Unit)) : Option α :=
  (cond (decide (x6 < x5))
    (cond ((decide ((0 : Int) ≤ x6)) && (decide (x6 < (x4.n : Int))))
      (cond (decide ((IntKind.i64.wrap (size3 + (((x4.g x6.toNat).1.n : Nat) : Int))) < 0))
        none
        (rec slices2 (IntKind.i64.wrap (size3 + (((x4.g x6.toNat).1.n : Nat) : Int))) x4 x5 (IntKind.i64.wrap (x6 + 1)) q7))
      none)
    (k0 slices2 size3 q7))

noncomputable def slices_Concat_api_Hold_api_Hold_l0_run {α : Type} (k0 : (Seq ((Seq (Int × (Seq (ByteArray × Int × Unit)) × Int × Unit)) × Unit)) → (Int) → (Seq (Int × (Seq (ByteArray × Int × Unit)) × Int × Unit)) → Option α) : Nat → (Seq ((Seq (Int × (Seq (ByteArray × Int × Unit)) × Int × Unit)) × Unit)) → (Int) → (Seq ((Seq (Int × (Seq (ByteArray × Int × Unit)) × Int × Unit)) × Unit)) → (Int) → (Int) → (Seq (Int × (Seq (ByteArray × Int × Unit)) × Int × Unit)) → Option α
  | 0, _, _, _, _, _, _ => none
  | n + 1, slices2, size3, x4, x5, x6, q7 => slices_Concat_api_Hold_api_Hold_l0_step k0 (fun slices2 size3 x4 x5 x6 q7 => slices_Concat_api_Hold_api_Hold_l0_run k0 n slices2 size3 x4 x5 x6 q7) slices2 size3 x4 x5 x6 q7

noncomputable def slices_Concat_api_Hold_api_Hold_l1_step {α : Type} (k2 : (Seq (Int × (Seq (ByteArray × Int × Unit)) × Int × Unit)) → (Seq (Int × (Seq (ByteArray × Int × Unit)) × Int × Unit)) → (Seq (Int × (Seq (ByteArray × Int × Unit)) × Int × Unit)) → Option α) (rec : (Seq ((Seq (Int × (Seq (ByteArray × Int × Unit)) × Int × Unit)) × Unit)) → (Int) → (Int) → (Seq (Int × (Seq (ByteArray × Int × Unit)) × Int × Unit)) → (Seq (Int × (Seq (ByteArray × Int × Unit)) × Int × Unit)) → (Seq (Int × (Seq (ByteArray × Int × Unit)) × Int × Unit)) → Option α) (x11 : Seq ((Seq (Int × (Seq (ByteArray × Int × Unit)) × Int × Unit)) × Unit)) (x12 : Int) (x13 : Int) (q14 : Seq (Int × (Seq (ByteArray × Int × Unit)) × Int × Unit)) (q15 : Seq (Int × (Seq (ByteArray × Int × Unit)) × Int × Unit)) (q16 : Seq (Int × (Seq (ByteArray × Int × Unit)) × Int × Unit)) : Option α :=
  (cond (decide (x13 < x12))
    (cond ((decide ((0 : Int) ≤ x13)) && (decide (x13 < (x11.n : Int))))
      (cond (decide (((q16.n + (x11.g x13.toNat).1.n)) * 40 ≤ 140737488355328))
        (rec x11 x12 (IntKind.i64.wrap (x13 + 1)) q14 q15 (⟨(q16.nl && (Nat.beq (x11.g x13.toNat).1.n 0)), (q16.n + (x11.g x13.toNat).1.n), (tApp q16.n q16.g (x11.g x13.toNat).1.g)⟩ : Seq (Int × (Seq (ByteArray × Int × Unit)) × Int × Unit)))
        none)
      none)
    (k2 q14 q15 q16))

noncomputable def slices_Concat_api_Hold_api_Hold_l1_run {α : Type} (k2 : (Seq (Int × (Seq (ByteArray × Int × Unit)) × Int × Unit)) → (Seq (Int × (Seq (ByteArray × Int × Unit)) × Int × Unit)) → (Seq (Int × (Seq (ByteArray × Int × Unit)) × Int × Unit)) → Option α) : Nat → (Seq ((Seq (Int × (Seq (ByteArray × Int × Unit)) × Int × Unit)) × Unit)) → (Int) → (Int) → (Seq (Int × (Seq (ByteArray × Int × Unit)) × Int × Unit)) → (Seq (Int × (Seq (ByteArray × Int × Unit)) × Int × Unit)) → (Seq (Int × (Seq (ByteArray × Int × Unit)) × Int × Unit)) → Option α
  | 0, _, _, _, _, _, _ => none
  | n + 1, x11, x12, x13, q14, q15, q16 => slices_Concat_api_Hold_api_Hold_l1_step k2 (fun x11 x12 x13 q14 q15 q16 => slices_Concat_api_Hold_api_Hold_l1_run k2 n x11 x12 x13 q14 q15 q16) x11 x12 x13 q14 q15 q16

noncomputable def slices_Concat_api_Hold_api_Hold {α : Type} (slices1 : Seq ((Seq (Int × (Seq (ByteArray × Int × Unit)) × Int × Unit)) × Unit)) (k : (Seq (Int × (Seq (ByteArray × Int × Unit)) × Int × Unit)) → Option α) : Option α :=
  (slices_Concat_api_Hold_api_Hold_l0_run
    (fun x8 x9 q10 =>
      (cond (decide (x9 < 0))
        none
        (cond (decide ((IntKind.i64.wrap (x9 - 0)) > 0))
          (cond (((decide ((0 : Int) ≤ (IntKind.i64.wrap (x9 - 0)))) && (decide ((IntKind.i64.wrap (x9 - 0)) * 40 ≤ 140737488355328))) && (decide (((0 + (IntKind.i64.wrap (x9 - 0)).toNat)) * 40 ≤ 140737488355328)))
            (cond (decide ((0 : Int) ≤ (((0 + (IntKind.i64.wrap (x9 - 0)).toNat) : Nat) : Int)))
              (slices_Concat_api_Hold_api_Hold_l1_run
                (fun q17 q18 q19 =>
                  (k q19))
                1000 x8 (x8.n : Int) 0 q10 (⟨true, 0, (fun _ => (0, (⟨true, 0, fun _ => (ByteArray.empty, 0, ())⟩ : Seq (ByteArray × Int × Unit)), 0, ()))⟩ : Seq (Int × (Seq (ByteArray × Int × Unit)) × Int × Unit)) (⟨(Nat.beq (IntKind.i64.wrap (x9 - 0)).toNat 0), 0, (tApp 0 (fun _ => (0, (⟨true, 0, fun _ => (ByteArray.empty, 0, ())⟩ : Seq (ByteArray × Int × Unit)), 0, ())) (fun _ => (0, (⟨true, 0, fun _ => (ByteArray.empty, 0, ())⟩ : Seq (ByteArray × Int × Unit)), 0, ())))⟩ : Seq (Int × (Seq (ByteArray × Int × Unit)) × Int × Unit)))
              none)
            none)
          (slices_Concat_api_Hold_api_Hold_l1_run
            (fun q20 q21 q22 =>
              (k q22))
            1000 x8 (x8.n : Int) 0 q10 (⟨true, 0, (fun _ => (0, (⟨true, 0, fun _ => (ByteArray.empty, 0, ())⟩ : Seq (ByteArray × Int × Unit)), 0, ()))⟩ : Seq (Int × (Seq (ByteArray × Int × Unit)) × Int × Unit)) (⟨true, 0, (fun _ => (0, (⟨true, 0, fun _ => (ByteArray.empty, 0, ())⟩ : Seq (ByteArray × Int × Unit)), 0, ()))⟩ : Seq (Int × (Seq (ByteArray × Int × Unit)) × Int × Unit))))))
    1000 slices1 0 slices1 (slices1.n : Int) 0 (⟨true, 0, (fun _ => (0, (⟨true, 0, fun _ => (ByteArray.empty, 0, ())⟩ : Seq (ByteArray × Int × Unit)), 0, ()))⟩ : Seq (Int × (Seq (ByteArray × Int × Unit)) × Int × Unit)))

noncomputable def slices_Concat_api_Hold_api_Hold_sp {α : Type} (slices_Concat_api_Hold_api_Hold : slices_Concat_api_Hold_api_Hold_T α) : FunSpec α := ⟨65, [.sl (.sl (.int .i64 (.sl (.str (.int .i64 (.nil))) (.int .i64 (.nil)))) (.nil))], [], fun ds k => slices_Concat_api_Hold_api_Hold (hdQ (.sl (.int .i64 (.sl (.str (.int .i64 (.nil))) (.int .i64 (.nil)))) (.nil)) ds) (fun q1 => k (enc dep (.own 0) []).1 (encBs [.row true (.int .i64 (.sl (.str (.int .i64 (.nil))) (.int .i64 (.nil))))] [.q (.int .i64 (.sl (.str (.int .i64 (.nil))) (.int .i64 (.nil)))) q1]).1)⟩

noncomputable def slices_Concat_api_Hold_api_Hold_spec {α : Type} : FunSpec α := slices_Concat_api_Hold_api_Hold_sp slices_Concat_api_Hold_api_Hold

noncomputable def slices_Concat_api_Hold_api_Hold_C {α : Type} : List (FunSpec α) := []

noncomputable def slices_Concat_api_Hold_api_Hold_q : FuncId → Bool := fun f => false

noncomputable def slices_Concat_api_Hold_api_Hold_inl : FuncId → Bool := fun f => Nat.beq f 101

noncomputable def slices_Concat_api_Hold_api_Hold_ann : FuncId → AnnT := fun f p => if f = 65 then (if p = [true, false, true, true, true, true] then ⟨[6, 25, 26, 27], [0, 1, 2], [6], [2], 0, [6], [], none⟩ else if p = [true, false, true, true] then ⟨[0, 3, 9, 10, 11], [0], [0, 3], [2], 0, [], [], none⟩ else ⟨[], [], [], [], 0, [], [], none⟩) else ⟨[], [], [], [], 0, [], [], none⟩

noncomputable def slices_Concat_api_Hold_api_Hold_l0_t : List Sh := [.sl (.sl (.int .i64 (.sl (.str (.int .i64 (.nil))) (.int .i64 (.nil)))) (.nil)), .dead, .dead, .int .i64, .dead, .dead, .dead, .dead, .dead, .sl (.sl (.int .i64 (.sl (.str (.int .i64 (.nil))) (.int .i64 (.nil)))) (.nil)), .int .i64, .int .i64, .dead, .dead, .dead, .dead, .dead, .dead, .dead, .dead, .dead, .dead, .dead, .dead, .dead, .dead, .dead, .dead, .dead, .dead, .dead, .dead, .dead, .dead, .dead, .dead]
noncomputable def slices_Concat_api_Hold_api_Hold_l0_s : List (List Sh) := []
noncomputable def slices_Concat_api_Hold_api_Hold_l0_h : List BSh := [.row true (.int .i64 (.sl (.str (.int .i64 (.nil))) (.int .i64 (.nil))))]

noncomputable def slices_Concat_api_Hold_api_Hold_l0_spec {α : Type} : LoopSpec α := ⟨6, 65, [true, false, true, true], slices_Concat_api_Hold_api_Hold_l0_t, slices_Concat_api_Hold_api_Hold_l0_s, slices_Concat_api_Hold_api_Hold_l0_h, fun ds k => slices_Concat_api_Hold_api_Hold_l0_run (fun y1 y2 y3 => k (.exit 0) (encSt [.sl (.sl (.int .i64 (.sl (.str (.int .i64 (.nil))) (.int .i64 (.nil)))) (.nil)), .dead, .dead, .int .i64, .dead, .dead, .dead, .dead, .dead, .dead, .dead, .dead, .dead, .dead, .dead, .dead, .dead, .dead, .dead, .dead, .dead, .dead, .dead, .dead, .dead, .dead, .dead, .dead, .dead, .dead, .dead, .dead, .dead, .dead, .dead, .dead] [] [.row true (.int .i64 (.sl (.str (.int .i64 (.nil))) (.int .i64 (.nil))))] [.q (.sl (.int .i64 (.sl (.str (.int .i64 (.nil))) (.int .i64 (.nil)))) (.nil)) y1, .i y2, .q (.int .i64 (.sl (.str (.int .i64 (.nil))) (.int .i64 (.nil)))) y3])) 1000 (hdQ (.sl (.int .i64 (.sl (.str (.int .i64 (.nil))) (.int .i64 (.nil)))) (.nil)) ds) (hdI ds.tail) (hdQ (.sl (.int .i64 (.sl (.str (.int .i64 (.nil))) (.int .i64 (.nil)))) (.nil)) ds.tail.tail) (hdI ds.tail.tail.tail) (hdI ds.tail.tail.tail.tail) (hdQ (.int .i64 (.sl (.str (.int .i64 (.nil))) (.int .i64 (.nil)))) ds.tail.tail.tail.tail.tail)⟩

noncomputable def slices_Concat_api_Hold_api_Hold_l1_t : List Sh := [.dead, .dead, .dead, .dead, .dead, .dead, .own 2, .dead, .dead, .dead, .dead, .dead, .dead, .dead, .dead, .dead, .dead, .dead, .dead, .dead, .dead, .dead, .dead, .dead, .dead, .sl (.sl (.int .i64 (.sl (.str (.int .i64 (.nil))) (.int .i64 (.nil)))) (.nil)), .int .i64, .int .i64, .dead, .dead, .dead, .dead, .dead, .dead, .dead, .dead]
noncomputable def slices_Concat_api_Hold_api_Hold_l1_s : List (List Sh) := []
noncomputable def slices_Concat_api_Hold_api_Hold_l1_h : List BSh := [.row true (.int .i64 (.sl (.str (.int .i64 (.nil))) (.int .i64 (.nil)))), .row true (.int .i64 (.sl (.str (.int .i64 (.nil))) (.int .i64 (.nil)))), .row true (.int .i64 (.sl (.str (.int .i64 (.nil))) (.int .i64 (.nil))))]

noncomputable def slices_Concat_api_Hold_api_Hold_l1_spec {α : Type} : LoopSpec α := ⟨6, 65, [true, false, true, true, true, true], slices_Concat_api_Hold_api_Hold_l1_t, slices_Concat_api_Hold_api_Hold_l1_s, slices_Concat_api_Hold_api_Hold_l1_h, fun ds k => slices_Concat_api_Hold_api_Hold_l1_run (fun y1 y2 y3 => k (.exit 2) (encSt [.dead, .dead, .dead, .dead, .dead, .dead, .own 2, .dead, .dead, .dead, .dead, .dead, .dead, .dead, .dead, .dead, .dead, .dead, .dead, .dead, .dead, .dead, .dead, .dead, .dead, .dead, .dead, .dead, .dead, .dead, .dead, .dead, .dead, .dead, .dead, .dead] [] [.row true (.int .i64 (.sl (.str (.int .i64 (.nil))) (.int .i64 (.nil)))), .row true (.int .i64 (.sl (.str (.int .i64 (.nil))) (.int .i64 (.nil)))), .row true (.int .i64 (.sl (.str (.int .i64 (.nil))) (.int .i64 (.nil))))] [.q (.int .i64 (.sl (.str (.int .i64 (.nil))) (.int .i64 (.nil)))) y1, .q (.int .i64 (.sl (.str (.int .i64 (.nil))) (.int .i64 (.nil)))) y2, .q (.int .i64 (.sl (.str (.int .i64 (.nil))) (.int .i64 (.nil)))) y3])) 1000 (hdQ (.sl (.int .i64 (.sl (.str (.int .i64 (.nil))) (.int .i64 (.nil)))) (.nil)) ds) (hdI ds.tail) (hdI ds.tail.tail) (hdQ (.int .i64 (.sl (.str (.int .i64 (.nil))) (.int .i64 (.nil)))) ds.tail.tail.tail) (hdQ (.int .i64 (.sl (.str (.int .i64 (.nil))) (.int .i64 (.nil)))) ds.tail.tail.tail.tail) (hdQ (.int .i64 (.sl (.str (.int .i64 (.nil))) (.int .i64 (.nil)))) ds.tail.tail.tail.tail.tail)⟩

noncomputable def slices_Concat_api_Hold_api_Hold_loops {α : Type} : List (LoopSpec α) := [slices_Concat_api_Hold_api_Hold_l0_spec, slices_Concat_api_Hold_api_Hold_l1_spec]

noncomputable def slices_Concat_api_Hold_api_Hold_l0_ev {α : Type} (n : Nat) (st : St) (k : X → St → Option α) : Option α := loopN (evCode Go.Proofs.Tryd.prog (callD Go.Proofs.Tryd.prog (envOf (slices_Concat_api_Hold_api_Hold_C) slices_Concat_api_Hold_api_Hold_q slices_Concat_api_Hold_api_Hold_inl 1000 slices_Concat_api_Hold_api_Hold_ann false (slices_Concat_api_Hold_api_Hold_loops) (fun _ => none)) 6) (((envOf (slices_Concat_api_Hold_api_Hold_C) slices_Concat_api_Hold_api_Hold_q slices_Concat_api_Hold_api_Hold_inl 1000 slices_Concat_api_Hold_api_Hold_ann false (slices_Concat_api_Hold_api_Hold_loops) (fun _ => none)) : Env α).L 6 65) 1000 (slices_Concat_api_Hold_api_Hold_ann 65) (false :: [true, false, true, true]) (loopC Go.Proofs.Tryd.prog 65 [true, false, true, true])) ((slices_Concat_api_Hold_api_Hold_ann 65 [true, false, true, true]).head 1) ((slices_Concat_api_Hold_api_Hold_ann 65 [true, false, true, true]).leave 1) n st k

theorem slices_Concat_api_Hold_api_Hold_l0_eq {α : Type} : ∀ (n : Nat) (slices2 : Seq ((Seq (Int × (Seq (ByteArray × Int × Unit)) × Int × Unit)) × Unit)) (size3 : Int) (x4 : Seq ((Seq (Int × (Seq (ByteArray × Int × Unit)) × Int × Unit)) × Unit)) (x5 : Int) (x6 : Int) (q7 : Seq (Int × (Seq (ByteArray × Int × Unit)) × Int × Unit)) (k : X → St → Option α), slices_Concat_api_Hold_api_Hold_l0_ev n (encSt slices_Concat_api_Hold_api_Hold_l0_t slices_Concat_api_Hold_api_Hold_l0_s slices_Concat_api_Hold_api_Hold_l0_h [.q (.sl (.int .i64 (.sl (.str (.int .i64 (.nil))) (.int .i64 (.nil)))) (.nil)) slices2, .i size3, .q (.sl (.int .i64 (.sl (.str (.int .i64 (.nil))) (.int .i64 (.nil)))) (.nil)) x4, .i x5, .i x6, .q (.int .i64 (.sl (.str (.int .i64 (.nil))) (.int .i64 (.nil)))) q7]) k = slices_Concat_api_Hold_api_Hold_l0_run (fun y1 y2 y3 => k (.exit 0) (encSt [.sl (.sl (.int .i64 (.sl (.str (.int .i64 (.nil))) (.int .i64 (.nil)))) (.nil)), .dead, .dead, .int .i64, .dead, .dead, .dead, .dead, .dead, .dead, .dead, .dead, .dead, .dead, .dead, .dead, .dead, .dead, .dead, .dead, .dead, .dead, .dead, .dead, .dead, .dead, .dead, .dead, .dead, .dead, .dead, .dead, .dead, .dead, .dead, .dead] [] [.row true (.int .i64 (.sl (.str (.int .i64 (.nil))) (.int .i64 (.nil))))] [.q (.sl (.int .i64 (.sl (.str (.int .i64 (.nil))) (.int .i64 (.nil)))) (.nil)) y1, .i y2, .q (.int .i64 (.sl (.str (.int .i64 (.nil))) (.int .i64 (.nil)))) y3])) n slices2 size3 x4 x5 x6 q7 := by
  intro n
  induction n with
  | zero => intros; kernel_rfl
  | succ n ih =>
    intro slices2 size3 x4 x5 x6 q7 k
    have e : (fun (slices2 : Seq ((Seq (Int × (Seq (ByteArray × Int × Unit)) × Int × Unit)) × Unit)) (size3 : Int) (x4 : Seq ((Seq (Int × (Seq (ByteArray × Int × Unit)) × Int × Unit)) × Unit)) (x5 : Int) (x6 : Int) (q7 : Seq (Int × (Seq (ByteArray × Int × Unit)) × Int × Unit)) => slices_Concat_api_Hold_api_Hold_l0_ev n (encSt slices_Concat_api_Hold_api_Hold_l0_t slices_Concat_api_Hold_api_Hold_l0_s slices_Concat_api_Hold_api_Hold_l0_h [.q (.sl (.int .i64 (.sl (.str (.int .i64 (.nil))) (.int .i64 (.nil)))) (.nil)) slices2, .i size3, .q (.sl (.int .i64 (.sl (.str (.int .i64 (.nil))) (.int .i64 (.nil)))) (.nil)) x4, .i x5, .i x6, .q (.int .i64 (.sl (.str (.int .i64 (.nil))) (.int .i64 (.nil)))) q7]) k) = (fun (slices2 : Seq ((Seq (Int × (Seq (ByteArray × Int × Unit)) × Int × Unit)) × Unit)) (size3 : Int) (x4 : Seq ((Seq (Int × (Seq (ByteArray × Int × Unit)) × Int × Unit)) × Unit)) (x5 : Int) (x6 : Int) (q7 : Seq (Int × (Seq (ByteArray × Int × Unit)) × Int × Unit)) => slices_Concat_api_Hold_api_Hold_l0_run (fun y1 y2 y3 => k (.exit 0) (encSt [.sl (.sl (.int .i64 (.sl (.str (.int .i64 (.nil))) (.int .i64 (.nil)))) (.nil)), .dead, .dead, .int .i64, .dead, .dead, .dead, .dead, .dead, .dead, .dead, .dead, .dead, .dead, .dead, .dead, .dead, .dead, .dead, .dead, .dead, .dead, .dead, .dead, .dead, .dead, .dead, .dead, .dead, .dead, .dead, .dead, .dead, .dead, .dead, .dead] [] [.row true (.int .i64 (.sl (.str (.int .i64 (.nil))) (.int .i64 (.nil))))] [.q (.sl (.int .i64 (.sl (.str (.int .i64 (.nil))) (.int .i64 (.nil)))) (.nil)) y1, .i y2, .q (.int .i64 (.sl (.str (.int .i64 (.nil))) (.int .i64 (.nil)))) y3])) n slices2 size3 x4 x5 x6 q7) := by
      funext slices2 size3 x4 x5 x6 q7
      exact ih slices2 size3 x4 x5 x6 q7 k
    have h1 : slices_Concat_api_Hold_api_Hold_l0_ev (n + 1) (encSt slices_Concat_api_Hold_api_Hold_l0_t slices_Concat_api_Hold_api_Hold_l0_s slices_Concat_api_Hold_api_Hold_l0_h [.q (.sl (.int .i64 (.sl (.str (.int .i64 (.nil))) (.int .i64 (.nil)))) (.nil)) slices2, .i size3, .q (.sl (.int .i64 (.sl (.str (.int .i64 (.nil))) (.int .i64 (.nil)))) (.nil)) x4, .i x5, .i x6, .q (.int .i64 (.sl (.str (.int .i64 (.nil))) (.int .i64 (.nil)))) q7]) k = slices_Concat_api_Hold_api_Hold_l0_step (fun y1 y2 y3 => k (.exit 0) (encSt [.sl (.sl (.int .i64 (.sl (.str (.int .i64 (.nil))) (.int .i64 (.nil)))) (.nil)), .dead, .dead, .int .i64, .dead, .dead, .dead, .dead, .dead, .dead, .dead, .dead, .dead, .dead, .dead, .dead, .dead, .dead, .dead, .dead, .dead, .dead, .dead, .dead, .dead, .dead, .dead, .dead, .dead, .dead, .dead, .dead, .dead, .dead, .dead, .dead] [] [.row true (.int .i64 (.sl (.str (.int .i64 (.nil))) (.int .i64 (.nil))))] [.q (.sl (.int .i64 (.sl (.str (.int .i64 (.nil))) (.int .i64 (.nil)))) (.nil)) y1, .i y2, .q (.int .i64 (.sl (.str (.int .i64 (.nil))) (.int .i64 (.nil)))) y3])) (fun (slices2 : Seq ((Seq (Int × (Seq (ByteArray × Int × Unit)) × Int × Unit)) × Unit)) (size3 : Int) (x4 : Seq ((Seq (Int × (Seq (ByteArray × Int × Unit)) × Int × Unit)) × Unit)) (x5 : Int) (x6 : Int) (q7 : Seq (Int × (Seq (ByteArray × Int × Unit)) × Int × Unit)) => slices_Concat_api_Hold_api_Hold_l0_ev n (encSt slices_Concat_api_Hold_api_Hold_l0_t slices_Concat_api_Hold_api_Hold_l0_s slices_Concat_api_Hold_api_Hold_l0_h [.q (.sl (.int .i64 (.sl (.str (.int .i64 (.nil))) (.int .i64 (.nil)))) (.nil)) slices2, .i size3, .q (.sl (.int .i64 (.sl (.str (.int .i64 (.nil))) (.int .i64 (.nil)))) (.nil)) x4, .i x5, .i x6, .q (.int .i64 (.sl (.str (.int .i64 (.nil))) (.int .i64 (.nil)))) q7]) k) slices2 size3 x4 x5 x6 q7 := by kernel_rfl
    have h2 := congrArg (fun r => slices_Concat_api_Hold_api_Hold_l0_step (fun y1 y2 y3 => k (.exit 0) (encSt [.sl (.sl (.int .i64 (.sl (.str (.int .i64 (.nil))) (.int .i64 (.nil)))) (.nil)), .dead, .dead, .int .i64, .dead, .dead, .dead, .dead, .dead, .dead, .dead, .dead, .dead, .dead, .dead, .dead, .dead, .dead, .dead, .dead, .dead, .dead, .dead, .dead, .dead, .dead, .dead, .dead, .dead, .dead, .dead, .dead, .dead, .dead, .dead, .dead] [] [.row true (.int .i64 (.sl (.str (.int .i64 (.nil))) (.int .i64 (.nil))))] [.q (.sl (.int .i64 (.sl (.str (.int .i64 (.nil))) (.int .i64 (.nil)))) (.nil)) y1, .i y2, .q (.int .i64 (.sl (.str (.int .i64 (.nil))) (.int .i64 (.nil)))) y3])) r slices2 size3 x4 x5 x6 q7) e
    have h3 : slices_Concat_api_Hold_api_Hold_l0_step (fun y1 y2 y3 => k (.exit 0) (encSt [.sl (.sl (.int .i64 (.sl (.str (.int .i64 (.nil))) (.int .i64 (.nil)))) (.nil)), .dead, .dead, .int .i64, .dead, .dead, .dead, .dead, .dead, .dead, .dead, .dead, .dead, .dead, .dead, .dead, .dead, .dead, .dead, .dead, .dead, .dead, .dead, .dead, .dead, .dead, .dead, .dead, .dead, .dead, .dead, .dead, .dead, .dead, .dead, .dead] [] [.row true (.int .i64 (.sl (.str (.int .i64 (.nil))) (.int .i64 (.nil))))] [.q (.sl (.int .i64 (.sl (.str (.int .i64 (.nil))) (.int .i64 (.nil)))) (.nil)) y1, .i y2, .q (.int .i64 (.sl (.str (.int .i64 (.nil))) (.int .i64 (.nil)))) y3])) (fun (slices2 : Seq ((Seq (Int × (Seq (ByteArray × Int × Unit)) × Int × Unit)) × Unit)) (size3 : Int) (x4 : Seq ((Seq (Int × (Seq (ByteArray × Int × Unit)) × Int × Unit)) × Unit)) (x5 : Int) (x6 : Int) (q7 : Seq (Int × (Seq (ByteArray × Int × Unit)) × Int × Unit)) => slices_Concat_api_Hold_api_Hold_l0_run (fun y1 y2 y3 => k (.exit 0) (encSt [.sl (.sl (.int .i64 (.sl (.str (.int .i64 (.nil))) (.int .i64 (.nil)))) (.nil)), .dead, .dead, .int .i64, .dead, .dead, .dead, .dead, .dead, .dead, .dead, .dead, .dead, .dead, .dead, .dead, .dead, .dead, .dead, .dead, .dead, .dead, .dead, .dead, .dead, .dead, .dead, .dead, .dead, .dead, .dead, .dead, .dead, .dead, .dead, .dead] [] [.row true (.int .i64 (.sl (.str (.int .i64 (.nil))) (.int .i64 (.nil))))] [.q (.sl (.int .i64 (.sl (.str (.int .i64 (.nil))) (.int .i64 (.nil)))) (.nil)) y1, .i y2, .q (.int .i64 (.sl (.str (.int .i64 (.nil))) (.int .i64 (.nil)))) y3])) n slices2 size3 x4 x5 x6 q7) slices2 size3 x4 x5 x6 q7 = slices_Concat_api_Hold_api_Hold_l0_run (fun y1 y2 y3 => k (.exit 0) (encSt [.sl (.sl (.int .i64 (.sl (.str (.int .i64 (.nil))) (.int .i64 (.nil)))) (.nil)), .dead, .dead, .int .i64, .dead, .dead, .dead, .dead, .dead, .dead, .dead, .dead, .dead, .dead, .dead, .dead, .dead, .dead, .dead, .dead, .dead, .dead, .dead, .dead, .dead, .dead, .dead, .dead, .dead, .dead, .dead, .dead, .dead, .dead, .dead, .dead] [] [.row true (.int .i64 (.sl (.str (.int .i64 (.nil))) (.int .i64 (.nil))))] [.q (.sl (.int .i64 (.sl (.str (.int .i64 (.nil))) (.int .i64 (.nil)))) (.nil)) y1, .i y2, .q (.int .i64 (.sl (.str (.int .i64 (.nil))) (.int .i64 (.nil)))) y3])) (n + 1) slices2 size3 x4 x5 x6 q7 := by kernel_rfl
    exact h1.trans (h2.trans h3)

theorem slices_Concat_api_Hold_api_Hold_l0_ok {α : Type} : (slices_Concat_api_Hold_api_Hold_l0_spec : LoopSpec α).ok Go.Proofs.Tryd.prog (envOf (slices_Concat_api_Hold_api_Hold_C) slices_Concat_api_Hold_api_Hold_q slices_Concat_api_Hold_api_Hold_inl 1000 slices_Concat_api_Hold_api_Hold_ann false (slices_Concat_api_Hold_api_Hold_loops) (fun _ => none)) := by
  intro ds k
  have h1 : slices_Concat_api_Hold_api_Hold_l0_ev 1000 (encSt slices_Concat_api_Hold_api_Hold_l0_t slices_Concat_api_Hold_api_Hold_l0_s slices_Concat_api_Hold_api_Hold_l0_h ds) k = slices_Concat_api_Hold_api_Hold_l0_ev 1000 (encSt slices_Concat_api_Hold_api_Hold_l0_t slices_Concat_api_Hold_api_Hold_l0_s slices_Concat_api_Hold_api_Hold_l0_h [.q (.sl (.int .i64 (.sl (.str (.int .i64 (.nil))) (.int .i64 (.nil)))) (.nil)) (hdQ (.sl (.int .i64 (.sl (.str (.int .i64 (.nil))) (.int .i64 (.nil)))) (.nil)) ds), .i (hdI ds.tail), .q (.sl (.int .i64 (.sl (.str (.int .i64 (.nil))) (.int .i64 (.nil)))) (.nil)) (hdQ (.sl (.int .i64 (.sl (.str (.int .i64 (.nil))) (.int .i64 (.nil)))) (.nil)) ds.tail.tail), .i (hdI ds.tail.tail.tail), .i (hdI ds.tail.tail.tail.tail), .q (.int .i64 (.sl (.str (.int .i64 (.nil))) (.int .i64 (.nil)))) (hdQ (.int .i64 (.sl (.str (.int .i64 (.nil))) (.int .i64 (.nil)))) ds.tail.tail.tail.tail.tail)]) k := by kernel_rfl
  have h2 := slices_Concat_api_Hold_api_Hold_l0_eq 1000 (hdQ (.sl (.int .i64 (.sl (.str (.int .i64 (.nil))) (.int .i64 (.nil)))) (.nil)) ds) (hdI ds.tail) (hdQ (.sl (.int .i64 (.sl (.str (.int .i64 (.nil))) (.int .i64 (.nil)))) (.nil)) ds.tail.tail) (hdI ds.tail.tail.tail) (hdI ds.tail.tail.tail.tail) (hdQ (.int .i64 (.sl (.str (.int .i64 (.nil))) (.int .i64 (.nil)))) ds.tail.tail.tail.tail.tail) k
  exact h1.trans h2

noncomputable def slices_Concat_api_Hold_api_Hold_l1_ev {α : Type} (n : Nat) (st : St) (k : X → St → Option α) : Option α := loopN (evCode Go.Proofs.Tryd.prog (callD Go.Proofs.Tryd.prog (envOf (slices_Concat_api_Hold_api_Hold_C) slices_Concat_api_Hold_api_Hold_q slices_Concat_api_Hold_api_Hold_inl 1000 slices_Concat_api_Hold_api_Hold_ann false (slices_Concat_api_Hold_api_Hold_loops) (fun _ => none)) 6) (((envOf (slices_Concat_api_Hold_api_Hold_C) slices_Concat_api_Hold_api_Hold_q slices_Concat_api_Hold_api_Hold_inl 1000 slices_Concat_api_Hold_api_Hold_ann false (slices_Concat_api_Hold_api_Hold_loops) (fun _ => none)) : Env α).L 6 65) 1000 (slices_Concat_api_Hold_api_Hold_ann 65) (false :: [true, false, true, true, true, true]) (loopC Go.Proofs.Tryd.prog 65 [true, false, true, true, true, true])) ((slices_Concat_api_Hold_api_Hold_ann 65 [true, false, true, true, true, true]).head 3) ((slices_Concat_api_Hold_api_Hold_ann 65 [true, false, true, true, true, true]).leave 3) n st k

theorem slices_Concat_api_Hold_api_Hold_l1_eq {α : Type} : ∀ (n : Nat) (x11 : Seq ((Seq (Int × (Seq (ByteArray × Int × Unit)) × Int × Unit)) × Unit)) (x12 : Int) (x13 : Int) (q14 : Seq (Int × (Seq (ByteArray × Int × Unit)) × Int × Unit)) (q15 : Seq (Int × (Seq (ByteArray × Int × Unit)) × Int × Unit)) (q16 : Seq (Int × (Seq (ByteArray × Int × Unit)) × Int × Unit)) (k : X → St → Option α), slices_Concat_api_Hold_api_Hold_l1_ev n (encSt slices_Concat_api_Hold_api_Hold_l1_t slices_Concat_api_Hold_api_Hold_l1_s slices_Concat_api_Hold_api_Hold_l1_h [.q (.sl (.int .i64 (.sl (.str (.int .i64 (.nil))) (.int .i64 (.nil)))) (.nil)) x11, .i x12, .i x13, .q (.int .i64 (.sl (.str (.int .i64 (.nil))) (.int .i64 (.nil)))) q14, .q (.int .i64 (.sl (.str (.int .i64 (.nil))) (.int .i64 (.nil)))) q15, .q (.int .i64 (.sl (.str (.int .i64 (.nil))) (.int .i64 (.nil)))) q16]) k = slices_Concat_api_Hold_api_Hold_l1_run (fun y1 y2 y3 => k (.exit 2) (encSt [.dead, .dead, .dead, .dead, .dead, .dead, .own 2, .dead, .dead, .dead, .dead, .dead, .dead, .dead, .dead, .dead, .dead, .dead, .dead, .dead, .dead, .dead, .dead, .dead, .dead, .dead, .dead, .dead, .dead, .dead, .dead, .dead, .dead, .dead, .dead, .dead] [] [.row true (.int .i64 (.sl (.str (.int .i64 (.nil))) (.int .i64 (.nil)))), .row true (.int .i64 (.sl (.str (.int .i64 (.nil))) (.int .i64 (.nil)))), .row true (.int .i64 (.sl (.str (.int .i64 (.nil))) (.int .i64 (.nil))))] [.q (.int .i64 (.sl (.str (.int .i64 (.nil))) (.int .i64 (.nil)))) y1, .q (.int .i64 (.sl (.str (.int .i64 (.nil))) (.int .i64 (.nil)))) y2, .q (.int .i64 (.sl (.str (.int .i64 (.nil))) (.int .i64 (.nil)))) y3])) n x11 x12 x13 q14 q15 q16 := by
  intro n
  induction n with
  | zero => intros; kernel_rfl
  | succ n ih =>
    intro x11 x12 x13 q14 q15 q16 k
    have e : (fun (x11 : Seq ((Seq (Int × (Seq (ByteArray × Int × Unit)) × Int × Unit)) × Unit)) (x12 : Int) (x13 : Int) (q14 : Seq (Int × (Seq (ByteArray × Int × Unit)) × Int × Unit)) (q15 : Seq (Int × (Seq (ByteArray × Int × Unit)) × Int × Unit)) (q16 : Seq (Int × (Seq (ByteArray × Int × Unit)) × Int × Unit)) => slices_Concat_api_Hold_api_Hold_l1_ev n (encSt slices_Concat_api_Hold_api_Hold_l1_t slices_Concat_api_Hold_api_Hold_l1_s slices_Concat_api_Hold_api_Hold_l1_h [.q (.sl (.int .i64 (.sl (.str (.int .i64 (.nil))) (.int .i64 (.nil)))) (.nil)) x11, .i x12, .i x13, .q (.int .i64 (.sl (.str (.int .i64 (.nil))) (.int .i64 (.nil)))) q14, .q (.int .i64 (.sl (.str (.int .i64 (.nil))) (.int .i64 (.nil)))) q15, .q (.int .i64 (.sl (.str (.int .i64 (.nil))) (.int .i64 (.nil)))) q16]) k) = (fun (x11 : Seq ((Seq (Int × (Seq (ByteArray × Int × Unit)) × Int × Unit)) × Unit)) (x12 : Int) (x13 : Int) (q14 : Seq (Int × (Seq (ByteArray × Int × Unit)) × Int × Unit)) (q15 : Seq (Int × (Seq (ByteArray × Int × Unit)) × Int × Unit)) (q16 : Seq (Int × (Seq (ByteArray × Int × Unit)) × Int × Unit)) => slices_Concat_api_Hold_api_Hold_l1_run (fun y1 y2 y3 => k (.exit 2) (encSt [.dead, .dead, .dead, .dead, .dead, .dead, .own 2, .dead, .dead, .dead, .dead, .dead, .dead, .dead, .dead, .dead, .dead, .dead, .dead, .dead, .dead, .dead, .dead, .dead, .dead, .dead, .dead, .dead, .dead, .dead, .dead, .dead, .dead, .dead, .dead, .dead] [] [.row true (.int .i64 (.sl (.str (.int .i64 (.nil))) (.int .i64 (.nil)))), .row true (.int .i64 (.sl (.str (.int .i64 (.nil))) (.int .i64 (.nil)))), .row true (.int .i64 (.sl (.str (.int .i64 (.nil))) (.int .i64 (.nil))))] [.q (.int .i64 (.sl (.str (.int .i64 (.nil))) (.int .i64 (.nil)))) y1, .q (.int .i64 (.sl (.str (.int .i64 (.nil))) (.int .i64 (.nil)))) y2, .q (.int .i64 (.sl (.str (.int .i64 (.nil))) (.int .i64 (.nil)))) y3])) n x11 x12 x13 q14 q15 q16) := by
      funext x11 x12 x13 q14 q15 q16
      exact ih x11 x12 x13 q14 q15 q16 k
    have h1 : slices_Concat_api_Hold_api_Hold_l1_ev (n + 1) (encSt slices_Concat_api_Hold_api_Hold_l1_t slices_Concat_api_Hold_api_Hold_l1_s slices_Concat_api_Hold_api_Hold_l1_h [.q (.sl (.int .i64 (.sl (.str (.int .i64 (.nil))) (.int .i64 (.nil)))) (.nil)) x11, .i x12, .i x13, .q (.int .i64 (.sl (.str (.int .i64 (.nil))) (.int .i64 (.nil)))) q14, .q (.int .i64 (.sl (.str (.int .i64 (.nil))) (.int .i64 (.nil)))) q15, .q (.int .i64 (.sl (.str (.int .i64 (.nil))) (.int .i64 (.nil)))) q16]) k = slices_Concat_api_Hold_api_Hold_l1_step (fun y1 y2 y3 => k (.exit 2) (encSt [.dead, .dead, .dead, .dead, .dead, .dead, .own 2, .dead, .dead, .dead, .dead, .dead, .dead, .dead, .dead, .dead, .dead, .dead, .dead, .dead, .dead, .dead, .dead, .dead, .dead, .dead, .dead, .dead, .dead, .dead, .dead, .dead, .dead, .dead, .dead, .dead] [] [.row true (.int .i64 (.sl (.str (.int .i64 (.nil))) (.int .i64 (.nil)))), .row true (.int .i64 (.sl (.str (.int .i64 (.nil))) (.int .i64 (.nil)))), .row true (.int .i64 (.sl (.str (.int .i64 (.nil))) (.int .i64 (.nil))))] [.q (.int .i64 (.sl (.str (.int .i64 (.nil))) (.int .i64 (.nil)))) y1, .q (.int .i64 (.sl (.str (.int .i64 (.nil))) (.int .i64 (.nil)))) y2, .q (.int .i64 (.sl (.str (.int .i64 (.nil))) (.int .i64 (.nil)))) y3])) (fun (x11 : Seq ((Seq (Int × (Seq (ByteArray × Int × Unit)) × Int × Unit)) × Unit)) (x12 : Int) (x13 : Int) (q14 : Seq (Int × (Seq (ByteArray × Int × Unit)) × Int × Unit)) (q15 : Seq (Int × (Seq (ByteArray × Int × Unit)) × Int × Unit)) (q16 : Seq (Int × (Seq (ByteArray × Int × Unit)) × Int × Unit)) => slices_Concat_api_Hold_api_Hold_l1_ev n (encSt slices_Concat_api_Hold_api_Hold_l1_t slices_Concat_api_Hold_api_Hold_l1_s slices_Concat_api_Hold_api_Hold_l1_h [.q (.sl (.int .i64 (.sl (.str (.int .i64 (.nil))) (.int .i64 (.nil)))) (.nil)) x11, .i x12, .i x13, .q (.int .i64 (.sl (.str (.int .i64 (.nil))) (.int .i64 (.nil)))) q14, .q (.int .i64 (.sl (.str (.int .i64 (.nil))) (.int .i64 (.nil)))) q15, .q (.int .i64 (.sl (.str (.int .i64 (.nil))) (.int .i64 (.nil)))) q16]) k) x11 x12 x13 q14 q15 q16 := by kernel_rfl
    have h2 := congrArg (fun r => slices_Concat_api_Hold_api_Hold_l1_step (fun y1 y2 y3 => k (.exit 2) (encSt [.dead, .dead, .dead, .dead, .dead, .dead, .own 2, .dead, .dead, .dead, .dead, .dead, .dead, .dead, .dead, .dead, .dead, .dead, .dead, .dead, .dead, .dead, .dead, .dead, .dead, .dead, .dead, .dead, .dead, .dead, .dead, .dead, .dead, .dead, .dead, .dead] [] [.row true (.int .i64 (.sl (.str (.int .i64 (.nil))) (.int .i64 (.nil)))), .row true (.int .i64 (.sl (.str (.int .i64 (.nil))) (.int .i64 (.nil)))), .row true (.int .i64 (.sl (.str (.int .i64 (.nil))) (.int .i64 (.nil))))] [.q (.int .i64 (.sl (.str (.int .i64 (.nil))) (.int .i64 (.nil)))) y1, .q (.int .i64 (.sl (.str (.int .i64 (.nil))) (.int .i64 (.nil)))) y2, .q (.int .i64 (.sl (.str (.int .i64 (.nil))) (.int .i64 (.nil)))) y3])) r x11 x12 x13 q14 q15 q16) e
    have h3 : slices_Concat_api_Hold_api_Hold_l1_step (fun y1 y2 y3 => k (.exit 2) (encSt [.dead, .dead, .dead, .dead, .dead, .dead, .own 2, .dead, .dead, .dead, .dead, .dead, .dead, .dead, .dead, .dead, .dead, .dead, .dead, .dead, .dead, .dead, .dead, .dead, .dead, .dead, .dead, .dead, .dead, .dead, .dead, .dead, .dead, .dead, .dead, .dead] [] [.row true (.int .i64 (.sl (.str (.int .i64 (.nil))) (.int .i64 (.nil)))), .row true (.int .i64 (.sl (.str (.int .i64 (.nil))) (.int .i64 (.nil)))), .row true (.int .i64 (.sl (.str (.int .i64 (.nil))) (.int .i64 (.nil))))] [.q (.int .i64 (.sl (.str (.int .i64 (.nil))) (.int .i64 (.nil)))) y1, .q (.int .i64 (.sl (.str (.int .i64 (.nil))) (.int .i64 (.nil)))) y2, .q (.int .i64 (.sl (.str (.int .i64 (.nil))) (.int .i64 (.nil)))) y3])) (fun (x11 : Seq ((Seq (Int × (Seq (ByteArray × Int × Unit)) × Int × Unit)) × Unit)) (x12 : Int) (x13 : Int) (q14 : Seq (Int × (Seq (ByteArray × Int × Unit)) × Int × Unit)) (q15 : Seq (Int × (Seq (ByteArray × Int × Unit)) × Int × Unit)) (q16 : Seq (Int × (Seq (ByteArray × Int × Unit)) × Int × Unit)) => slices_Concat_api_Hold_api_Hold_l1_run (fun y1 y2 y3 => k (.exit 2) (encSt [.dead, .dead, .dead, .dead, .dead, .dead, .own 2, .dead, .dead, .dead, .dead, .dead, .dead, .dead, .dead, .dead, .dead, .dead, .dead, .dead, .dead, .dead, .dead, .dead, .dead, .dead, .dead, .dead, .dead, .dead, .dead, .dead, .dead, .dead, .dead, .dead] [] [.row true (.int .i64 (.sl (.str (.int .i64 (.nil))) (.int .i64 (.nil)))), .row true (.int .i64 (.sl (.str (.int .i64 (.nil))) (.int .i64 (.nil)))), .row true (.int .i64 (.sl (.str (.int .i64 (.nil))) (.int .i64 (.nil))))] [.q (.int .i64 (.sl (.str (.int .i64 (.nil))) (.int .i64 (.nil)))) y1, .q (.int .i64 (.sl (.str (.int .i64 (.nil))) (.int .i64 (.nil)))) y2, .q (.int .i64 (.sl (.str (.int .i64 (.nil))) (.int .i64 (.nil)))) y3])) n x11 x12 x13 q14 q15 q16) x11 x12 x13 q14 q15 q16 = slices_Concat_api_Hold_api_Hold_l1_run (fun y1 y2 y3 => k (.exit 2) (encSt [.dead, .dead, .dead, .dead, .dead, .dead, .own 2, .dead, .dead, .dead, .dead, .dead, .dead, .dead, .dead, .dead, .dead, .dead, .dead, .dead, .dead, .dead, .dead, .dead, .dead, .dead, .dead, .dead, .dead, .dead, .dead, .dead, .dead, .dead, .dead, .dead] [] [.row true (.int .i64 (.sl (.str (.int .i64 (.nil))) (.int .i64 (.nil)))), .row true (.int .i64 (.sl (.str (.int .i64 (.nil))) (.int .i64 (.nil)))), .row true (.int .i64 (.sl (.str (.int .i64 (.nil))) (.int .i64 (.nil))))] [.q (.int .i64 (.sl (.str (.int .i64 (.nil))) (.int .i64 (.nil)))) y1, .q (.int .i64 (.sl (.str (.int .i64 (.nil))) (.int .i64 (.nil)))) y2, .q (.int .i64 (.sl (.str (.int .i64 (.nil))) (.int .i64 (.nil)))) y3])) (n + 1) x11 x12 x13 q14 q15 q16 := by kernel_rfl
    exact h1.trans (h2.trans h3)

theorem slices_Concat_api_Hold_api_Hold_l1_ok {α : Type} : (slices_Concat_api_Hold_api_Hold_l1_spec : LoopSpec α).ok Go.Proofs.Tryd.prog (envOf (slices_Concat_api_Hold_api_Hold_C) slices_Concat_api_Hold_api_Hold_q slices_Concat_api_Hold_api_Hold_inl 1000 slices_Concat_api_Hold_api_Hold_ann false (slices_Concat_api_Hold_api_Hold_loops) (fun _ => none)) := by
  intro ds k
  have h1 : slices_Concat_api_Hold_api_Hold_l1_ev 1000 (encSt slices_Concat_api_Hold_api_Hold_l1_t slices_Concat_api_Hold_api_Hold_l1_s slices_Concat_api_Hold_api_Hold_l1_h ds) k = slices_Concat_api_Hold_api_Hold_l1_ev 1000 (encSt slices_Concat_api_Hold_api_Hold_l1_t slices_Concat_api_Hold_api_Hold_l1_s slices_Concat_api_Hold_api_Hold_l1_h [.q (.sl (.int .i64 (.sl (.str (.int .i64 (.nil))) (.int .i64 (.nil)))) (.nil)) (hdQ (.sl (.int .i64 (.sl (.str (.int .i64 (.nil))) (.int .i64 (.nil)))) (.nil)) ds), .i (hdI ds.tail), .i (hdI ds.tail.tail), .q (.int .i64 (.sl (.str (.int .i64 (.nil))) (.int .i64 (.nil)))) (hdQ (.int .i64 (.sl (.str (.int .i64 (.nil))) (.int .i64 (.nil)))) ds.tail.tail.tail), .q (.int .i64 (.sl (.str (.int .i64 (.nil))) (.int .i64 (.nil)))) (hdQ (.int .i64 (.sl (.str (.int .i64 (.nil))) (.int .i64 (.nil)))) ds.tail.tail.tail.tail), .q (.int .i64 (.sl (.str (.int .i64 (.nil))) (.int .i64 (.nil)))) (hdQ (.int .i64 (.sl (.str (.int .i64 (.nil))) (.int .i64 (.nil)))) ds.tail.tail.tail.tail.tail)]) k := by kernel_rfl
  have h2 := slices_Concat_api_Hold_api_Hold_l1_eq 1000 (hdQ (.sl (.int .i64 (.sl (.str (.int .i64 (.nil))) (.int .i64 (.nil)))) (.nil)) ds) (hdI ds.tail) (hdI ds.tail.tail) (hdQ (.int .i64 (.sl (.str (.int .i64 (.nil))) (.int .i64 (.nil)))) ds.tail.tail.tail) (hdQ (.int .i64 (.sl (.str (.int .i64 (.nil))) (.int .i64 (.nil)))) ds.tail.tail.tail.tail) (hdQ (.int .i64 (.sl (.str (.int .i64 (.nil))) (.int .i64 (.nil)))) ds.tail.tail.tail.tail.tail) k
  exact h1.trans h2

theorem slices_Concat_api_Hold_api_Hold_ev {α : Type} : EvOk (α := α) Go.Proofs.Tryd.prog (envOf (slices_Concat_api_Hold_api_Hold_C) slices_Concat_api_Hold_api_Hold_q slices_Concat_api_Hold_api_Hold_inl 1000 slices_Concat_api_Hold_api_Hold_ann false (slices_Concat_api_Hold_api_Hold_loops) (fun _ => none)) 6 (slices_Concat_api_Hold_api_Hold_sp (slices_Concat_api_Hold_api_Hold)) := by intro ds k; kernel_rfl

theorem slices_Concat_api_Hold_api_Hold_ok {α : Type} : (slices_Concat_api_Hold_api_Hold_spec : FunSpec α).ok Go.Proofs.Tryd.prog :=
  FunSpec.ok_of (sp := slices_Concat_api_Hold_api_Hold_spec) (C := slices_Concat_api_Hold_api_Hold_C) (q := slices_Concat_api_Hold_api_Hold_q) (inl := slices_Concat_api_Hold_api_Hold_inl) (N := 1000) (ann := slices_Concat_api_Hold_api_Hold_ann) (fr := false) (D := 6) (l := (slices_Concat_api_Hold_api_Hold_loops)) (hk := (fun _ => none)) okNil (lokCons (slices_Concat_api_Hold_api_Hold_l0_ok) (lokCons (slices_Concat_api_Hold_api_Hold_l1_ok) lokNil)) noHooks (slices_Concat_api_Hold_api_Hold_ev)

end
end Go.Rv.Tryd

set_option linter.unusedVariables false
set_option maxRecDepth 100000
set_option maxHeartbeats 4000000
namespace Go.Rv.Tryd
open Go Go.Rv Go.RowKit
noncomputable section

-- drayman/holds.Put

abbrev holds_Put_T (α : Type) : Type := (Seq (Int × (Seq (ByteArray × Int × Unit)) × Int × Unit)) → (Int × (Seq (ByteArray × Int × Unit)) × Int × Unit) → (Int → (Seq (Int × (Seq (ByteArray × Int × Unit)) × Int × Unit)) → Option α) → Option α

noncomputable def holds_Put_g {α : Type} (holds_Fit : holds_Fit_T α) (holds_one : holds_one_T α) (slices_ContainsFunc_api_Hold_api_Hold : slices_ContainsFunc_api_Hold_api_Hold_T α) (slices_IndexFunc_api_Hold_api_Hold_s1 : slices_IndexFunc_api_Hold_api_Hold_s1_T α) (holds_own : holds_own_T α) (slices_Concat_api_Hold_api_Hold : slices_Concat_api_Hold_api_Hold_T α) (l1 : Seq (Int × (Seq (ByteArray × Int × Unit)) × Int × Unit)) (h2 : Int × (Seq (ByteArray × Int × Unit)) × Int × Unit) (k : Int → (Seq (Int × (Seq (ByteArray × Int × Unit)) × Int × Unit)) → Option α) : Option α :=
  (holds_Fit l1 fun r3 =>
    (cond (!r3)
      (k 12 (⟨true, 0, (fun _ => (0, (⟨true, 0, fun _ => (ByteArray.empty, 0, ())⟩ : Seq (ByteArray × Int × Unit)), 0, ()))⟩ : Seq (Int × (Seq (ByteArray × Int × Unit)) × Int × Unit)))
      (holds_one h2 fun r4 =>
        (cond (!r4)
          (k 1 (⟨true, 0, (fun _ => (0, (⟨true, 0, fun _ => (ByteArray.empty, 0, ())⟩ : Seq (ByteArray × Int × Unit)), 0, ()))⟩ : Seq (Int × (Seq (ByteArray × Int × Unit)) × Int × Unit)))
          (slices_ContainsFunc_api_Hold_api_Hold l1 h2.1 fun r5 x6 =>
            (cond r5
              (k 3 (⟨true, 0, (fun _ => (0, (⟨true, 0, fun _ => (ByteArray.empty, 0, ())⟩ : Seq (ByteArray × Int × Unit)), 0, ()))⟩ : Seq (Int × (Seq (ByteArray × Int × Unit)) × Int × Unit)))
              (cond ((l1.n : Int) == 16)
                (k 4 (⟨true, 0, (fun _ => (0, (⟨true, 0, fun _ => (ByteArray.empty, 0, ())⟩ : Seq (ByteArray × Int × Unit)), 0, ()))⟩ : Seq (Int × (Seq (ByteArray × Int × Unit)) × Int × Unit)))
                (slices_IndexFunc_api_Hold_api_Hold_s1 l1 h2 fun r7 r8 =>
                  (cond (decide (r7 < 0))
                    (cond ((((decide ((0 : Int) ≤ (l1.n : Int))) && (decide ((l1.n : Int) ≤ (l1.n : Int)))) && (decide ((l1.n : Int) = (l1.n : Int)))) && (((decide ((0 : Int) ≤ (l1.n : Int))) && (decide ((l1.n : Int) ≤ (l1.n : Int)))) && (decide ((l1.n : Int) = (l1.n : Int)))))
                      (cond (((decide ((0 : Int) ≤ (l1.n : Int))) && (decide ((l1.n : Int) ≤ (l1.n : Int)))) && ((decide ((0 : Int) ≤ (l1.n : Int))) && (decide ((l1.n : Int) ≤ (l1.n : Int)))))
                        (holds_own r8 fun r9 r10 r11 =>
                          (slices_Concat_api_Hold_api_Hold (⟨false, 3, (tSel [((⟨l1.nl, (l1.n : Int).toNat, l1.g⟩ : Seq (Int × (Seq (ByteArray × Int × Unit)) × Int × Unit)), ()), ((⟨false, 1, (fun _ => (r9, r11, r10, ()))⟩ : Seq (Int × (Seq (ByteArray × Int × Unit)) × Int × Unit)), ()), ((⟨l1.nl, (l1.n - (l1.n : Int).toNat), (tShift (l1.n : Int).toNat l1.g)⟩ : Seq (Int × (Seq (ByteArray × Int × Unit)) × Int × Unit)), ())] ((⟨true, 0, fun _ => (0, (⟨true, 0, fun _ => (ByteArray.empty, 0, ())⟩ : Seq (ByteArray × Int × Unit)), 0, ())⟩ : Seq (Int × (Seq (ByteArray × Int × Unit)) × Int × Unit)), ()))⟩ : Seq ((Seq (Int × (Seq (ByteArray × Int × Unit)) × Int × Unit)) × Unit)) fun r12 =>
                            (k 0 r12)))
                        none)
                      none)
                    (cond ((((decide ((0 : Int) ≤ r7)) && (decide (r7 ≤ (l1.n : Int)))) && (decide (r7 = r7))) && (((decide ((0 : Int) ≤ r7)) && (decide (r7 ≤ (l1.n : Int)))) && (decide (r7 = r7))))
                      (cond (((decide ((0 : Int) ≤ r7)) && (decide (r7 ≤ (l1.n : Int)))) && ((decide ((0 : Int) ≤ r7)) && (decide (r7 ≤ (l1.n : Int)))))
                        (holds_own r8 fun r13 r14 r15 =>
                          (slices_Concat_api_Hold_api_Hold (⟨false, 3, (tSel [((⟨l1.nl, r7.toNat, l1.g⟩ : Seq (Int × (Seq (ByteArray × Int × Unit)) × Int × Unit)), ()), ((⟨false, 1, (fun _ => (r13, r15, r14, ()))⟩ : Seq (Int × (Seq (ByteArray × Int × Unit)) × Int × Unit)), ()), ((⟨l1.nl, (l1.n - r7.toNat), (tShift r7.toNat l1.g)⟩ : Seq (Int × (Seq (ByteArray × Int × Unit)) × Int × Unit)), ())] ((⟨true, 0, fun _ => (0, (⟨true, 0, fun _ => (ByteArray.empty, 0, ())⟩ : Seq (ByteArray × Int × Unit)), 0, ())⟩ : Seq (Int × (Seq (ByteArray × Int × Unit)) × Int × Unit)), ()))⟩ : Seq ((Seq (Int × (Seq (ByteArray × Int × Unit)) × Int × Unit)) × Unit)) fun r16 =>
                            (k 0 r16)))
                        none)
                      none))))))))))

noncomputable def holds_Put {α : Type} : holds_Put_T α := holds_Put_g holds_Fit holds_one slices_ContainsFunc_api_Hold_api_Hold slices_IndexFunc_api_Hold_api_Hold_s1 holds_own slices_Concat_api_Hold_api_Hold

noncomputable def holds_Put_sp {α : Type} (holds_Put : holds_Put_T α) : FunSpec α := ⟨25, [.sl (.int .i64 (.sl (.str (.int .i64 (.nil))) (.int .i64 (.nil)))), .agg [.int .i64, .sl (.str (.int .i64 (.nil))), .int .i64]], [], fun ds k => holds_Put (hdQ (.int .i64 (.sl (.str (.int .i64 (.nil))) (.int .i64 (.nil)))) ds) (hdI ds.tail, hdQ (.str (.int .i64 (.nil))) ds.tail.tail, hdI ds.tail.tail.tail, ()) (fun r1 q2 => k (enc dep (.tup [.own 0, .int .i64]) [.i r1]).1 (encBs [.row true (.int .i64 (.sl (.str (.int .i64 (.nil))) (.int .i64 (.nil))))] [.q (.int .i64 (.sl (.str (.int .i64 (.nil))) (.int .i64 (.nil)))) q2]).1)⟩

noncomputable def holds_Put_spec {α : Type} : FunSpec α := holds_Put_sp holds_Put

noncomputable def holds_Put_C {α : Type} (holds_Fit : holds_Fit_T α) (holds_one : holds_one_T α) (slices_ContainsFunc_api_Hold_api_Hold : slices_ContainsFunc_api_Hold_api_Hold_T α) (slices_IndexFunc_api_Hold_api_Hold_s1 : slices_IndexFunc_api_Hold_api_Hold_s1_T α) (holds_own : holds_own_T α) (slices_Concat_api_Hold_api_Hold : slices_Concat_api_Hold_api_Hold_T α) : List (FunSpec α) := [holds_Fit_sp holds_Fit, holds_one_sp holds_one, slices_ContainsFunc_api_Hold_api_Hold_sp slices_ContainsFunc_api_Hold_api_Hold, slices_IndexFunc_api_Hold_api_Hold_s1_sp slices_IndexFunc_api_Hold_api_Hold_s1, holds_own_sp holds_own, slices_Concat_api_Hold_api_Hold_sp slices_Concat_api_Hold_api_Hold]

noncomputable def holds_Put_q : FuncId → Bool := fun f => Nat.beq f 32 || Nat.beq f 60 || Nat.beq f 61

noncomputable def holds_Put_inl : FuncId → Bool := fun f => Nat.beq f 62

noncomputable def holds_Put_ann : FuncId → AnnT := fun f p => if f = 25 then (if p = [false, true, true, true, true] then ⟨[], [], [], [], 2, [], [], none⟩ else ⟨[], [], [], [], 0, [], [], none⟩) else ⟨[], [], [], [], 0, [], [], none⟩

noncomputable def holds_Put_loops {α : Type} (holds_Fit : holds_Fit_T α) (holds_one : holds_one_T α) (slices_ContainsFunc_api_Hold_api_Hold : slices_ContainsFunc_api_Hold_api_Hold_T α) (slices_IndexFunc_api_Hold_api_Hold_s1 : slices_IndexFunc_api_Hold_api_Hold_s1_T α) (holds_own : holds_own_T α) (slices_Concat_api_Hold_api_Hold : slices_Concat_api_Hold_api_Hold_T α) : List (LoopSpec α) := []

theorem holds_Put_ev {α : Type} (holds_Fit : holds_Fit_T α) (holds_one : holds_one_T α) (slices_ContainsFunc_api_Hold_api_Hold : slices_ContainsFunc_api_Hold_api_Hold_T α) (slices_IndexFunc_api_Hold_api_Hold_s1 : slices_IndexFunc_api_Hold_api_Hold_s1_T α) (holds_own : holds_own_T α) (slices_Concat_api_Hold_api_Hold : slices_Concat_api_Hold_api_Hold_T α) : EvOk (α := α) Go.Proofs.Tryd.prog (envOf (holds_Put_C holds_Fit holds_one slices_ContainsFunc_api_Hold_api_Hold slices_IndexFunc_api_Hold_api_Hold_s1 holds_own slices_Concat_api_Hold_api_Hold) holds_Put_q holds_Put_inl 1000 holds_Put_ann false (holds_Put_loops holds_Fit holds_one slices_ContainsFunc_api_Hold_api_Hold slices_IndexFunc_api_Hold_api_Hold_s1 holds_own slices_Concat_api_Hold_api_Hold) (fun _ => none)) 6 (holds_Put_sp (holds_Put_g holds_Fit holds_one slices_ContainsFunc_api_Hold_api_Hold slices_IndexFunc_api_Hold_api_Hold_s1 holds_own slices_Concat_api_Hold_api_Hold)) := by intro ds k; kernel_rfl

theorem holds_Put_ok {α : Type} : (holds_Put_spec : FunSpec α).ok Go.Proofs.Tryd.prog :=
  FunSpec.ok_of (sp := holds_Put_spec) (C := holds_Put_C holds_Fit holds_one slices_ContainsFunc_api_Hold_api_Hold slices_IndexFunc_api_Hold_api_Hold_s1 holds_own slices_Concat_api_Hold_api_Hold) (q := holds_Put_q) (inl := holds_Put_inl) (N := 1000) (ann := holds_Put_ann) (fr := false) (D := 6) (l := (holds_Put_loops holds_Fit holds_one slices_ContainsFunc_api_Hold_api_Hold slices_IndexFunc_api_Hold_api_Hold_s1 holds_own slices_Concat_api_Hold_api_Hold)) (hk := (fun _ => none)) (okCons holds_Fit_ok (okCons holds_one_ok (okCons slices_ContainsFunc_api_Hold_api_Hold_ok (okCons slices_IndexFunc_api_Hold_api_Hold_s1_ok (okCons holds_own_ok (okCons slices_Concat_api_Hold_api_Hold_ok okNil)))))) lokNil noHooks (holds_Put_ev holds_Fit holds_one slices_ContainsFunc_api_Hold_api_Hold slices_IndexFunc_api_Hold_api_Hold_s1 holds_own slices_Concat_api_Hold_api_Hold)

end
end Go.Rv.Tryd

set_option linter.unusedVariables false
set_option maxRecDepth 100000
set_option maxHeartbeats 4000000
namespace Go.Rv.Tryd
open Go Go.Rv Go.RowKit
noncomputable section

-- drayman/lines.Of$1

abbrev lines_Of_1_T (α : Type) : Type := (ByteArray × Int × Unit) → ByteArray → (Bool → ByteArray → Option α) → Option α

noncomputable def lines_Of_1 {α : Type} (x1 : ByteArray × Int × Unit) (x2 : ByteArray) (k : Bool → ByteArray → Option α) : Option α :=
  (k (x1.1.toList == x2.toList) x2)

noncomputable def lines_Of_1_sp {α : Type} (lines_Of_1 : lines_Of_1_T α) : FunSpec α := ⟨105, [.agg [.str, .int .i64], .ref 0 0], [.box [.str]], fun ds k => lines_Of_1 (hdS ds, hdI ds.tail, ()) (hdS ds.tail.tail) (fun r1 r2 => k (enc dep (.bool) [.b r1]).1 (encBs [.box [.str]] [.s r2]).1)⟩

noncomputable def lines_Of_1_spec {α : Type} : FunSpec α := lines_Of_1_sp lines_Of_1

noncomputable def lines_Of_1_C {α : Type} : List (FunSpec α) := []

noncomputable def lines_Of_1_q : FuncId → Bool := fun f => false

noncomputable def lines_Of_1_inl : FuncId → Bool := fun f => false

noncomputable def lines_Of_1_ann : FuncId → AnnT := fun f p => ⟨[], [], [], [], 0, [], [], none⟩

noncomputable def lines_Of_1_loops {α : Type} : List (LoopSpec α) := []

theorem lines_Of_1_ev {α : Type} : EvOk (α := α) Go.Proofs.Tryd.prog (envOf (lines_Of_1_C) lines_Of_1_q lines_Of_1_inl 1000 lines_Of_1_ann false (lines_Of_1_loops) (fun _ => none)) 6 (lines_Of_1_sp (lines_Of_1)) := by intro ds k; kernel_rfl

theorem lines_Of_1_ok {α : Type} : (lines_Of_1_spec : FunSpec α).ok Go.Proofs.Tryd.prog :=
  FunSpec.ok_of (sp := lines_Of_1_spec) (C := lines_Of_1_C) (q := lines_Of_1_q) (inl := lines_Of_1_inl) (N := 1000) (ann := lines_Of_1_ann) (fr := false) (D := 6) (l := (lines_Of_1_loops)) (hk := (fun _ => none)) okNil lokNil noHooks (lines_Of_1_ev)

end
end Go.Rv.Tryd

set_option linter.unusedVariables false
set_option maxRecDepth 100000
set_option maxHeartbeats 4000000
namespace Go.Rv.Tryd
open Go Go.Rv Go.RowKit
noncomputable section

-- slices.IndexFunc[[]drayman/api.Line,drayman/api.Line]

abbrev slices_IndexFunc_api_Line_api_Line_T (α : Type) : Type := (Seq (ByteArray × Int × Unit)) → ByteArray → (Int → ByteArray → Option α) → Option α

noncomputable def slices_IndexFunc_api_Line_api_Line_l0_step {α : Type} (lines_Of_1 : lines_Of_1_T α) (kr : (Int) → (ByteArray) → Option α) (k0 : (ByteArray) → Option α) (rec : (Seq (ByteArray × Int × Unit)) → (Int) → (Int) → (ByteArray) → Option α) (s3 : Seq (ByteArray × Int × Unit)) (x4 : Int) (x5 : Int) (x6 : ByteArray) : Option α :=
  (cond (decide (x5 < x4))
    (cond ((decide ((0 : Int) ≤ x5)) && (decide (x5 < (s3.n : Int))))
      (lines_Of_1 (s3.g x5.toNat) x6 fun r7 x8 =>
        (cond r7
          (kr x5 x8)
          (rec s3 x4 (IntKind.i64.wrap (x5 + 1)) x8)))
      none)
    (k0 x6))

noncomputable def slices_IndexFunc_api_Line_api_Line_l0_run {α : Type} (lines_Of_1 : lines_Of_1_T α) (kr : (Int) → (ByteArray) → Option α) (k0 : (ByteArray) → Option α) : Nat → (Seq (ByteArray × Int × Unit)) → (Int) → (Int) → (ByteArray) → Option α
  | 0, _, _, _, _ => none
  | n + 1, s3, x4, x5, x6 => slices_IndexFunc_api_Line_api_Line_l0_step lines_Of_1 kr k0 (fun s3 x4 x5 x6 => slices_IndexFunc_api_Line_api_Line_l0_run lines_Of_1 kr k0 n s3 x4 x5 x6) s3 x4 x5 x6

noncomputable def slices_IndexFunc_api_Line_api_Line_g {α : Type} (lines_Of_1 : lines_Of_1_T α) (s1 : Seq (ByteArray × Int × Unit)) (x2 : ByteArray) (k : Int → ByteArray → Option α) : Option α :=
  (slices_IndexFunc_api_Line_api_Line_l0_run lines_Of_1
    (fun x9 x10 =>
      (k x9 x10))
    (fun x11 =>
      (k (-1) x11))
    1000 s1 (s1.n : Int) 0 x2)

noncomputable def slices_IndexFunc_api_Line_api_Line {α : Type} : slices_IndexFunc_api_Line_api_Line_T α := slices_IndexFunc_api_Line_api_Line_g lines_Of_1

noncomputable def slices_IndexFunc_api_Line_api_Line_sp {α : Type} (slices_IndexFunc_api_Line_api_Line : slices_IndexFunc_api_Line_api_Line_T α) : FunSpec α := ⟨104, [.sl (.str (.int .i64 (.nil))), .func (.func 105) [] [.ref 0 0]], [.box [.str]], fun ds k => slices_IndexFunc_api_Line_api_Line (hdQ (.str (.int .i64 (.nil))) ds) (hdS ds.tail) (fun r1 r2 => k (enc dep (.int .i64) [.i r1]).1 (encBs [.box [.str]] [.s r2]).1)⟩

noncomputable def slices_IndexFunc_api_Line_api_Line_spec {α : Type} : FunSpec α := slices_IndexFunc_api_Line_api_Line_sp slices_IndexFunc_api_Line_api_Line

noncomputable def slices_IndexFunc_api_Line_api_Line_C {α : Type} (lines_Of_1 : lines_Of_1_T α) : List (FunSpec α) := [lines_Of_1_sp lines_Of_1]

noncomputable def slices_IndexFunc_api_Line_api_Line_q : FuncId → Bool := fun f => Nat.beq f 105

noncomputable def slices_IndexFunc_api_Line_api_Line_inl : FuncId → Bool := fun f => false

noncomputable def slices_IndexFunc_api_Line_api_Line_ann : FuncId → AnnT := fun f p => if f = 104 then (if p = [true, false, true] then ⟨[0, 1, 7, 8], [], [], [4], 0, [], [], none⟩ else ⟨[], [], [], [], 0, [], [], none⟩) else ⟨[], [], [], [], 0, [], [], none⟩

noncomputable def slices_IndexFunc_api_Line_api_Line_l0_t : List Sh := [.sl (.str (.int .i64 (.nil))), .func (.func 105) [] [.ref 0 0], .dead, .dead, .dead, .dead, .dead, .int .i64, .int .i64, .dead, .dead, .dead, .dead, .dead, .dead, .dead, .dead, .dead, .dead]
noncomputable def slices_IndexFunc_api_Line_api_Line_l0_s : List (List Sh) := []
noncomputable def slices_IndexFunc_api_Line_api_Line_l0_h : List BSh := [.box [.str]]

noncomputable def slices_IndexFunc_api_Line_api_Line_l0_spec {α : Type} (lines_Of_1 : lines_Of_1_T α) : LoopSpec α := ⟨6, 104, [true, false, true], slices_IndexFunc_api_Line_api_Line_l0_t, slices_IndexFunc_api_Line_api_Line_l0_s, slices_IndexFunc_api_Line_api_Line_l0_h, fun ds k => slices_IndexFunc_api_Line_api_Line_l0_run lines_Of_1 (fun y1 y2 => k .ret (encSt [.dead, .dead, .dead, .dead, .int .i64, .dead, .dead, .dead, .dead, .dead, .dead, .dead, .dead, .dead, .dead, .dead, .dead, .dead, .dead] [] [.box [.str]] [.i y1, .s y2])) (fun y1 => k (.exit 0) (encSt [.dead, .dead, .dead, .dead, .dead, .dead, .dead, .dead, .dead, .dead, .dead, .dead, .dead, .dead, .dead, .dead, .dead, .dead, .dead] [] [.box [.str]] [.s y1])) 1000 (hdQ (.str (.int .i64 (.nil))) ds) (hdI ds.tail) (hdI ds.tail.tail) (hdS ds.tail.tail.tail)⟩

noncomputable def slices_IndexFunc_api_Line_api_Line_loops {α : Type} (lines_Of_1 : lines_Of_1_T α) : List (LoopSpec α) := [slices_IndexFunc_api_Line_api_Line_l0_spec lines_Of_1]

noncomputable def slices_IndexFunc_api_Line_api_Line_l0_ev {α : Type} (lines_Of_1 : lines_Of_1_T α) (n : Nat) (st : St) (k : X → St → Option α) : Option α := loopN (evCode Go.Proofs.Tryd.prog (callD Go.Proofs.Tryd.prog (envOf (slices_IndexFunc_api_Line_api_Line_C lines_Of_1) slices_IndexFunc_api_Line_api_Line_q slices_IndexFunc_api_Line_api_Line_inl 1000 slices_IndexFunc_api_Line_api_Line_ann false (slices_IndexFunc_api_Line_api_Line_loops lines_Of_1) (fun _ => none)) 6) (((envOf (slices_IndexFunc_api_Line_api_Line_C lines_Of_1) slices_IndexFunc_api_Line_api_Line_q slices_IndexFunc_api_Line_api_Line_inl 1000 slices_IndexFunc_api_Line_api_Line_ann false (slices_IndexFunc_api_Line_api_Line_loops lines_Of_1) (fun _ => none)) : Env α).L 6 104) 1000 (slices_IndexFunc_api_Line_api_Line_ann 104) (false :: [true, false, true]) (loopC Go.Proofs.Tryd.prog 104 [true, false, true])) ((slices_IndexFunc_api_Line_api_Line_ann 104 [true, false, true]).head 1) ((slices_IndexFunc_api_Line_api_Line_ann 104 [true, false, true]).leave 1) n st k

theorem slices_IndexFunc_api_Line_api_Line_l0_eq {α : Type} (lines_Of_1 : lines_Of_1_T α) : ∀ (n : Nat) (s3 : Seq (ByteArray × Int × Unit)) (x4 : Int) (x5 : Int) (x6 : ByteArray) (k : X → St → Option α), slices_IndexFunc_api_Line_api_Line_l0_ev lines_Of_1 n (encSt slices_IndexFunc_api_Line_api_Line_l0_t slices_IndexFunc_api_Line_api_Line_l0_s slices_IndexFunc_api_Line_api_Line_l0_h [.q (.str (.int .i64 (.nil))) s3, .i x4, .i x5, .s x6]) k = slices_IndexFunc_api_Line_api_Line_l0_run lines_Of_1 (fun y1 y2 => k .ret (encSt [.dead, .dead, .dead, .dead, .int .i64, .dead, .dead, .dead, .dead, .dead, .dead, .dead, .dead, .dead, .dead, .dead, .dead, .dead, .dead] [] [.box [.str]] [.i y1, .s y2])) (fun y1 => k (.exit 0) (encSt [.dead, .dead, .dead, .dead, .dead, .dead, .dead, .dead, .dead, .dead, .dead, .dead, .dead, .dead, .dead, .dead, .dead, .dead, .dead] [] [.box [.str]] [.s y1])) n s3 x4 x5 x6 := by
  intro n
  induction n with
  | zero => intros; kernel_rfl
  | succ n ih =>
    intro s3 x4 x5 x6 k
    have e : (fun (s3 : Seq (ByteArray × Int × Unit)) (x4 : Int) (x5 : Int) (x6 : ByteArray) => slices_IndexFunc_api_Line_api_Line_l0_ev lines_Of_1 n (encSt slices_IndexFunc_api_Line_api_Line_l0_t slices_IndexFunc_api_Line_api_Line_l0_s slices_IndexFunc_api_Line_api_Line_l0_h [.q (.str (.int .i64 (.nil))) s3, .i x4, .i x5, .s x6]) k) = (fun (s3 : Seq (ByteArray × Int × Unit)) (x4 : Int) (x5 : Int) (x6 : ByteArray) => slices_IndexFunc_api_Line_api_Line_l0_run lines_Of_1 (fun y1 y2 => k .ret (encSt [.dead, .dead, .dead, .dead, .int .i64, .dead, .dead, .dead, .dead, .dead, .dead, .dead, .dead, .dead, .dead, .dead, .dead, .dead, .dead] [] [.box [.str]] [.i y1, .s y2])) (fun y1 => k (.exit 0) (encSt [.dead, .dead, .dead, .dead, .dead, .dead, .dead, .dead, .dead, .dead, .dead, .dead, .dead, .dead, .dead, .dead, .dead, .dead, .dead] [] [.box [.str]] [.s y1])) n s3 x4 x5 x6) := by
      funext s3 x4 x5 x6
      exact ih s3 x4 x5 x6 k
    have h1 : slices_IndexFunc_api_Line_api_Line_l0_ev lines_Of_1 (n + 1) (encSt slices_IndexFunc_api_Line_api_Line_l0_t slices_IndexFunc_api_Line_api_Line_l0_s slices_IndexFunc_api_Line_api_Line_l0_h [.q (.str (.int .i64 (.nil))) s3, .i x4, .i x5, .s x6]) k = slices_IndexFunc_api_Line_api_Line_l0_step lines_Of_1 (fun y1 y2 => k .ret (encSt [.dead, .dead, .dead, .dead, .int .i64, .dead, .dead, .dead, .dead, .dead, .dead, .dead, .dead, .dead, .dead, .dead, .dead, .dead, .dead] [] [.box [.str]] [.i y1, .s y2])) (fun y1 => k (.exit 0) (encSt [.dead, .dead, .dead, .dead, .dead, .dead, .dead, .dead, .dead, .dead, .dead, .dead, .dead, .dead, .dead, .dead, .dead, .dead, .dead] [] [.box [.str]] [.s y1])) (fun (s3 : Seq (ByteArray × Int × Unit)) (x4 : Int) (x5 : Int) (x6 : ByteArray) => slices_IndexFunc_api_Line_api_Line_l0_ev lines_Of_1 n (encSt slices_IndexFunc_api_Line_api_Line_l0_t slices_IndexFunc_api_Line_api_Line_l0_s slices_IndexFunc_api_Line_api_Line_l0_h [.q (.str (.int .i64 (.nil))) s3, .i x4, .i x5, .s x6]) k) s3 x4 x5 x6 := by kernel_rfl
    have h2 := congrArg (fun r => slices_IndexFunc_api_Line_api_Line_l0_step lines_Of_1 (fun y1 y2 => k .ret (encSt [.dead, .dead, .dead, .dead, .int .i64, .dead, .dead, .dead, .dead, .dead, .dead, .dead, .dead, .dead, .dead, .dead, .dead, .dead, .dead] [] [.box [.str]] [.i y1, .s y2])) (fun y1 => k (.exit 0) (encSt [.dead, .dead, .dead, .dead, .dead, .dead, .dead, .dead, .dead, .dead, .dead, .dead, .dead, .dead, .dead, .dead, .dead, .dead, .dead] [] [.box [.str]] [.s y1])) r s3 x4 x5 x6) e
    have h3 : slices_IndexFunc_api_Line_api_Line_l0_step lines_Of_1 (fun y1 y2 => k .ret (encSt [.dead, .dead, .dead, .dead, .int .i64, .dead, .dead, .dead, .dead, .dead, .dead, .dead, .dead, .dead, .dead, .dead, .dead, .dead, .dead] [] [.box [.str]] [.i y1, .s y2])) (fun y1 => k (.exit 0) (encSt [.dead, .dead, .dead, .dead, .dead, .dead, .dead, .dead, .dead, .dead, .dead, .dead, .dead, .dead, .dead, .dead, .dead, .dead, .dead] [] [.box [.str]] [.s y1])) (fun (s3 : Seq (ByteArray × Int × Unit)) (x4 : Int) (x5 : Int) (x6 : ByteArray) => slices_IndexFunc_api_Line_api_Line_l0_run lines_Of_1 (fun y1 y2 => k .ret (encSt [.dead, .dead, .dead, .dead, .int .i64, .dead, .dead, .dead, .dead, .dead, .dead, .dead, .dead, .dead, .dead, .dead, .dead, .dead, .dead] [] [.box [.str]] [.i y1, .s y2])) (fun y1 => k (.exit 0) (encSt [.dead, .dead, .dead, .dead, .dead, .dead, .dead, .dead, .dead, .dead, .dead, .dead, .dead, .dead, .dead, .dead, .dead, .dead, .dead] [] [.box [.str]] [.s y1])) n s3 x4 x5 x6) s3 x4 x5 x6 = slices_IndexFunc_api_Line_api_Line_l0_run lines_Of_1 (fun y1 y2 => k .ret (encSt [.dead, .dead, .dead, .dead, .int .i64, .dead, .dead, .dead, .dead, .dead, .dead, .dead, .dead, .dead, .dead, .dead, .dead, .dead, .dead] [] [.box [.str]] [.i y1, .s y2])) (fun y1 => k (.exit 0) (encSt [.dead, .dead, .dead, .dead, .dead, .dead, .dead, .dead, .dead, .dead, .dead, .dead, .dead, .dead, .dead, .dead, .dead, .dead, .dead] [] [.box [.str]] [.s y1])) (n + 1) s3 x4 x5 x6 := by kernel_rfl
    exact h1.trans (h2.trans h3)

theorem slices_IndexFunc_api_Line_api_Line_l0_ok {α : Type} (lines_Of_1 : lines_Of_1_T α) : (slices_IndexFunc_api_Line_api_Line_l0_spec lines_Of_1 : LoopSpec α).ok Go.Proofs.Tryd.prog (envOf (slices_IndexFunc_api_Line_api_Line_C lines_Of_1) slices_IndexFunc_api_Line_api_Line_q slices_IndexFunc_api_Line_api_Line_inl 1000 slices_IndexFunc_api_Line_api_Line_ann false (slices_IndexFunc_api_Line_api_Line_loops lines_Of_1) (fun _ => none)) := by
  intro ds k
  have h1 : slices_IndexFunc_api_Line_api_Line_l0_ev lines_Of_1 1000 (encSt slices_IndexFunc_api_Line_api_Line_l0_t slices_IndexFunc_api_Line_api_Line_l0_s slices_IndexFunc_api_Line_api_Line_l0_h ds) k = slices_IndexFunc_api_Line_api_Line_l0_ev lines_Of_1 1000 (encSt slices_IndexFunc_api_Line_api_Line_l0_t slices_IndexFunc_api_Line_api_Line_l0_s slices_IndexFunc_api_Line_api_Line_l0_h [.q (.str (.int .i64 (.nil))) (hdQ (.str (.int .i64 (.nil))) ds), .i (hdI ds.tail), .i (hdI ds.tail.tail), .s (hdS ds.tail.tail.tail)]) k := by kernel_rfl
  have h2 := slices_IndexFunc_api_Line_api_Line_l0_eq lines_Of_1 1000 (hdQ (.str (.int .i64 (.nil))) ds) (hdI ds.tail) (hdI ds.tail.tail) (hdS ds.tail.tail.tail) k
  exact h1.trans h2

theorem slices_IndexFunc_api_Line_api_Line_ev {α : Type} (lines_Of_1 : lines_Of_1_T α) : EvOk (α := α) Go.Proofs.Tryd.prog (envOf (slices_IndexFunc_api_Line_api_Line_C lines_Of_1) slices_IndexFunc_api_Line_api_Line_q slices_IndexFunc_api_Line_api_Line_inl 1000 slices_IndexFunc_api_Line_api_Line_ann false (slices_IndexFunc_api_Line_api_Line_loops lines_Of_1) (fun _ => none)) 6 (slices_IndexFunc_api_Line_api_Line_sp (slices_IndexFunc_api_Line_api_Line_g lines_Of_1)) := by intro ds k; kernel_rfl

theorem slices_IndexFunc_api_Line_api_Line_ok {α : Type} : (slices_IndexFunc_api_Line_api_Line_spec : FunSpec α).ok Go.Proofs.Tryd.prog :=
  FunSpec.ok_of (sp := slices_IndexFunc_api_Line_api_Line_spec) (C := slices_IndexFunc_api_Line_api_Line_C lines_Of_1) (q := slices_IndexFunc_api_Line_api_Line_q) (inl := slices_IndexFunc_api_Line_api_Line_inl) (N := 1000) (ann := slices_IndexFunc_api_Line_api_Line_ann) (fr := false) (D := 6) (l := (slices_IndexFunc_api_Line_api_Line_loops lines_Of_1)) (hk := (fun _ => none)) (okCons lines_Of_1_ok okNil) (lokCons (slices_IndexFunc_api_Line_api_Line_l0_ok lines_Of_1) lokNil) noHooks (slices_IndexFunc_api_Line_api_Line_ev lines_Of_1)

end
end Go.Rv.Tryd

set_option linter.unusedVariables false
set_option maxRecDepth 100000
set_option maxHeartbeats 4000000
namespace Go.Rv.Tryd
open Go Go.Rv Go.RowKit
noncomputable section

-- drayman/lines.Of

abbrev lines_Of_T (α : Type) : Type := (Seq (ByteArray × Int × Unit)) → ByteArray → (Int → Option α) → Option α

noncomputable def lines_Of_g {α : Type} (slices_IndexFunc_api_Line_api_Line : slices_IndexFunc_api_Line_api_Line_T α) (l1 : Seq (ByteArray × Int × Unit)) (sku2 : ByteArray) (k : Int → Option α) : Option α :=
  (slices_IndexFunc_api_Line_api_Line l1 sku2 fun r3 x4 =>
    (cond (decide (r3 < 0))
      (k 0)
      (cond ((decide ((0 : Int) ≤ r3)) && (decide (r3 < (l1.n : Int))))
        (k ((l1.g r3.toNat).2.1))
        none)))

noncomputable def lines_Of {α : Type} : lines_Of_T α := lines_Of_g slices_IndexFunc_api_Line_api_Line

noncomputable def lines_Of_sp {α : Type} (lines_Of : lines_Of_T α) : FunSpec α := ⟨69, [.sl (.str (.int .i64 (.nil))), .str], [], fun ds k => lines_Of (hdQ (.str (.int .i64 (.nil))) ds) (hdS ds.tail) (fun r1 => k (enc dep (.int .i64) [.i r1]).1 [])⟩

noncomputable def lines_Of_spec {α : Type} : FunSpec α := lines_Of_sp lines_Of

noncomputable def lines_Of_C {α : Type} (slices_IndexFunc_api_Line_api_Line : slices_IndexFunc_api_Line_api_Line_T α) : List (FunSpec α) := [slices_IndexFunc_api_Line_api_Line_sp slices_IndexFunc_api_Line_api_Line]

noncomputable def lines_Of_q : FuncId → Bool := fun f => Nat.beq f 104

noncomputable def lines_Of_inl : FuncId → Bool := fun f => false

noncomputable def lines_Of_ann : FuncId → AnnT := fun f p => ⟨[], [], [], [], 0, [], [], none⟩

noncomputable def lines_Of_loops {α : Type} (slices_IndexFunc_api_Line_api_Line : slices_IndexFunc_api_Line_api_Line_T α) : List (LoopSpec α) := []

theorem lines_Of_ev {α : Type} (slices_IndexFunc_api_Line_api_Line : slices_IndexFunc_api_Line_api_Line_T α) : EvOk (α := α) Go.Proofs.Tryd.prog (envOf (lines_Of_C slices_IndexFunc_api_Line_api_Line) lines_Of_q lines_Of_inl 1000 lines_Of_ann false (lines_Of_loops slices_IndexFunc_api_Line_api_Line) (fun _ => none)) 6 (lines_Of_sp (lines_Of_g slices_IndexFunc_api_Line_api_Line)) := by intro ds k; kernel_rfl

theorem lines_Of_ok {α : Type} : (lines_Of_spec : FunSpec α).ok Go.Proofs.Tryd.prog :=
  FunSpec.ok_of (sp := lines_Of_spec) (C := lines_Of_C slices_IndexFunc_api_Line_api_Line) (q := lines_Of_q) (inl := lines_Of_inl) (N := 1000) (ann := lines_Of_ann) (fr := false) (D := 6) (l := (lines_Of_loops slices_IndexFunc_api_Line_api_Line)) (hk := (fun _ => none)) (okCons slices_IndexFunc_api_Line_api_Line_ok okNil) lokNil noHooks (lines_Of_ev slices_IndexFunc_api_Line_api_Line)

end
end Go.Rv.Tryd

set_option linter.unusedVariables false
set_option maxRecDepth 100000
set_option maxHeartbeats 4000000
namespace Go.Rv.Tryd
open Go Go.Rv Go.RowKit
noncomputable section

-- drayman/holds.Total

abbrev holds_Total_T (α : Type) : Type := (Seq (Int × (Seq (ByteArray × Int × Unit)) × Int × Unit)) → ByteArray → (Int → Option α) → Option α

noncomputable def holds_Total_l0_step {α : Type} (holds_Fit : holds_Fit_T α) (lines_Of : lines_Of_T α) (k0 : (Int) → Option α) (rec : (ByteArray) → (Int) → (Seq (Int × (Seq (ByteArray × Int × Unit)) × Int × Unit)) → (Int) → (Int) → Option α) (sku4 : ByteArray) (n5 : Int) (x6 : Seq (Int × (Seq (ByteArray × Int × Unit)) × Int × Unit)) (x7 : Int) (x8 : Int) : Option α :=
  (cond (decide (x8 < x7))
    (cond ((decide ((0 : Int) ≤ x8)) && (decide (x8 < (x6.n : Int))))
      (lines_Of ((x6.g x8.toNat).2.1) sku4 fun r9 =>
        (rec sku4 (IntKind.i64.wrap (n5 + r9)) x6 x7 (IntKind.i64.wrap (x8 + 1))))
      none)
    (k0 n5))

noncomputable def holds_Total_l0_run {α : Type} (holds_Fit : holds_Fit_T α) (lines_Of : lines_Of_T α) (k0 : (Int) → Option α) : Nat → (ByteArray) → (Int) → (Seq (Int × (Seq (ByteArray × Int × Unit)) × Int × Unit)) → (Int) → (Int) → Option α
  | 0, _, _, _, _, _ => none
  | n + 1, sku4, n5, x6, x7, x8 => holds_Total_l0_step holds_Fit lines_Of k0 (fun sku4 n5 x6 x7 x8 => holds_Total_l0_run holds_Fit lines_Of k0 n sku4 n5 x6 x7 x8) sku4 n5 x6 x7 x8

noncomputable def holds_Total_g {α : Type} (holds_Fit : holds_Fit_T α) (lines_Of : lines_Of_T α) (l1 : Seq (Int × (Seq (ByteArray × Int × Unit)) × Int × Unit)) (sku2 : ByteArray) (k : Int → Option α) : Option α :=
  (holds_Fit l1 fun r3 =>
    (cond r3
      (holds_Total_l0_run holds_Fit lines_Of
        (fun x10 =>
          (k x10))
        1000 sku2 0 l1 (l1.n : Int) 0)
      (k 0)))

noncomputable def holds_Total {α : Type} : holds_Total_T α := holds_Total_g holds_Fit lines_Of

noncomputable def holds_Total_sp {α : Type} (holds_Total : holds_Total_T α) : FunSpec α := ⟨34, [.sl (.int .i64 (.sl (.str (.int .i64 (.nil))) (.int .i64 (.nil)))), .str], [], fun ds k => holds_Total (hdQ (.int .i64 (.sl (.str (.int .i64 (.nil))) (.int .i64 (.nil)))) ds) (hdS ds.tail) (fun r1 => k (enc dep (.int .i64) [.i r1]).1 [])⟩

noncomputable def holds_Total_spec {α : Type} : FunSpec α := holds_Total_sp holds_Total

noncomputable def holds_Total_C {α : Type} (holds_Fit : holds_Fit_T α) (lines_Of : lines_Of_T α) : List (FunSpec α) := [holds_Fit_sp holds_Fit, lines_Of_sp lines_Of]

noncomputable def holds_Total_q : FuncId → Bool := fun f => Nat.beq f 32 || Nat.beq f 69

noncomputable def holds_Total_inl : FuncId → Bool := fun f => false

noncomputable def holds_Total_ann : FuncId → AnnT := fun f p => if f = 34 then (if p = [true, false, true, false, true, true] then ⟨[1, 5, 10, 11, 12], [], [5], [4], 0, [], [], none⟩ else ⟨[], [], [], [], 0, [], [], none⟩) else ⟨[], [], [], [], 0, [], [], none⟩

noncomputable def holds_Total_l0_t : List Sh := [.dead, .str, .dead, .dead, .dead, .int .i64, .dead, .dead, .dead, .dead, .sl (.int .i64 (.sl (.str (.int .i64 (.nil))) (.int .i64 (.nil)))), .int .i64, .int .i64, .dead, .dead, .dead, .dead, .dead, .dead, .dead, .dead, .dead, .dead, .dead]
noncomputable def holds_Total_l0_s : List (List Sh) := []
noncomputable def holds_Total_l0_h : List BSh := []

noncomputable def holds_Total_l0_spec {α : Type} (holds_Fit : holds_Fit_T α) (lines_Of : lines_Of_T α) : LoopSpec α := ⟨6, 34, [true, false, true, false, true, true], holds_Total_l0_t, holds_Total_l0_s, holds_Total_l0_h, fun ds k => holds_Total_l0_run holds_Fit lines_Of (fun y1 => k (.exit 0) (encSt [.dead, .dead, .dead, .dead, .dead, .int .i64, .dead, .dead, .dead, .dead, .dead, .dead, .dead, .dead, .dead, .dead, .dead, .dead, .dead, .dead, .dead, .dead, .dead, .dead] [] [] [.i y1])) 1000 (hdS ds) (hdI ds.tail) (hdQ (.int .i64 (.sl (.str (.int .i64 (.nil))) (.int .i64 (.nil)))) ds.tail.tail) (hdI ds.tail.tail.tail) (hdI ds.tail.tail.tail.tail)⟩

noncomputable def holds_Total_loops {α : Type} (holds_Fit : holds_Fit_T α) (lines_Of : lines_Of_T α) : List (LoopSpec α) := [holds_Total_l0_spec holds_Fit lines_Of]

noncomputable def holds_Total_l0_ev {α : Type} (holds_Fit : holds_Fit_T α) (lines_Of : lines_Of_T α) (n : Nat) (st : St) (k : X → St → Option α) : Option α := loopN (evCode Go.Proofs.Tryd.prog (callD Go.Proofs.Tryd.prog (envOf (holds_Total_C holds_Fit lines_Of) holds_Total_q holds_Total_inl 1000 holds_Total_ann false (holds_Total_loops holds_Fit lines_Of) (fun _ => none)) 6) (((envOf (holds_Total_C holds_Fit lines_Of) holds_Total_q holds_Total_inl 1000 holds_Total_ann false (holds_Total_loops holds_Fit lines_Of) (fun _ => none)) : Env α).L 6 34) 1000 (holds_Total_ann 34) (false :: [true, false, true, false, true, true]) (loopC Go.Proofs.Tryd.prog 34 [true, false, true, false, true, true])) ((holds_Total_ann 34 [true, false, true, false, true, true]).head 0) ((holds_Total_ann 34 [true, false, true, false, true, true]).leave 0) n st k

theorem holds_Total_l0_eq {α : Type} (holds_Fit : holds_Fit_T α) (lines_Of : lines_Of_T α) : ∀ (n : Nat) (sku4 : ByteArray) (n5 : Int) (x6 : Seq (Int × (Seq (ByteArray × Int × Unit)) × Int × Unit)) (x7 : Int) (x8 : Int) (k : X → St → Option α), holds_Total_l0_ev holds_Fit lines_Of n (encSt holds_Total_l0_t holds_Total_l0_s holds_Total_l0_h [.s sku4, .i n5, .q (.int .i64 (.sl (.str (.int .i64 (.nil))) (.int .i64 (.nil)))) x6, .i x7, .i x8]) k = holds_Total_l0_run holds_Fit lines_Of (fun y1 => k (.exit 0) (encSt [.dead, .dead, .dead, .dead, .dead, .int .i64, .dead, .dead, .dead, .dead, .dead, .dead, .dead, .dead, .dead, .dead, .dead, .dead, .dead, .dead, .dead, .dead, .dead, .dead] [] [] [.i y1])) n sku4 n5 x6 x7 x8 := by
  intro n
  induction n with
  | zero => intros; kernel_rfl
  | succ n ih =>
    intro sku4 n5 x6 x7 x8 k
    have e : (fun (sku4 : ByteArray) (n5 : Int) (x6 : Seq (Int × (Seq (ByteArray × Int × Unit)) × Int × Unit)) (x7 : Int) (x8 : Int) => holds_Total_l0_ev holds_Fit lines_Of n (encSt holds_Total_l0_t holds_Total_l0_s holds_Total_l0_h [.s sku4, .i n5, .q (.int .i64 (.sl (.str (.int .i64 (.nil))) (.int .i64 (.nil)))) x6, .i x7, .i x8]) k) = (fun (sku4 : ByteArray) (n5 : Int) (x6 : Seq (Int × (Seq (ByteArray × Int × Unit)) × Int × Unit)) (x7 : Int) (x8 : Int) => holds_Total_l0_run holds_Fit lines_Of (fun y1 => k (.exit 0) (encSt [.dead, .dead, .dead, .dead, .dead, .int .i64, .dead, .dead, .dead, .dead, .dead, .dead, .dead, .dead, .dead, .dead, .dead, .dead, .dead, .dead, .dead, .dead, .dead, .dead] [] [] [.i y1])) n sku4 n5 x6 x7 x8) := by
      funext sku4 n5 x6 x7 x8
      exact ih sku4 n5 x6 x7 x8 k
    have h1 : holds_Total_l0_ev holds_Fit lines_Of (n + 1) (encSt holds_Total_l0_t holds_Total_l0_s holds_Total_l0_h [.s sku4, .i n5, .q (.int .i64 (.sl (.str (.int .i64 (.nil))) (.int .i64 (.nil)))) x6, .i x7, .i x8]) k = holds_Total_l0_step holds_Fit lines_Of (fun y1 => k (.exit 0) (encSt [.dead, .dead, .dead, .dead, .dead, .int .i64, .dead, .dead, .dead, .dead, .dead, .dead, .dead, .dead, .dead, .dead, .dead, .dead, .dead, .dead, .dead, .dead, .dead, .dead] [] [] [.i y1])) (fun (sku4 : ByteArray) (n5 : Int) (x6 : Seq (Int × (Seq (ByteArray × Int × Unit)) × Int × Unit)) (x7 : Int) (x8 : Int) => holds_Total_l0_ev holds_Fit lines_Of n (encSt holds_Total_l0_t holds_Total_l0_s holds_Total_l0_h [.s sku4, .i n5, .q (.int .i64 (.sl (.str (.int .i64 (.nil))) (.int .i64 (.nil)))) x6, .i x7, .i x8]) k) sku4 n5 x6 x7 x8 := by kernel_rfl
    have h2 := congrArg (fun r => holds_Total_l0_step holds_Fit lines_Of (fun y1 => k (.exit 0) (encSt [.dead, .dead, .dead, .dead, .dead, .int .i64, .dead, .dead, .dead, .dead, .dead, .dead, .dead, .dead, .dead, .dead, .dead, .dead, .dead, .dead, .dead, .dead, .dead, .dead] [] [] [.i y1])) r sku4 n5 x6 x7 x8) e
    have h3 : holds_Total_l0_step holds_Fit lines_Of (fun y1 => k (.exit 0) (encSt [.dead, .dead, .dead, .dead, .dead, .int .i64, .dead, .dead, .dead, .dead, .dead, .dead, .dead, .dead, .dead, .dead, .dead, .dead, .dead, .dead, .dead, .dead, .dead, .dead] [] [] [.i y1])) (fun (sku4 : ByteArray) (n5 : Int) (x6 : Seq (Int × (Seq (ByteArray × Int × Unit)) × Int × Unit)) (x7 : Int) (x8 : Int) => holds_Total_l0_run holds_Fit lines_Of (fun y1 => k (.exit 0) (encSt [.dead, .dead, .dead, .dead, .dead, .int .i64, .dead, .dead, .dead, .dead, .dead, .dead, .dead, .dead, .dead, .dead, .dead, .dead, .dead, .dead, .dead, .dead, .dead, .dead] [] [] [.i y1])) n sku4 n5 x6 x7 x8) sku4 n5 x6 x7 x8 = holds_Total_l0_run holds_Fit lines_Of (fun y1 => k (.exit 0) (encSt [.dead, .dead, .dead, .dead, .dead, .int .i64, .dead, .dead, .dead, .dead, .dead, .dead, .dead, .dead, .dead, .dead, .dead, .dead, .dead, .dead, .dead, .dead, .dead, .dead] [] [] [.i y1])) (n + 1) sku4 n5 x6 x7 x8 := by kernel_rfl
    exact h1.trans (h2.trans h3)

theorem holds_Total_l0_ok {α : Type} (holds_Fit : holds_Fit_T α) (lines_Of : lines_Of_T α) : (holds_Total_l0_spec holds_Fit lines_Of : LoopSpec α).ok Go.Proofs.Tryd.prog (envOf (holds_Total_C holds_Fit lines_Of) holds_Total_q holds_Total_inl 1000 holds_Total_ann false (holds_Total_loops holds_Fit lines_Of) (fun _ => none)) := by
  intro ds k
  have h1 : holds_Total_l0_ev holds_Fit lines_Of 1000 (encSt holds_Total_l0_t holds_Total_l0_s holds_Total_l0_h ds) k = holds_Total_l0_ev holds_Fit lines_Of 1000 (encSt holds_Total_l0_t holds_Total_l0_s holds_Total_l0_h [.s (hdS ds), .i (hdI ds.tail), .q (.int .i64 (.sl (.str (.int .i64 (.nil))) (.int .i64 (.nil)))) (hdQ (.int .i64 (.sl (.str (.int .i64 (.nil))) (.int .i64 (.nil)))) ds.tail.tail), .i (hdI ds.tail.tail.tail), .i (hdI ds.tail.tail.tail.tail)]) k := by kernel_rfl
  have h2 := holds_Total_l0_eq holds_Fit lines_Of 1000 (hdS ds) (hdI ds.tail) (hdQ (.int .i64 (.sl (.str (.int .i64 (.nil))) (.int .i64 (.nil)))) ds.tail.tail) (hdI ds.tail.tail.tail) (hdI ds.tail.tail.tail.tail) k
  exact h1.trans h2

theorem holds_Total_ev {α : Type} (holds_Fit : holds_Fit_T α) (lines_Of : lines_Of_T α) : EvOk (α := α) Go.Proofs.Tryd.prog (envOf (holds_Total_C holds_Fit lines_Of) holds_Total_q holds_Total_inl 1000 holds_Total_ann false (holds_Total_loops holds_Fit lines_Of) (fun _ => none)) 6 (holds_Total_sp (holds_Total_g holds_Fit lines_Of)) := by intro ds k; kernel_rfl

theorem holds_Total_ok {α : Type} : (holds_Total_spec : FunSpec α).ok Go.Proofs.Tryd.prog :=
  FunSpec.ok_of (sp := holds_Total_spec) (C := holds_Total_C holds_Fit lines_Of) (q := holds_Total_q) (inl := holds_Total_inl) (N := 1000) (ann := holds_Total_ann) (fr := false) (D := 6) (l := (holds_Total_loops holds_Fit lines_Of)) (hk := (fun _ => none)) (okCons holds_Fit_ok (okCons lines_Of_ok okNil)) (lokCons (holds_Total_l0_ok holds_Fit lines_Of) lokNil) noHooks (holds_Total_ev holds_Fit lines_Of)

end
end Go.Rv.Tryd

set_option linter.unusedVariables false
set_option maxRecDepth 100000
set_option maxHeartbeats 4000000
namespace Go.Rv.Tryd
open Go Go.Rv Go.RowKit
noncomputable section

-- drayman/holds.Due

abbrev holds_Due_T (α : Type) : Type := (Seq (Int × (Seq (ByteArray × Int × Unit)) × Int × Unit)) → Int → ((Seq (Int × Unit)) → Option α) → Option α

noncomputable def holds_Due_l0_step {α : Type} (k0 : (Seq (Int × Unit)) → (Seq (Int × Unit)) → Option α) (rec : (Int) → (Seq (Int × (Seq (ByteArray × Int × Unit)) × Int × Unit)) → (Int) → (Int) → (Seq (Int × Unit)) → (Seq (Int × Unit)) → Option α) (now3 : Int) (x4 : Seq (Int × (Seq (ByteArray × Int × Unit)) × Int × Unit)) (x5 : Int) (x6 : Int) (q7 : Seq (Int × Unit)) (q8 : Seq (Int × Unit)) : Option α :=
  (cond (decide (x6 < x5))
    (cond ((decide ((0 : Int) ≤ x6)) && (decide (x6 < (x4.n : Int))))
      (cond ((x4.g x6.toNat).2.2.1 != 0)
        (cond (decide ((x4.g x6.toNat).2.2.1 ≤ now3))
          (cond (decide (((q8.n + 1)) * 8 ≤ 140737488355328))
            (rec now3 x4 x5 (IntKind.i64.wrap (x6 + 1)) q7 (⟨(q8.nl && false), (q8.n + 1), (tApp q8.n q8.g (fun _ => ((x4.g x6.toNat).1, ())))⟩ : Seq (Int × Unit)))
            none)
          (rec now3 x4 x5 (IntKind.i64.wrap (x6 + 1)) q7 q8))
        (rec now3 x4 x5 (IntKind.i64.wrap (x6 + 1)) q7 q8))
      none)
    (k0 q7 q8))

noncomputable def holds_Due_l0_run {α : Type} (k0 : (Seq (Int × Unit)) → (Seq (Int × Unit)) → Option α) : Nat → (Int) → (Seq (Int × (Seq (ByteArray × Int × Unit)) × Int × Unit)) → (Int) → (Int) → (Seq (Int × Unit)) → (Seq (Int × Unit)) → Option α
  | 0, _, _, _, _, _, _ => none
  | n + 1, now3, x4, x5, x6, q7, q8 => holds_Due_l0_step k0 (fun now3 x4 x5 x6 q7 q8 => holds_Due_l0_run k0 n now3 x4 x5 x6 q7 q8) now3 x4 x5 x6 q7 q8

noncomputable def holds_Due {α : Type} (l1 : Seq (Int × (Seq (ByteArray × Int × Unit)) × Int × Unit)) (now2 : Int) (k : (Seq (Int × Unit)) → Option α) : Option α :=
  (holds_Due_l0_run
    (fun q9 q10 =>
      (k q10))
    1000 now2 l1 (l1.n : Int) 0 (⟨true, 0, (fun _ => (0, ()))⟩ : Seq (Int × Unit)) (⟨true, 0, (fun _ => (0, ()))⟩ : Seq (Int × Unit)))

noncomputable def holds_Due_sp {α : Type} (holds_Due : holds_Due_T α) : FunSpec α := ⟨37, [.sl (.int .i64 (.sl (.str (.int .i64 (.nil))) (.int .i64 (.nil)))), .int .i64], [], fun ds k => holds_Due (hdQ (.int .i64 (.sl (.str (.int .i64 (.nil))) (.int .i64 (.nil)))) ds) (hdI ds.tail) (fun q1 => k (enc dep (.own 0) []).1 (encBs [.row true (.int .i64 (.nil))] [.q (.int .i64 (.nil)) q1]).1)⟩

noncomputable def holds_Due_spec {α : Type} : FunSpec α := holds_Due_sp holds_Due

noncomputable def holds_Due_C {α : Type} : List (FunSpec α) := []

noncomputable def holds_Due_q : FuncId → Bool := fun f => false

noncomputable def holds_Due_inl : FuncId → Bool := fun f => false

noncomputable def holds_Due_ann : FuncId → AnnT := fun f p => if f = 37 then (if p = [true, false, true, true] then ⟨[1, 5, 8, 9, 10], [0, 1], [5], [4], 0, [], [], none⟩ else ⟨[], [], [], [], 0, [], [], none⟩) else ⟨[], [], [], [], 0, [], [], none⟩

noncomputable def holds_Due_l0_t : List Sh := [.dead, .int .i64, .dead, .dead, .dead, .own 1, .dead, .dead, .sl (.int .i64 (.sl (.str (.int .i64 (.nil))) (.int .i64 (.nil)))), .int .i64, .int .i64, .dead, .dead, .dead, .dead, .dead, .dead, .dead, .dead, .dead, .dead, .dead, .dead, .dead, .dead, .dead, .dead, .dead, .dead, .dead]
noncomputable def holds_Due_l0_s : List (List Sh) := []
noncomputable def holds_Due_l0_h : List BSh := [.row true (.int .i64 (.nil)), .row true (.int .i64 (.nil))]

noncomputable def holds_Due_l0_spec {α : Type} : LoopSpec α := ⟨6, 37, [true, false, true, true], holds_Due_l0_t, holds_Due_l0_s, holds_Due_l0_h, fun ds k => holds_Due_l0_run (fun y1 y2 => k (.exit 0) (encSt [.dead, .dead, .dead, .dead, .dead, .own 1, .dead, .dead, .dead, .dead, .dead, .dead, .dead, .dead, .dead, .dead, .dead, .dead, .dead, .dead, .dead, .dead, .dead, .dead, .dead, .dead, .dead, .dead, .dead, .dead] [] [.row true (.int .i64 (.nil)), .row true (.int .i64 (.nil))] [.q (.int .i64 (.nil)) y1, .q (.int .i64 (.nil)) y2])) 1000 (hdI ds) (hdQ (.int .i64 (.sl (.str (.int .i64 (.nil))) (.int .i64 (.nil)))) ds.tail) (hdI ds.tail.tail) (hdI ds.tail.tail.tail) (hdQ (.int .i64 (.nil)) ds.tail.tail.tail.tail) (hdQ (.int .i64 (.nil)) ds.tail.tail.tail.tail.tail)⟩

noncomputable def holds_Due_loops {α : Type} : List (LoopSpec α) := [holds_Due_l0_spec]

noncomputable def holds_Due_l0_ev {α : Type} (n : Nat) (st : St) (k : X → St → Option α) : Option α := loopN (evCode Go.Proofs.Tryd.prog (callD Go.Proofs.Tryd.prog (envOf (holds_Due_C) holds_Due_q holds_Due_inl 1000 holds_Due_ann false (holds_Due_loops) (fun _ => none)) 6) (((envOf (holds_Due_C) holds_Due_q holds_Due_inl 1000 holds_Due_ann false (holds_Due_loops) (fun _ => none)) : Env α).L 6 37) 1000 (holds_Due_ann 37) (false :: [true, false, true, true]) (loopC Go.Proofs.Tryd.prog 37 [true, false, true, true])) ((holds_Due_ann 37 [true, false, true, true]).head 2) ((holds_Due_ann 37 [true, false, true, true]).leave 2) n st k

theorem holds_Due_l0_eq {α : Type} : ∀ (n : Nat) (now3 : Int) (x4 : Seq (Int × (Seq (ByteArray × Int × Unit)) × Int × Unit)) (x5 : Int) (x6 : Int) (q7 : Seq (Int × Unit)) (q8 : Seq (Int × Unit)) (k : X → St → Option α), holds_Due_l0_ev n (encSt holds_Due_l0_t holds_Due_l0_s holds_Due_l0_h [.i now3, .q (.int .i64 (.sl (.str (.int .i64 (.nil))) (.int .i64 (.nil)))) x4, .i x5, .i x6, .q (.int .i64 (.nil)) q7, .q (.int .i64 (.nil)) q8]) k = holds_Due_l0_run (fun y1 y2 => k (.exit 0) (encSt [.dead, .dead, .dead, .dead, .dead, .own 1, .dead, .dead, .dead, .dead, .dead, .dead, .dead, .dead, .dead, .dead, .dead, .dead, .dead, .dead, .dead, .dead, .dead, .dead, .dead, .dead, .dead, .dead, .dead, .dead] [] [.row true (.int .i64 (.nil)), .row true (.int .i64 (.nil))] [.q (.int .i64 (.nil)) y1, .q (.int .i64 (.nil)) y2])) n now3 x4 x5 x6 q7 q8 := by
  intro n
  induction n with
  | zero => intros; kernel_rfl
  | succ n ih =>
    intro now3 x4 x5 x6 q7 q8 k
    have e : (fun (now3 : Int) (x4 : Seq (Int × (Seq (ByteArray × Int × Unit)) × Int × Unit)) (x5 : Int) (x6 : Int) (q7 : Seq (Int × Unit)) (q8 : Seq (Int × Unit)) => holds_Due_l0_ev n (encSt holds_Due_l0_t holds_Due_l0_s holds_Due_l0_h [.i now3, .q (.int .i64 (.sl (.str (.int .i64 (.nil))) (.int .i64 (.nil)))) x4, .i x5, .i x6, .q (.int .i64 (.nil)) q7, .q (.int .i64 (.nil)) q8]) k) = (fun (now3 : Int) (x4 : Seq (Int × (Seq (ByteArray × Int × Unit)) × Int × Unit)) (x5 : Int) (x6 : Int) (q7 : Seq (Int × Unit)) (q8 : Seq (Int × Unit)) => holds_Due_l0_run (fun y1 y2 => k (.exit 0) (encSt [.dead, .dead, .dead, .dead, .dead, .own 1, .dead, .dead, .dead, .dead, .dead, .dead, .dead, .dead, .dead, .dead, .dead, .dead, .dead, .dead, .dead, .dead, .dead, .dead, .dead, .dead, .dead, .dead, .dead, .dead] [] [.row true (.int .i64 (.nil)), .row true (.int .i64 (.nil))] [.q (.int .i64 (.nil)) y1, .q (.int .i64 (.nil)) y2])) n now3 x4 x5 x6 q7 q8) := by
      funext now3 x4 x5 x6 q7 q8
      exact ih now3 x4 x5 x6 q7 q8 k
    have h1 : holds_Due_l0_ev (n + 1) (encSt holds_Due_l0_t holds_Due_l0_s holds_Due_l0_h [.i now3, .q (.int .i64 (.sl (.str (.int .i64 (.nil))) (.int .i64 (.nil)))) x4, .i x5, .i x6, .q (.int .i64 (.nil)) q7, .q (.int .i64 (.nil)) q8]) k = holds_Due_l0_step (fun y1 y2 => k (.exit 0) (encSt [.dead, .dead, .dead, .dead, .dead, .own 1, .dead, .dead, .dead, .dead, .dead, .dead, .dead, .dead, .dead, .dead, .dead, .dead, .dead, .dead, .dead, .dead, .dead, .dead, .dead, .dead, .dead, .dead, .dead, .dead] [] [.row true (.int .i64 (.nil)), .row true (.int .i64 (.nil))] [.q (.int .i64 (.nil)) y1, .q (.int .i64 (.nil)) y2])) (fun (now3 : Int) (x4 : Seq (Int × (Seq (ByteArray × Int × Unit)) × Int × Unit)) (x5 : Int) (x6 : Int) (q7 : Seq (Int × Unit)) (q8 : Seq (Int × Unit)) => holds_Due_l0_ev n (encSt holds_Due_l0_t holds_Due_l0_s holds_Due_l0_h [.i now3, .q (.int .i64 (.sl (.str (.int .i64 (.nil))) (.int .i64 (.nil)))) x4, .i x5, .i x6, .q (.int .i64 (.nil)) q7, .q (.int .i64 (.nil)) q8]) k) now3 x4 x5 x6 q7 q8 := by kernel_rfl
    have h2 := congrArg (fun r => holds_Due_l0_step (fun y1 y2 => k (.exit 0) (encSt [.dead, .dead, .dead, .dead, .dead, .own 1, .dead, .dead, .dead, .dead, .dead, .dead, .dead, .dead, .dead, .dead, .dead, .dead, .dead, .dead, .dead, .dead, .dead, .dead, .dead, .dead, .dead, .dead, .dead, .dead] [] [.row true (.int .i64 (.nil)), .row true (.int .i64 (.nil))] [.q (.int .i64 (.nil)) y1, .q (.int .i64 (.nil)) y2])) r now3 x4 x5 x6 q7 q8) e
    have h3 : holds_Due_l0_step (fun y1 y2 => k (.exit 0) (encSt [.dead, .dead, .dead, .dead, .dead, .own 1, .dead, .dead, .dead, .dead, .dead, .dead, .dead, .dead, .dead, .dead, .dead, .dead, .dead, .dead, .dead, .dead, .dead, .dead, .dead, .dead, .dead, .dead, .dead, .dead] [] [.row true (.int .i64 (.nil)), .row true (.int .i64 (.nil))] [.q (.int .i64 (.nil)) y1, .q (.int .i64 (.nil)) y2])) (fun (now3 : Int) (x4 : Seq (Int × (Seq (ByteArray × Int × Unit)) × Int × Unit)) (x5 : Int) (x6 : Int) (q7 : Seq (Int × Unit)) (q8 : Seq (Int × Unit)) => holds_Due_l0_run (fun y1 y2 => k (.exit 0) (encSt [.dead, .dead, .dead, .dead, .dead, .own 1, .dead, .dead, .dead, .dead, .dead, .dead, .dead, .dead, .dead, .dead, .dead, .dead, .dead, .dead, .dead, .dead, .dead, .dead, .dead, .dead, .dead, .dead, .dead, .dead] [] [.row true (.int .i64 (.nil)), .row true (.int .i64 (.nil))] [.q (.int .i64 (.nil)) y1, .q (.int .i64 (.nil)) y2])) n now3 x4 x5 x6 q7 q8) now3 x4 x5 x6 q7 q8 = holds_Due_l0_run (fun y1 y2 => k (.exit 0) (encSt [.dead, .dead, .dead, .dead, .dead, .own 1, .dead, .dead, .dead, .dead, .dead, .dead, .dead, .dead, .dead, .dead, .dead, .dead, .dead, .dead, .dead, .dead, .dead, .dead, .dead, .dead, .dead, .dead, .dead, .dead] [] [.row true (.int .i64 (.nil)), .row true (.int .i64 (.nil))] [.q (.int .i64 (.nil)) y1, .q (.int .i64 (.nil)) y2])) (n + 1) now3 x4 x5 x6 q7 q8 := by kernel_rfl
    exact h1.trans (h2.trans h3)

theorem holds_Due_l0_ok {α : Type} : (holds_Due_l0_spec : LoopSpec α).ok Go.Proofs.Tryd.prog (envOf (holds_Due_C) holds_Due_q holds_Due_inl 1000 holds_Due_ann false (holds_Due_loops) (fun _ => none)) := by
  intro ds k
  have h1 : holds_Due_l0_ev 1000 (encSt holds_Due_l0_t holds_Due_l0_s holds_Due_l0_h ds) k = holds_Due_l0_ev 1000 (encSt holds_Due_l0_t holds_Due_l0_s holds_Due_l0_h [.i (hdI ds), .q (.int .i64 (.sl (.str (.int .i64 (.nil))) (.int .i64 (.nil)))) (hdQ (.int .i64 (.sl (.str (.int .i64 (.nil))) (.int .i64 (.nil)))) ds.tail), .i (hdI ds.tail.tail), .i (hdI ds.tail.tail.tail), .q (.int .i64 (.nil)) (hdQ (.int .i64 (.nil)) ds.tail.tail.tail.tail), .q (.int .i64 (.nil)) (hdQ (.int .i64 (.nil)) ds.tail.tail.tail.tail.tail)]) k := by kernel_rfl
  have h2 := holds_Due_l0_eq 1000 (hdI ds) (hdQ (.int .i64 (.sl (.str (.int .i64 (.nil))) (.int .i64 (.nil)))) ds.tail) (hdI ds.tail.tail) (hdI ds.tail.tail.tail) (hdQ (.int .i64 (.nil)) ds.tail.tail.tail.tail) (hdQ (.int .i64 (.nil)) ds.tail.tail.tail.tail.tail) k
  exact h1.trans h2

theorem holds_Due_ev {α : Type} : EvOk (α := α) Go.Proofs.Tryd.prog (envOf (holds_Due_C) holds_Due_q holds_Due_inl 1000 holds_Due_ann false (holds_Due_loops) (fun _ => none)) 6 (holds_Due_sp (holds_Due)) := by intro ds k; kernel_rfl

theorem holds_Due_ok {α : Type} : (holds_Due_spec : FunSpec α).ok Go.Proofs.Tryd.prog :=
  FunSpec.ok_of (sp := holds_Due_spec) (C := holds_Due_C) (q := holds_Due_q) (inl := holds_Due_inl) (N := 1000) (ann := holds_Due_ann) (fr := false) (D := 6) (l := (holds_Due_loops)) (hk := (fun _ => none)) okNil (lokCons (holds_Due_l0_ok) lokNil) noHooks (holds_Due_ev)

end
end Go.Rv.Tryd

set_option linter.unusedVariables false
set_option maxRecDepth 100000
set_option maxHeartbeats 4000000
namespace Go.Rv.Tryd
open Go Go.Rv Go.RowKit
noncomputable section

-- drayman/draymanref01.Same

abbrev draymanref01_Same_T (α : Type) : Type := (Seq (Int × Unit)) → (Seq (Int × Unit)) → (Bool → Option α) → Option α

noncomputable def draymanref01_Same_l0_step {α : Type} (kr : (Bool) → Option α) (k0 : Option α) (rec : (Seq (Int × Unit)) → (Seq (Int × Unit)) → (Int) → Option α) (a3 : Seq (Int × Unit)) (b4 : Seq (Int × Unit)) (i5 : Int) : Option α :=
  (cond (decide (i5 < (a3.n : Int)))
    (cond (((decide ((0 : Int) ≤ i5)) && (decide (i5 < (a3.n : Int)))) && ((decide ((0 : Int) ≤ i5)) && (decide (i5 < (a3.n : Int)))))
      (cond (((decide ((0 : Int) ≤ i5)) && (decide (i5 < (b4.n : Int)))) && ((decide ((0 : Int) ≤ i5)) && (decide (i5 < (b4.n : Int)))))
        (cond ((a3.g i5.toNat).1 != (b4.g i5.toNat).1)
          (kr false)
          (rec a3 b4 (IntKind.i64.wrap (i5 + 1))))
        none)
      none)
    (k0))

noncomputable def draymanref01_Same_l0_run {α : Type} (kr : (Bool) → Option α) (k0 : Option α) : Nat → (Seq (Int × Unit)) → (Seq (Int × Unit)) → (Int) → Option α
  | 0, _, _, _ => none
  | n + 1, a3, b4, i5 => draymanref01_Same_l0_step kr k0 (fun a3 b4 i5 => draymanref01_Same_l0_run kr k0 n a3 b4 i5) a3 b4 i5

noncomputable def draymanref01_Same {α : Type} (a1 : Seq (Int × Unit)) (b2 : Seq (Int × Unit)) (k : Bool → Option α) : Option α :=
  (cond ((a1.n : Int) != (b2.n : Int))
    (k false)
    (draymanref01_Same_l0_run
      (fun x6 =>
        (k x6))
      ((k true))
      1000 a1 b2 0))

noncomputable def draymanref01_Same_sp {α : Type} (draymanref01_Same : draymanref01_Same_T α) : FunSpec α := ⟨36, [.sl (.int .i64 (.nil)), .sl (.int .i64 (.nil))], [], fun ds k => draymanref01_Same (hdQ (.int .i64 (.nil)) ds) (hdQ (.int .i64 (.nil)) ds.tail) (fun r1 => k (enc dep (.bool) [.b r1]).1 [])⟩

noncomputable def draymanref01_Same_spec {α : Type} : FunSpec α := draymanref01_Same_sp draymanref01_Same

noncomputable def draymanref01_Same_C {α : Type} : List (FunSpec α) := []

noncomputable def draymanref01_Same_q : FuncId → Bool := fun f => false

noncomputable def draymanref01_Same_inl : FuncId → Bool := fun f => false

noncomputable def draymanref01_Same_ann : FuncId → AnnT := fun f p => if f = 36 then (if p = [true, false, true, true] then ⟨[0, 1, 5], [], [], [4], 0, [], [], none⟩ else ⟨[], [], [], [], 0, [], [], none⟩) else ⟨[], [], [], [], 0, [], [], none⟩

noncomputable def draymanref01_Same_l0_t : List Sh := [.sl (.int .i64 (.nil)), .sl (.int .i64 (.nil)), .dead, .dead, .dead, .int .i64, .dead, .dead, .dead, .dead, .dead, .dead, .dead, .dead, .dead, .dead, .dead, .dead, .dead, .dead, .dead, .dead, .dead, .dead, .dead, .dead]
noncomputable def draymanref01_Same_l0_s : List (List Sh) := []
noncomputable def draymanref01_Same_l0_h : List BSh := []

noncomputable def draymanref01_Same_l0_spec {α : Type} : LoopSpec α := ⟨6, 36, [true, false, true, true], draymanref01_Same_l0_t, draymanref01_Same_l0_s, draymanref01_Same_l0_h, fun ds k => draymanref01_Same_l0_run (fun y1 => k .ret (encSt [.dead, .dead, .dead, .dead, .bool, .dead, .dead, .dead, .dead, .dead, .dead, .dead, .dead, .dead, .dead, .dead, .dead, .dead, .dead, .dead, .dead, .dead, .dead, .dead, .dead, .dead] [] [] [.b y1])) (k (.exit 0) (encSt [.dead, .dead, .dead, .dead, .dead, .dead, .dead, .dead, .dead, .dead, .dead, .dead, .dead, .dead, .dead, .dead, .dead, .dead, .dead, .dead, .dead, .dead, .dead, .dead, .dead, .dead] [] [] [])) 1000 (hdQ (.int .i64 (.nil)) ds) (hdQ (.int .i64 (.nil)) ds.tail) (hdI ds.tail.tail)⟩

noncomputable def draymanref01_Same_loops {α : Type} : List (LoopSpec α) := [draymanref01_Same_l0_spec]

noncomputable def draymanref01_Same_l0_ev {α : Type} (n : Nat) (st : St) (k : X → St → Option α) : Option α := loopN (evCode Go.Proofs.Tryd.prog (callD Go.Proofs.Tryd.prog (envOf (draymanref01_Same_C) draymanref01_Same_q draymanref01_Same_inl 1000 draymanref01_Same_ann false (draymanref01_Same_loops) (fun _ => none)) 6) (((envOf (draymanref01_Same_C) draymanref01_Same_q draymanref01_Same_inl 1000 draymanref01_Same_ann false (draymanref01_Same_loops) (fun _ => none)) : Env α).L 6 36) 1000 (draymanref01_Same_ann 36) (false :: [true, false, true, true]) (loopC Go.Proofs.Tryd.prog 36 [true, false, true, true])) ((draymanref01_Same_ann 36 [true, false, true, true]).head 0) ((draymanref01_Same_ann 36 [true, false, true, true]).leave 0) n st k

theorem draymanref01_Same_l0_eq {α : Type} : ∀ (n : Nat) (a3 : Seq (Int × Unit)) (b4 : Seq (Int × Unit)) (i5 : Int) (k : X → St → Option α), draymanref01_Same_l0_ev n (encSt draymanref01_Same_l0_t draymanref01_Same_l0_s draymanref01_Same_l0_h [.q (.int .i64 (.nil)) a3, .q (.int .i64 (.nil)) b4, .i i5]) k = draymanref01_Same_l0_run (fun y1 => k .ret (encSt [.dead, .dead, .dead, .dead, .bool, .dead, .dead, .dead, .dead, .dead, .dead, .dead, .dead, .dead, .dead, .dead, .dead, .dead, .dead, .dead, .dead, .dead, .dead, .dead, .dead, .dead] [] [] [.b y1])) (k (.exit 0) (encSt [.dead, .dead, .dead, .dead, .dead, .dead, .dead, .dead, .dead, .dead, .dead, .dead, .dead, .dead, .dead, .dead, .dead, .dead, .dead, .dead, .dead, .dead, .dead, .dead, .dead, .dead] [] [] [])) n a3 b4 i5 := by
  intro n
  induction n with
  | zero => intros; kernel_rfl
  | succ n ih =>
    intro a3 b4 i5 k
    have e : (fun (a3 : Seq (Int × Unit)) (b4 : Seq (Int × Unit)) (i5 : Int) => draymanref01_Same_l0_ev n (encSt draymanref01_Same_l0_t draymanref01_Same_l0_s draymanref01_Same_l0_h [.q (.int .i64 (.nil)) a3, .q (.int .i64 (.nil)) b4, .i i5]) k) = (fun (a3 : Seq (Int × Unit)) (b4 : Seq (Int × Unit)) (i5 : Int) => draymanref01_Same_l0_run (fun y1 => k .ret (encSt [.dead, .dead, .dead, .dead, .bool, .dead, .dead, .dead, .dead, .dead, .dead, .dead, .dead, .dead, .dead, .dead, .dead, .dead, .dead, .dead, .dead, .dead, .dead, .dead, .dead, .dead] [] [] [.b y1])) (k (.exit 0) (encSt [.dead, .dead, .dead, .dead, .dead, .dead, .dead, .dead, .dead, .dead, .dead, .dead, .dead, .dead, .dead, .dead, .dead, .dead, .dead, .dead, .dead, .dead, .dead, .dead, .dead, .dead] [] [] [])) n a3 b4 i5) := by
      funext a3 b4 i5
      exact ih a3 b4 i5 k
    have h1 : draymanref01_Same_l0_ev (n + 1) (encSt draymanref01_Same_l0_t draymanref01_Same_l0_s draymanref01_Same_l0_h [.q (.int .i64 (.nil)) a3, .q (.int .i64 (.nil)) b4, .i i5]) k = draymanref01_Same_l0_step (fun y1 => k .ret (encSt [.dead, .dead, .dead, .dead, .bool, .dead, .dead, .dead, .dead, .dead, .dead, .dead, .dead, .dead, .dead, .dead, .dead, .dead, .dead, .dead, .dead, .dead, .dead, .dead, .dead, .dead] [] [] [.b y1])) (k (.exit 0) (encSt [.dead, .dead, .dead, .dead, .dead, .dead, .dead, .dead, .dead, .dead, .dead, .dead, .dead, .dead, .dead, .dead, .dead, .dead, .dead, .dead, .dead, .dead, .dead, .dead, .dead, .dead] [] [] [])) (fun (a3 : Seq (Int × Unit)) (b4 : Seq (Int × Unit)) (i5 : Int) => draymanref01_Same_l0_ev n (encSt draymanref01_Same_l0_t draymanref01_Same_l0_s draymanref01_Same_l0_h [.q (.int .i64 (.nil)) a3, .q (.int .i64 (.nil)) b4, .i i5]) k) a3 b4 i5 := by kernel_rfl
    have h2 := congrArg (fun r => draymanref01_Same_l0_step (fun y1 => k .ret (encSt [.dead, .dead, .dead, .dead, .bool, .dead, .dead, .dead, .dead, .dead, .dead, .dead, .dead, .dead, .dead, .dead, .dead, .dead, .dead, .dead, .dead, .dead, .dead, .dead, .dead, .dead] [] [] [.b y1])) (k (.exit 0) (encSt [.dead, .dead, .dead, .dead, .dead, .dead, .dead, .dead, .dead, .dead, .dead, .dead, .dead, .dead, .dead, .dead, .dead, .dead, .dead, .dead, .dead, .dead, .dead, .dead, .dead, .dead] [] [] [])) r a3 b4 i5) e
    have h3 : draymanref01_Same_l0_step (fun y1 => k .ret (encSt [.dead, .dead, .dead, .dead, .bool, .dead, .dead, .dead, .dead, .dead, .dead, .dead, .dead, .dead, .dead, .dead, .dead, .dead, .dead, .dead, .dead, .dead, .dead, .dead, .dead, .dead] [] [] [.b y1])) (k (.exit 0) (encSt [.dead, .dead, .dead, .dead, .dead, .dead, .dead, .dead, .dead, .dead, .dead, .dead, .dead, .dead, .dead, .dead, .dead, .dead, .dead, .dead, .dead, .dead, .dead, .dead, .dead, .dead] [] [] [])) (fun (a3 : Seq (Int × Unit)) (b4 : Seq (Int × Unit)) (i5 : Int) => draymanref01_Same_l0_run (fun y1 => k .ret (encSt [.dead, .dead, .dead, .dead, .bool, .dead, .dead, .dead, .dead, .dead, .dead, .dead, .dead, .dead, .dead, .dead, .dead, .dead, .dead, .dead, .dead, .dead, .dead, .dead, .dead, .dead] [] [] [.b y1])) (k (.exit 0) (encSt [.dead, .dead, .dead, .dead, .dead, .dead, .dead, .dead, .dead, .dead, .dead, .dead, .dead, .dead, .dead, .dead, .dead, .dead, .dead, .dead, .dead, .dead, .dead, .dead, .dead, .dead] [] [] [])) n a3 b4 i5) a3 b4 i5 = draymanref01_Same_l0_run (fun y1 => k .ret (encSt [.dead, .dead, .dead, .dead, .bool, .dead, .dead, .dead, .dead, .dead, .dead, .dead, .dead, .dead, .dead, .dead, .dead, .dead, .dead, .dead, .dead, .dead, .dead, .dead, .dead, .dead] [] [] [.b y1])) (k (.exit 0) (encSt [.dead, .dead, .dead, .dead, .dead, .dead, .dead, .dead, .dead, .dead, .dead, .dead, .dead, .dead, .dead, .dead, .dead, .dead, .dead, .dead, .dead, .dead, .dead, .dead, .dead, .dead] [] [] [])) (n + 1) a3 b4 i5 := by kernel_rfl
    exact h1.trans (h2.trans h3)

theorem draymanref01_Same_l0_ok {α : Type} : (draymanref01_Same_l0_spec : LoopSpec α).ok Go.Proofs.Tryd.prog (envOf (draymanref01_Same_C) draymanref01_Same_q draymanref01_Same_inl 1000 draymanref01_Same_ann false (draymanref01_Same_loops) (fun _ => none)) := by
  intro ds k
  have h1 : draymanref01_Same_l0_ev 1000 (encSt draymanref01_Same_l0_t draymanref01_Same_l0_s draymanref01_Same_l0_h ds) k = draymanref01_Same_l0_ev 1000 (encSt draymanref01_Same_l0_t draymanref01_Same_l0_s draymanref01_Same_l0_h [.q (.int .i64 (.nil)) (hdQ (.int .i64 (.nil)) ds), .q (.int .i64 (.nil)) (hdQ (.int .i64 (.nil)) ds.tail), .i (hdI ds.tail.tail)]) k := by kernel_rfl
  have h2 := draymanref01_Same_l0_eq 1000 (hdQ (.int .i64 (.nil)) ds) (hdQ (.int .i64 (.nil)) ds.tail) (hdI ds.tail.tail) k
  exact h1.trans h2

theorem draymanref01_Same_ev {α : Type} : EvOk (α := α) Go.Proofs.Tryd.prog (envOf (draymanref01_Same_C) draymanref01_Same_q draymanref01_Same_inl 1000 draymanref01_Same_ann false (draymanref01_Same_loops) (fun _ => none)) 6 (draymanref01_Same_sp (draymanref01_Same)) := by intro ds k; kernel_rfl

theorem draymanref01_Same_ok {α : Type} : (draymanref01_Same_spec : FunSpec α).ok Go.Proofs.Tryd.prog :=
  FunSpec.ok_of (sp := draymanref01_Same_spec) (C := draymanref01_Same_C) (q := draymanref01_Same_q) (inl := draymanref01_Same_inl) (N := 1000) (ann := draymanref01_Same_ann) (fr := false) (D := 6) (l := (draymanref01_Same_loops)) (hk := (fun _ => none)) okNil (lokCons (draymanref01_Same_l0_ok) lokNil) noHooks (draymanref01_Same_ev)

end
end Go.Rv.Tryd

set_option linter.unusedVariables false
set_option maxRecDepth 100000
set_option maxHeartbeats 4000000
namespace Go.Rv.Tryd
open Go Go.Rv Go.RowKit
noncomputable section

-- drayman/draymanlaw13.awake

abbrev draymanlaw13_awake_T (α : Type) : Type := (Bool → Option α) → Option α

noncomputable def draymanlaw13_awake_g {α : Type} (holds_Put : holds_Put_T α) (holds_Total : holds_Total_T α) (holds_Due : holds_Due_T α) (draymanref01_Same : draymanref01_Same_T α) (holds_Fit : holds_Fit_T α) (k : Bool → Option α) : Option α :=
  (holds_Put (⟨true, 0, (fun _ => (0, (⟨true, 0, fun _ => (ByteArray.empty, 0, ())⟩ : Seq (ByteArray × Int × Unit)), 0, ()))⟩ : Seq (Int × (Seq (ByteArray × Int × Unit)) × Int × Unit)) (1, (⟨false, 1, (fun _ => ((⟨#[116, 101, 97]⟩ : ByteArray), 3, ()))⟩ : Seq (ByteArray × Int × Unit)), 5, ()) fun r1 r2 =>
    (holds_Put r2 (1, (⟨false, 1, (fun _ => ((⟨#[116, 101, 97]⟩ : ByteArray), 3, ()))⟩ : Seq (ByteArray × Int × Unit)), 0, ()) fun r3 r4 =>
      (cond (r1 == 0)
        (holds_Total r2 (⟨#[116, 101, 97]⟩ : ByteArray) fun r5 =>
          (cond (r5 == 3)
            (cond (r3 == 3)
              (holds_Due r2 5 fun r6 =>
                (draymanref01_Same r6 (⟨false, 1, (fun _ => (1, ()))⟩ : Seq (Int × Unit)) fun r7 =>
                  (cond r7
                    (holds_Due r2 4 fun r8 =>
                      (cond ((r8.n : Int) == 0)
                        (holds_Fit (⟨true, 0, (fun _ => (0, (⟨true, 0, fun _ => (ByteArray.empty, 0, ())⟩ : Seq (ByteArray × Int × Unit)), 0, ()))⟩ : Seq (Int × (Seq (ByteArray × Int × Unit)) × Int × Unit)) fun r9 =>
                          (k r9))
                        (k false)))
                    (k false))))
              (k false))
            (k false)))
        (k false))))

noncomputable def draymanlaw13_awake {α : Type} : draymanlaw13_awake_T α := draymanlaw13_awake_g holds_Put holds_Total holds_Due draymanref01_Same holds_Fit

noncomputable def draymanlaw13_awake_sp {α : Type} (draymanlaw13_awake : draymanlaw13_awake_T α) : FunSpec α := ⟨24, [], [], fun ds k => draymanlaw13_awake  (fun r1 => k (enc dep (.bool) [.b r1]).1 [])⟩

noncomputable def draymanlaw13_awake_spec {α : Type} : FunSpec α := draymanlaw13_awake_sp draymanlaw13_awake

noncomputable def draymanlaw13_awake_C {α : Type} (holds_Put : holds_Put_T α) (holds_Total : holds_Total_T α) (holds_Due : holds_Due_T α) (draymanref01_Same : draymanref01_Same_T α) (holds_Fit : holds_Fit_T α) : List (FunSpec α) := [holds_Put_sp holds_Put, holds_Total_sp holds_Total, holds_Due_sp holds_Due, draymanref01_Same_sp draymanref01_Same, holds_Fit_sp holds_Fit]

noncomputable def draymanlaw13_awake_q : FuncId → Bool := fun f => Nat.beq f 32 || Nat.beq f 34 || Nat.beq f 36

noncomputable def draymanlaw13_awake_inl : FuncId → Bool := fun f => false

noncomputable def draymanlaw13_awake_ann : FuncId → AnnT := fun f p => ⟨[], [], [], [], 0, [], [], none⟩

noncomputable def draymanlaw13_awake_loops {α : Type} (holds_Put : holds_Put_T α) (holds_Total : holds_Total_T α) (holds_Due : holds_Due_T α) (draymanref01_Same : draymanref01_Same_T α) (holds_Fit : holds_Fit_T α) : List (LoopSpec α) := []

theorem draymanlaw13_awake_ev {α : Type} (holds_Put : holds_Put_T α) (holds_Total : holds_Total_T α) (holds_Due : holds_Due_T α) (draymanref01_Same : draymanref01_Same_T α) (holds_Fit : holds_Fit_T α) : EvOk (α := α) Go.Proofs.Tryd.prog (envOf (draymanlaw13_awake_C holds_Put holds_Total holds_Due draymanref01_Same holds_Fit) draymanlaw13_awake_q draymanlaw13_awake_inl 1000 draymanlaw13_awake_ann false (draymanlaw13_awake_loops holds_Put holds_Total holds_Due draymanref01_Same holds_Fit) (fun _ => none)) 6 (draymanlaw13_awake_sp (draymanlaw13_awake_g holds_Put holds_Total holds_Due draymanref01_Same holds_Fit)) := by intro ds k; kernel_rfl

theorem draymanlaw13_awake_ok {α : Type} : (draymanlaw13_awake_spec : FunSpec α).ok Go.Proofs.Tryd.prog :=
  FunSpec.ok_of (sp := draymanlaw13_awake_spec) (C := draymanlaw13_awake_C holds_Put holds_Total holds_Due draymanref01_Same holds_Fit) (q := draymanlaw13_awake_q) (inl := draymanlaw13_awake_inl) (N := 1000) (ann := draymanlaw13_awake_ann) (fr := false) (D := 6) (l := (draymanlaw13_awake_loops holds_Put holds_Total holds_Due draymanref01_Same holds_Fit)) (hk := (fun _ => none)) (okCons holds_Put_ok (okCons holds_Total_ok (okCons holds_Due_ok (okCons draymanref01_Same_ok (okCons holds_Fit_ok okNil))))) lokNil noHooks (draymanlaw13_awake_ev holds_Put holds_Total holds_Due draymanref01_Same holds_Fit)

end
end Go.Rv.Tryd

set_option linter.unusedVariables false
set_option maxRecDepth 100000
set_option maxHeartbeats 4000000
namespace Go.Rv.Tryd
open Go Go.Rv Go.RowKit
noncomputable section

-- drayman/holds.Find

abbrev holds_Find_T (α : Type) : Type := (Seq (Int × (Seq (ByteArray × Int × Unit)) × Int × Unit)) → Int → ((Int × (Seq (ByteArray × Int × Unit)) × Int × Unit) → Bool → Option α) → Option α

noncomputable def holds_Find_g {α : Type} (slices_IndexFunc_api_Hold_api_Hold : slices_IndexFunc_api_Hold_api_Hold_T α) (holds_own : holds_own_T α) (l1 : Seq (Int × (Seq (ByteArray × Int × Unit)) × Int × Unit)) (saga2 : Int) (k : (Int × (Seq (ByteArray × Int × Unit)) × Int × Unit) → Bool → Option α) : Option α :=
  (slices_IndexFunc_api_Hold_api_Hold l1 saga2 fun r3 x4 =>
    (cond (decide (r3 < 0))
      (k (0, (⟨true, 0, (fun _ => (ByteArray.empty, 0, ()))⟩ : Seq (ByteArray × Int × Unit)), 0, ()) false)
      (cond ((decide ((0 : Int) ≤ r3)) && (decide (r3 < (l1.n : Int))))
        (holds_own (l1.g r3.toNat) fun r5 r6 r7 =>
          (k (r5, r7, r6, ()) true))
        none)))

noncomputable def holds_Find {α : Type} : holds_Find_T α := holds_Find_g slices_IndexFunc_api_Hold_api_Hold holds_own

noncomputable def holds_Find_sp {α : Type} (holds_Find : holds_Find_T α) : FunSpec α := ⟨30, [.sl (.int .i64 (.sl (.str (.int .i64 (.nil))) (.int .i64 (.nil)))), .int .i64], [], fun ds k => holds_Find (hdQ (.int .i64 (.sl (.str (.int .i64 (.nil))) (.int .i64 (.nil)))) ds) (hdI ds.tail) (fun r1 r2 => k (enc dep (.tup [.agg [.int .i64, .sl (.str (.int .i64 (.nil))), .int .i64], .bool]) [.i r1.1, .q (.str (.int .i64 (.nil))) r1.2.1, .i r1.2.2.1, .b r2]).1 [])⟩

noncomputable def holds_Find_spec {α : Type} : FunSpec α := holds_Find_sp holds_Find

noncomputable def holds_Find_C {α : Type} (slices_IndexFunc_api_Hold_api_Hold : slices_IndexFunc_api_Hold_api_Hold_T α) (holds_own : holds_own_T α) : List (FunSpec α) := [slices_IndexFunc_api_Hold_api_Hold_sp slices_IndexFunc_api_Hold_api_Hold, holds_own_sp holds_own]

noncomputable def holds_Find_q : FuncId → Bool := fun f => Nat.beq f 63

noncomputable def holds_Find_inl : FuncId → Bool := fun f => Nat.beq f 62

noncomputable def holds_Find_ann : FuncId → AnnT := fun f p => ⟨[], [], [], [], 0, [], [], none⟩

noncomputable def holds_Find_loops {α : Type} (slices_IndexFunc_api_Hold_api_Hold : slices_IndexFunc_api_Hold_api_Hold_T α) (holds_own : holds_own_T α) : List (LoopSpec α) := []

theorem holds_Find_ev {α : Type} (slices_IndexFunc_api_Hold_api_Hold : slices_IndexFunc_api_Hold_api_Hold_T α) (holds_own : holds_own_T α) : EvOk (α := α) Go.Proofs.Tryd.prog (envOf (holds_Find_C slices_IndexFunc_api_Hold_api_Hold holds_own) holds_Find_q holds_Find_inl 1000 holds_Find_ann true (holds_Find_loops slices_IndexFunc_api_Hold_api_Hold holds_own) (fun _ => none)) 6 (holds_Find_sp (holds_Find_g slices_IndexFunc_api_Hold_api_Hold holds_own)) := by intro ds k; kernel_rfl

theorem holds_Find_ok {α : Type} : (holds_Find_spec : FunSpec α).ok Go.Proofs.Tryd.prog :=
  FunSpec.ok_of (sp := holds_Find_spec) (C := holds_Find_C slices_IndexFunc_api_Hold_api_Hold holds_own) (q := holds_Find_q) (inl := holds_Find_inl) (N := 1000) (ann := holds_Find_ann) (fr := true) (D := 6) (l := (holds_Find_loops slices_IndexFunc_api_Hold_api_Hold holds_own)) (hk := (fun _ => none)) (okCons slices_IndexFunc_api_Hold_api_Hold_ok (okCons holds_own_ok okNil)) lokNil noHooks (holds_Find_ev slices_IndexFunc_api_Hold_api_Hold holds_own)

end
end Go.Rv.Tryd

set_option linter.unusedVariables false
set_option maxRecDepth 100000
set_option maxHeartbeats 4000000
namespace Go.Rv.Tryd
open Go Go.Rv Go.RowKit
noncomputable section

-- drayman/draymanref13.Find

abbrev draymanref13_Find_T (α : Type) : Type := (Seq (Int × (Seq (ByteArray × Int × Unit)) × Int × Unit)) → Int → ((Int × (Seq (ByteArray × Int × Unit)) × Int × Unit) → Bool → Option α) → Option α

noncomputable def draymanref13_Find_l0_step {α : Type} (kr : (Bool) → (Int × (Seq (ByteArray × Int × Unit)) × Int × Unit) → Option α) (k0 : (Int × (Seq (ByteArray × Int × Unit)) × Int × Unit) → Option α) (rec : (Seq (Int × (Seq (ByteArray × Int × Unit)) × Int × Unit)) → (Int) → (Int) → (Int × (Seq (ByteArray × Int × Unit)) × Int × Unit) → Option α) (l3 : Seq (Int × (Seq (ByteArray × Int × Unit)) × Int × Unit)) (saga4 : Int) (i5 : Int) (x6 : Int × (Seq (ByteArray × Int × Unit)) × Int × Unit) : Option α :=
  (cond (decide (i5 < (l3.n : Int)))
    (cond ((decide ((0 : Int) ≤ i5)) && (decide (i5 < (l3.n : Int))))
      (cond ((l3.g i5.toNat).1 == saga4)
        (cond ((decide ((0 : Int) ≤ i5)) && (decide (i5 < (l3.n : Int))))
          (kr true (l3.g i5.toNat))
          none)
        (rec l3 saga4 (IntKind.i64.wrap (i5 + 1)) x6))
      none)
    (k0 x6))

noncomputable def draymanref13_Find_l0_run {α : Type} (kr : (Bool) → (Int × (Seq (ByteArray × Int × Unit)) × Int × Unit) → Option α) (k0 : (Int × (Seq (ByteArray × Int × Unit)) × Int × Unit) → Option α) : Nat → (Seq (Int × (Seq (ByteArray × Int × Unit)) × Int × Unit)) → (Int) → (Int) → (Int × (Seq (ByteArray × Int × Unit)) × Int × Unit) → Option α
  | 0, _, _, _, _ => none
  | n + 1, l3, saga4, i5, x6 => draymanref13_Find_l0_step kr k0 (fun l3 saga4 i5 x6 => draymanref13_Find_l0_run kr k0 n l3 saga4 i5 x6) l3 saga4 i5 x6

noncomputable def draymanref13_Find {α : Type} (l1 : Seq (Int × (Seq (ByteArray × Int × Unit)) × Int × Unit)) (saga2 : Int) (k : (Int × (Seq (ByteArray × Int × Unit)) × Int × Unit) → Bool → Option α) : Option α :=
  (draymanref13_Find_l0_run
    (fun x7 x8 =>
      (k x8 x7))
    (fun x9 =>
      (k (0, (⟨true, 0, (fun _ => (ByteArray.empty, 0, ()))⟩ : Seq (ByteArray × Int × Unit)), 0, ()) false))
    1000 l1 saga2 0 (0, (⟨true, 0, (fun _ => (ByteArray.empty, 0, ()))⟩ : Seq (ByteArray × Int × Unit)), 0, ()))

noncomputable def draymanref13_Find_sp {α : Type} (draymanref13_Find : draymanref13_Find_T α) : FunSpec α := ⟨31, [.sl (.int .i64 (.sl (.str (.int .i64 (.nil))) (.int .i64 (.nil)))), .int .i64], [], fun ds k => draymanref13_Find (hdQ (.int .i64 (.sl (.str (.int .i64 (.nil))) (.int .i64 (.nil)))) ds) (hdI ds.tail) (fun r1 r2 => k (enc dep (.tup [.agg [.int .i64, .sl (.str (.int .i64 (.nil))), .int .i64], .bool]) [.i r1.1, .q (.str (.int .i64 (.nil))) r1.2.1, .i r1.2.2.1, .b r2]).1 [])⟩

noncomputable def draymanref13_Find_spec {α : Type} : FunSpec α := draymanref13_Find_sp draymanref13_Find

noncomputable def draymanref13_Find_C {α : Type} : List (FunSpec α) := []

noncomputable def draymanref13_Find_q : FuncId → Bool := fun f => false

noncomputable def draymanref13_Find_inl : FuncId → Bool := fun f => false

noncomputable def draymanref13_Find_ann : FuncId → AnnT := fun f p => if f = 31 then (if p = [true, false, true] then ⟨[0, 1, 4, 6], [], [4], [4, 5], 0, [], [], none⟩ else ⟨[], [], [], [], 0, [], [], none⟩) else ⟨[], [], [], [], 0, [], [], none⟩

noncomputable def draymanref13_Find_l0_t : List Sh := [.sl (.int .i64 (.sl (.str (.int .i64 (.nil))) (.int .i64 (.nil)))), .int .i64, .dead, .dead, .ref 0 0, .dead, .int .i64, .dead, .dead, .dead, .dead, .dead, .dead, .dead, .dead, .dead, .dead, .dead, .dead, .dead, .dead, .dead, .dead, .dead, .dead]
noncomputable def draymanref13_Find_l0_s : List (List Sh) := []
noncomputable def draymanref13_Find_l0_h : List BSh := [.box [.int .i64, .sl (.str (.int .i64 (.nil))), .int .i64]]

noncomputable def draymanref13_Find_l0_spec {α : Type} : LoopSpec α := ⟨6, 31, [true, false, true], draymanref13_Find_l0_t, draymanref13_Find_l0_s, draymanref13_Find_l0_h, fun ds k => draymanref13_Find_l0_run (fun y1 y2 => k .ret (encSt [.dead, .dead, .dead, .dead, .ref 0 0, .bool, .dead, .dead, .dead, .dead, .dead, .dead, .dead, .dead, .dead, .dead, .dead, .dead, .dead, .dead, .dead, .dead, .dead, .dead, .dead] [] [.box [.int .i64, .sl (.str (.int .i64 (.nil))), .int .i64]] [.b y1, .i y2.1, .q (.str (.int .i64 (.nil))) y2.2.1, .i y2.2.2.1])) (fun y1 => k (.exit 0) (encSt [.dead, .dead, .dead, .dead, .ref 0 0, .dead, .dead, .dead, .dead, .dead, .dead, .dead, .dead, .dead, .dead, .dead, .dead, .dead, .dead, .dead, .dead, .dead, .dead, .dead, .dead] [] [.box [.int .i64, .sl (.str (.int .i64 (.nil))), .int .i64]] [.i y1.1, .q (.str (.int .i64 (.nil))) y1.2.1, .i y1.2.2.1])) 1000 (hdQ (.int .i64 (.sl (.str (.int .i64 (.nil))) (.int .i64 (.nil)))) ds) (hdI ds.tail) (hdI ds.tail.tail) (hdI ds.tail.tail.tail, hdQ (.str (.int .i64 (.nil))) ds.tail.tail.tail.tail, hdI ds.tail.tail.tail.tail.tail, ())⟩

noncomputable def draymanref13_Find_loops {α : Type} : List (LoopSpec α) := [draymanref13_Find_l0_spec]

noncomputable def draymanref13_Find_l0_ev {α : Type} (n : Nat) (st : St) (k : X → St → Option α) : Option α := loopN (evCode Go.Proofs.Tryd.prog (callD Go.Proofs.Tryd.prog (envOf (draymanref13_Find_C) draymanref13_Find_q draymanref13_Find_inl 1000 draymanref13_Find_ann false (draymanref13_Find_loops) (fun _ => none)) 6) (((envOf (draymanref13_Find_C) draymanref13_Find_q draymanref13_Find_inl 1000 draymanref13_Find_ann false (draymanref13_Find_loops) (fun _ => none)) : Env α).L 6 31) 1000 (draymanref13_Find_ann 31) (false :: [true, false, true]) (loopC Go.Proofs.Tryd.prog 31 [true, false, true])) ((draymanref13_Find_ann 31 [true, false, true]).head 1) ((draymanref13_Find_ann 31 [true, false, true]).leave 1) n st k

theorem draymanref13_Find_l0_eq {α : Type} : ∀ (n : Nat) (l3 : Seq (Int × (Seq (ByteArray × Int × Unit)) × Int × Unit)) (saga4 : Int) (i5 : Int) (x6 : Int × (Seq (ByteArray × Int × Unit)) × Int × Unit) (k : X → St → Option α), draymanref13_Find_l0_ev n (encSt draymanref13_Find_l0_t draymanref13_Find_l0_s draymanref13_Find_l0_h [.q (.int .i64 (.sl (.str (.int .i64 (.nil))) (.int .i64 (.nil)))) l3, .i saga4, .i i5, .i x6.1, .q (.str (.int .i64 (.nil))) x6.2.1, .i x6.2.2.1]) k = draymanref13_Find_l0_run (fun y1 y2 => k .ret (encSt [.dead, .dead, .dead, .dead, .ref 0 0, .bool, .dead, .dead, .dead, .dead, .dead, .dead, .dead, .dead, .dead, .dead, .dead, .dead, .dead, .dead, .dead, .dead, .dead, .dead, .dead] [] [.box [.int .i64, .sl (.str (.int .i64 (.nil))), .int .i64]] [.b y1, .i y2.1, .q (.str (.int .i64 (.nil))) y2.2.1, .i y2.2.2.1])) (fun y1 => k (.exit 0) (encSt [.dead, .dead, .dead, .dead, .ref 0 0, .dead, .dead, .dead, .dead, .dead, .dead, .dead, .dead, .dead, .dead, .dead, .dead, .dead, .dead, .dead, .dead, .dead, .dead, .dead, .dead] [] [.box [.int .i64, .sl (.str (.int .i64 (.nil))), .int .i64]] [.i y1.1, .q (.str (.int .i64 (.nil))) y1.2.1, .i y1.2.2.1])) n l3 saga4 i5 x6 := by
  intro n
  induction n with
  | zero => intros; kernel_rfl
  | succ n ih =>
    intro l3 saga4 i5 x6 k
    have e : (fun (l3 : Seq (Int × (Seq (ByteArray × Int × Unit)) × Int × Unit)) (saga4 : Int) (i5 : Int) (x6 : Int × (Seq (ByteArray × Int × Unit)) × Int × Unit) => draymanref13_Find_l0_ev n (encSt draymanref13_Find_l0_t draymanref13_Find_l0_s draymanref13_Find_l0_h [.q (.int .i64 (.sl (.str (.int .i64 (.nil))) (.int .i64 (.nil)))) l3, .i saga4, .i i5, .i x6.1, .q (.str (.int .i64 (.nil))) x6.2.1, .i x6.2.2.1]) k) = (fun (l3 : Seq (Int × (Seq (ByteArray × Int × Unit)) × Int × Unit)) (saga4 : Int) (i5 : Int) (x6 : Int × (Seq (ByteArray × Int × Unit)) × Int × Unit) => draymanref13_Find_l0_run (fun y1 y2 => k .ret (encSt [.dead, .dead, .dead, .dead, .ref 0 0, .bool, .dead, .dead, .dead, .dead, .dead, .dead, .dead, .dead, .dead, .dead, .dead, .dead, .dead, .dead, .dead, .dead, .dead, .dead, .dead] [] [.box [.int .i64, .sl (.str (.int .i64 (.nil))), .int .i64]] [.b y1, .i y2.1, .q (.str (.int .i64 (.nil))) y2.2.1, .i y2.2.2.1])) (fun y1 => k (.exit 0) (encSt [.dead, .dead, .dead, .dead, .ref 0 0, .dead, .dead, .dead, .dead, .dead, .dead, .dead, .dead, .dead, .dead, .dead, .dead, .dead, .dead, .dead, .dead, .dead, .dead, .dead, .dead] [] [.box [.int .i64, .sl (.str (.int .i64 (.nil))), .int .i64]] [.i y1.1, .q (.str (.int .i64 (.nil))) y1.2.1, .i y1.2.2.1])) n l3 saga4 i5 x6) := by
      funext l3 saga4 i5 x6
      exact ih l3 saga4 i5 x6 k
    have h1 : draymanref13_Find_l0_ev (n + 1) (encSt draymanref13_Find_l0_t draymanref13_Find_l0_s draymanref13_Find_l0_h [.q (.int .i64 (.sl (.str (.int .i64 (.nil))) (.int .i64 (.nil)))) l3, .i saga4, .i i5, .i x6.1, .q (.str (.int .i64 (.nil))) x6.2.1, .i x6.2.2.1]) k = draymanref13_Find_l0_step (fun y1 y2 => k .ret (encSt [.dead, .dead, .dead, .dead, .ref 0 0, .bool, .dead, .dead, .dead, .dead, .dead, .dead, .dead, .dead, .dead, .dead, .dead, .dead, .dead, .dead, .dead, .dead, .dead, .dead, .dead] [] [.box [.int .i64, .sl (.str (.int .i64 (.nil))), .int .i64]] [.b y1, .i y2.1, .q (.str (.int .i64 (.nil))) y2.2.1, .i y2.2.2.1])) (fun y1 => k (.exit 0) (encSt [.dead, .dead, .dead, .dead, .ref 0 0, .dead, .dead, .dead, .dead, .dead, .dead, .dead, .dead, .dead, .dead, .dead, .dead, .dead, .dead, .dead, .dead, .dead, .dead, .dead, .dead] [] [.box [.int .i64, .sl (.str (.int .i64 (.nil))), .int .i64]] [.i y1.1, .q (.str (.int .i64 (.nil))) y1.2.1, .i y1.2.2.1])) (fun (l3 : Seq (Int × (Seq (ByteArray × Int × Unit)) × Int × Unit)) (saga4 : Int) (i5 : Int) (x6 : Int × (Seq (ByteArray × Int × Unit)) × Int × Unit) => draymanref13_Find_l0_ev n (encSt draymanref13_Find_l0_t draymanref13_Find_l0_s draymanref13_Find_l0_h [.q (.int .i64 (.sl (.str (.int .i64 (.nil))) (.int .i64 (.nil)))) l3, .i saga4, .i i5, .i x6.1, .q (.str (.int .i64 (.nil))) x6.2.1, .i x6.2.2.1]) k) l3 saga4 i5 x6 := by kernel_rfl
    have h2 := congrArg (fun r => draymanref13_Find_l0_step (fun y1 y2 => k .ret (encSt [.dead, .dead, .dead, .dead, .ref 0 0, .bool, .dead, .dead, .dead, .dead, .dead, .dead, .dead, .dead, .dead, .dead, .dead, .dead, .dead, .dead, .dead, .dead, .dead, .dead, .dead] [] [.box [.int .i64, .sl (.str (.int .i64 (.nil))), .int .i64]] [.b y1, .i y2.1, .q (.str (.int .i64 (.nil))) y2.2.1, .i y2.2.2.1])) (fun y1 => k (.exit 0) (encSt [.dead, .dead, .dead, .dead, .ref 0 0, .dead, .dead, .dead, .dead, .dead, .dead, .dead, .dead, .dead, .dead, .dead, .dead, .dead, .dead, .dead, .dead, .dead, .dead, .dead, .dead] [] [.box [.int .i64, .sl (.str (.int .i64 (.nil))), .int .i64]] [.i y1.1, .q (.str (.int .i64 (.nil))) y1.2.1, .i y1.2.2.1])) r l3 saga4 i5 x6) e
    have h3 : draymanref13_Find_l0_step (fun y1 y2 => k .ret (encSt [.dead, .dead, .dead, .dead, .ref 0 0, .bool, .dead, .dead, .dead, .dead, .dead, .dead, .dead, .dead, .dead, .dead, .dead, .dead, .dead, .dead, .dead, .dead, .dead, .dead, .dead] [] [.box [.int .i64, .sl (.str (.int .i64 (.nil))), .int .i64]] [.b y1, .i y2.1, .q (.str (.int .i64 (.nil))) y2.2.1, .i y2.2.2.1])) (fun y1 => k (.exit 0) (encSt [.dead, .dead, .dead, .dead, .ref 0 0, .dead, .dead, .dead, .dead, .dead, .dead, .dead, .dead, .dead, .dead, .dead, .dead, .dead, .dead, .dead, .dead, .dead, .dead, .dead, .dead] [] [.box [.int .i64, .sl (.str (.int .i64 (.nil))), .int .i64]] [.i y1.1, .q (.str (.int .i64 (.nil))) y1.2.1, .i y1.2.2.1])) (fun (l3 : Seq (Int × (Seq (ByteArray × Int × Unit)) × Int × Unit)) (saga4 : Int) (i5 : Int) (x6 : Int × (Seq (ByteArray × Int × Unit)) × Int × Unit) => draymanref13_Find_l0_run (fun y1 y2 => k .ret (encSt [.dead, .dead, .dead, .dead, .ref 0 0, .bool, .dead, .dead, .dead, .dead, .dead, .dead, .dead, .dead, .dead, .dead, .dead, .dead, .dead, .dead, .dead, .dead, .dead, .dead, .dead] [] [.box [.int .i64, .sl (.str (.int .i64 (.nil))), .int .i64]] [.b y1, .i y2.1, .q (.str (.int .i64 (.nil))) y2.2.1, .i y2.2.2.1])) (fun y1 => k (.exit 0) (encSt [.dead, .dead, .dead, .dead, .ref 0 0, .dead, .dead, .dead, .dead, .dead, .dead, .dead, .dead, .dead, .dead, .dead, .dead, .dead, .dead, .dead, .dead, .dead, .dead, .dead, .dead] [] [.box [.int .i64, .sl (.str (.int .i64 (.nil))), .int .i64]] [.i y1.1, .q (.str (.int .i64 (.nil))) y1.2.1, .i y1.2.2.1])) n l3 saga4 i5 x6) l3 saga4 i5 x6 = draymanref13_Find_l0_run (fun y1 y2 => k .ret (encSt [.dead, .dead, .dead, .dead, .ref 0 0, .bool, .dead, .dead, .dead, .dead, .dead, .dead, .dead, .dead, .dead, .dead, .dead, .dead, .dead, .dead, .dead, .dead, .dead, .dead, .dead] [] [.box [.int .i64, .sl (.str (.int .i64 (.nil))), .int .i64]] [.b y1, .i y2.1, .q (.str (.int .i64 (.nil))) y2.2.1, .i y2.2.2.1])) (fun y1 => k (.exit 0) (encSt [.dead, .dead, .dead, .dead, .ref 0 0, .dead, .dead, .dead, .dead, .dead, .dead, .dead, .dead, .dead, .dead, .dead, .dead, .dead, .dead, .dead, .dead, .dead, .dead, .dead, .dead] [] [.box [.int .i64, .sl (.str (.int .i64 (.nil))), .int .i64]] [.i y1.1, .q (.str (.int .i64 (.nil))) y1.2.1, .i y1.2.2.1])) (n + 1) l3 saga4 i5 x6 := by kernel_rfl
    exact h1.trans (h2.trans h3)

theorem draymanref13_Find_l0_ok {α : Type} : (draymanref13_Find_l0_spec : LoopSpec α).ok Go.Proofs.Tryd.prog (envOf (draymanref13_Find_C) draymanref13_Find_q draymanref13_Find_inl 1000 draymanref13_Find_ann false (draymanref13_Find_loops) (fun _ => none)) := by
  intro ds k
  have h1 : draymanref13_Find_l0_ev 1000 (encSt draymanref13_Find_l0_t draymanref13_Find_l0_s draymanref13_Find_l0_h ds) k = draymanref13_Find_l0_ev 1000 (encSt draymanref13_Find_l0_t draymanref13_Find_l0_s draymanref13_Find_l0_h [.q (.int .i64 (.sl (.str (.int .i64 (.nil))) (.int .i64 (.nil)))) (hdQ (.int .i64 (.sl (.str (.int .i64 (.nil))) (.int .i64 (.nil)))) ds), .i (hdI ds.tail), .i (hdI ds.tail.tail), .i ((hdI ds.tail.tail.tail, hdQ (.str (.int .i64 (.nil))) ds.tail.tail.tail.tail, hdI ds.tail.tail.tail.tail.tail, ()).1), .q (.str (.int .i64 (.nil))) ((hdI ds.tail.tail.tail, hdQ (.str (.int .i64 (.nil))) ds.tail.tail.tail.tail, hdI ds.tail.tail.tail.tail.tail, ()).2.1), .i ((hdI ds.tail.tail.tail, hdQ (.str (.int .i64 (.nil))) ds.tail.tail.tail.tail, hdI ds.tail.tail.tail.tail.tail, ()).2.2.1)]) k := by kernel_rfl
  have h2 := draymanref13_Find_l0_eq 1000 (hdQ (.int .i64 (.sl (.str (.int .i64 (.nil))) (.int .i64 (.nil)))) ds) (hdI ds.tail) (hdI ds.tail.tail) (hdI ds.tail.tail.tail, hdQ (.str (.int .i64 (.nil))) ds.tail.tail.tail.tail, hdI ds.tail.tail.tail.tail.tail, ()) k
  exact h1.trans h2

theorem draymanref13_Find_ev {α : Type} : EvOk (α := α) Go.Proofs.Tryd.prog (envOf (draymanref13_Find_C) draymanref13_Find_q draymanref13_Find_inl 1000 draymanref13_Find_ann false (draymanref13_Find_loops) (fun _ => none)) 6 (draymanref13_Find_sp (draymanref13_Find)) := by intro ds k; kernel_rfl

theorem draymanref13_Find_ok {α : Type} : (draymanref13_Find_spec : FunSpec α).ok Go.Proofs.Tryd.prog :=
  FunSpec.ok_of (sp := draymanref13_Find_spec) (C := draymanref13_Find_C) (q := draymanref13_Find_q) (inl := draymanref13_Find_inl) (N := 1000) (ann := draymanref13_Find_ann) (fr := false) (D := 6) (l := (draymanref13_Find_loops)) (hk := (fun _ => none)) okNil (lokCons (draymanref13_Find_l0_ok) lokNil) noHooks (draymanref13_Find_ev)

end
end Go.Rv.Tryd

set_option linter.unusedVariables false
set_option maxRecDepth 100000
set_option maxHeartbeats 4000000
namespace Go.Rv.Tryd
open Go Go.Rv Go.RowKit
noncomputable section

-- drayman/draymanref02.more

abbrev draymanref02_more_T (α : Type) : Type := ByteArray → Int → (Int → Option α) → Option α

noncomputable def draymanref02_more {α : Type} (s1 : ByteArray) (x2 : Int) (k : Int → Option α) : Option α :=
  (cond (!(decide (x2 ≥ (s1.size : Int))))
    (cond ((decide ((0 : Int) ≤ x2)) && (decide (x2 < (s1.size : Int))))
      (cond (!(decide ((byteAt s1 x2) < 128)))
        (cond ((decide ((0 : Int) ≤ x2)) && (decide (x2 < (s1.size : Int))))
          (cond (decide ((byteAt s1 x2) > 191))
            (k (-1))
            (cond ((decide ((0 : Int) ≤ x2)) && (decide (x2 < (s1.size : Int))))
              (k (IntKind.i64.wrap ((IntKind.i64.wrap (byteAt s1 x2)) - 128)))
              none))
          none)
        (k (-1)))
      none)
    (k (-1)))

noncomputable def draymanref02_more_sp {α : Type} (draymanref02_more : draymanref02_more_T α) : FunSpec α := ⟨132, [.str, .int .i64], [], fun ds k => draymanref02_more (hdS ds) (hdI ds.tail) (fun r1 => k (enc dep (.int .i64) [.i r1]).1 [])⟩

noncomputable def draymanref02_more_spec {α : Type} : FunSpec α := draymanref02_more_sp draymanref02_more

noncomputable def draymanref02_more_C {α : Type} : List (FunSpec α) := []

noncomputable def draymanref02_more_q : FuncId → Bool := fun f => false

noncomputable def draymanref02_more_inl : FuncId → Bool := fun f => false

noncomputable def draymanref02_more_ann : FuncId → AnnT := fun f p => ⟨[], [], [], [], 0, [], [], none⟩

noncomputable def draymanref02_more_loops {α : Type} : List (LoopSpec α) := []

theorem draymanref02_more_ev {α : Type} : EvOk (α := α) Go.Proofs.Tryd.prog (envOf (draymanref02_more_C) draymanref02_more_q draymanref02_more_inl 1000 draymanref02_more_ann false (draymanref02_more_loops) (fun _ => none)) 6 (draymanref02_more_sp (draymanref02_more)) := by intro ds k; kernel_rfl

theorem draymanref02_more_ok {α : Type} : (draymanref02_more_spec : FunSpec α).ok Go.Proofs.Tryd.prog :=
  FunSpec.ok_of (sp := draymanref02_more_spec) (C := draymanref02_more_C) (q := draymanref02_more_q) (inl := draymanref02_more_inl) (N := 1000) (ann := draymanref02_more_ann) (fr := false) (D := 6) (l := (draymanref02_more_loops)) (hk := (fun _ => none)) okNil lokNil noHooks (draymanref02_more_ev)

end
end Go.Rv.Tryd

set_option linter.unusedVariables false
set_option maxRecDepth 100000
set_option maxHeartbeats 4000000
namespace Go.Rv.Tryd
open Go Go.Rv Go.RowKit
noncomputable section

-- drayman/draymanref02.One

abbrev draymanref02_One_T (α : Type) : Type := ByteArray → Int → (Int → Int → Option α) → Option α

noncomputable def draymanref02_One_g {α : Type} (draymanref02_more : draymanref02_more_T α) (x1 : ByteArray) (x2 : Int) (k : Int → Int → Option α) : Option α :=
  (cond ((decide ((0 : Int) ≤ x2)) && (decide (x2 < (x1.size : Int))))
    (draymanref02_more x1 (IntKind.i64.wrap (x2 + 1)) fun r3 =>
      (draymanref02_more x1 (IntKind.i64.wrap (x2 + 2)) fun r4 =>
        (draymanref02_more x1 (IntKind.i64.wrap (x2 + 3)) fun r5 =>
          (cond (decide ((IntKind.i64.wrap (byteAt x1 x2)) < 128))
            (k (IntKind.i64.wrap (byteAt x1 x2)) 1)
            (joinD
              (fun ds => (fun (x6 : Int) (x7 : Int) (x8 : Int) (x9 : Int) (x10 : Bool) =>
                (cond x10
                  (k (IntKind.i64.wrap ((IntKind.i64.wrap ((IntKind.i64.wrap (x6 - 192)) * 64)) + x7)) 2)
                  (joinD
                    (fun ds => (fun (x12 : Int) (x13 : Int) (x14 : Int) (x15 : Int) (x16 : Bool) =>
                      (cond x16
                        (cond (decide ((IntKind.i64.wrap ((IntKind.i64.wrap ((IntKind.i64.wrap ((IntKind.i64.wrap (x12 - 224)) * 4096)) + (IntKind.i64.wrap (x13 * 64)))) + x14)) ≥ 2048))
                          (cond (!(decide ((IntKind.i64.wrap ((IntKind.i64.wrap ((IntKind.i64.wrap ((IntKind.i64.wrap (x12 - 224)) * 4096)) + (IntKind.i64.wrap (x13 * 64)))) + x14)) < 55296)))
                            (cond (decide ((IntKind.i64.wrap ((IntKind.i64.wrap ((IntKind.i64.wrap ((IntKind.i64.wrap (x12 - 224)) * 4096)) + (IntKind.i64.wrap (x13 * 64)))) + x14)) > 57343))
                              (k (IntKind.i64.wrap ((IntKind.i64.wrap ((IntKind.i64.wrap ((IntKind.i64.wrap (x12 - 224)) * 4096)) + (IntKind.i64.wrap (x13 * 64)))) + x14)) 3)
                              (k 0 0))
                            (k (IntKind.i64.wrap ((IntKind.i64.wrap ((IntKind.i64.wrap ((IntKind.i64.wrap (x12 - 224)) * 4096)) + (IntKind.i64.wrap (x13 * 64)))) + x14)) 3))
                          (k 0 0))
                        (joinD
                          (fun ds => (fun (x18 : Int) (x19 : Int) (x20 : Int) (x21 : Int) (x22 : Bool) =>
                            (cond x22
                              (cond (decide ((IntKind.i64.wrap ((IntKind.i64.wrap ((IntKind.i64.wrap ((IntKind.i64.wrap ((IntKind.i64.wrap (x18 - 240)) * 262144)) + (IntKind.i64.wrap (x19 * 4096)))) + (IntKind.i64.wrap (x20 * 64)))) + x21)) ≥ 65536))
                                (cond (decide ((IntKind.i64.wrap ((IntKind.i64.wrap ((IntKind.i64.wrap ((IntKind.i64.wrap ((IntKind.i64.wrap (x18 - 240)) * 262144)) + (IntKind.i64.wrap (x19 * 4096)))) + (IntKind.i64.wrap (x20 * 64)))) + x21)) ≤ 1114111))
                                  (k (IntKind.i64.wrap ((IntKind.i64.wrap ((IntKind.i64.wrap ((IntKind.i64.wrap ((IntKind.i64.wrap (x18 - 240)) * 262144)) + (IntKind.i64.wrap (x19 * 4096)))) + (IntKind.i64.wrap (x20 * 64)))) + x21)) 4)
                                  (k 0 0))
                                (k 0 0))
                              (k 0 0)))
                            (hdI ds) (hdI ds.tail) (hdI ds.tail.tail) (hdI ds.tail.tail.tail) (hdB ds.tail.tail.tail.tail))
                          (fun j23 =>
                            (cond (decide (x12 ≥ 240))
                              (cond (decide (x12 ≤ 244))
                                (cond (decide (x13 ≥ 0))
                                  (cond (decide (x14 ≥ 0))
                                    (j23 [.i x12, .i x13, .i x14, .i x15, .b (decide (x15 ≥ 0))])
                                    (j23 [.i x12, .i x13, .i x14, .i x15, .b false]))
                                  (j23 [.i x12, .i x13, .i x14, .i x15, .b false]))
                                (j23 [.i x12, .i x13, .i x14, .i x15, .b false]))
                              (j23 [.i x12, .i x13, .i x14, .i x15, .b false]))))))
                      (hdI ds) (hdI ds.tail) (hdI ds.tail.tail) (hdI ds.tail.tail.tail) (hdB ds.tail.tail.tail.tail))
                    (fun j17 =>
                      (cond (decide (x6 ≥ 224))
                        (cond (decide (x6 ≤ 239))
                          (cond (decide (x7 ≥ 0))
                            (j17 [.i x6, .i x7, .i x8, .i x9, .b (decide (x8 ≥ 0))])
                            (j17 [.i x6, .i x7, .i x8, .i x9, .b false]))
                          (j17 [.i x6, .i x7, .i x8, .i x9, .b false]))
                        (j17 [.i x6, .i x7, .i x8, .i x9, .b false]))))))
                (hdI ds) (hdI ds.tail) (hdI ds.tail.tail) (hdI ds.tail.tail.tail) (hdB ds.tail.tail.tail.tail))
              (fun j11 =>
                (cond (decide ((IntKind.i64.wrap (byteAt x1 x2)) ≥ 194))
                  (cond (decide ((IntKind.i64.wrap (byteAt x1 x2)) ≤ 223))
                    (j11 [.i (IntKind.i64.wrap (byteAt x1 x2)), .i r3, .i r4, .i r5, .b (decide (r3 ≥ 0))])
                    (j11 [.i (IntKind.i64.wrap (byteAt x1 x2)), .i r3, .i r4, .i r5, .b false]))
                  (j11 [.i (IntKind.i64.wrap (byteAt x1 x2)), .i r3, .i r4, .i r5, .b false]))))))))
    none)

noncomputable def draymanref02_One {α : Type} : draymanref02_One_T α := draymanref02_One_g draymanref02_more

noncomputable def draymanref02_One_sp {α : Type} (draymanref02_One : draymanref02_One_T α) : FunSpec α := ⟨118, [.str, .int .i64], [], fun ds k => draymanref02_One (hdS ds) (hdI ds.tail) (fun r1 r2 => k (enc dep (.tup [.int .i64, .int .i64]) [.i r1, .i r2]).1 [])⟩

noncomputable def draymanref02_One_spec {α : Type} : FunSpec α := draymanref02_One_sp draymanref02_One

noncomputable def draymanref02_One_C {α : Type} (draymanref02_more : draymanref02_more_T α) : List (FunSpec α) := [draymanref02_more_sp draymanref02_more]

noncomputable def draymanref02_One_q : FuncId → Bool := fun f => Nat.beq f 132

noncomputable def draymanref02_One_inl : FuncId → Bool := fun f => false

noncomputable def draymanref02_One_ann : FuncId → AnnT := fun f p => if f = 118 then (if p = [true, true, false, true, true, true] then ⟨[6, 7, 8, 9, 32], [], [], [], 0, [], [], some ([.dead, .dead, .dead, .dead, .dead, .dead, .int .i64, .int .i64, .int .i64, .int .i64, .dead, .dead, .dead, .dead, .dead, .dead, .dead, .dead, .dead, .dead, .dead, .dead, .dead, .dead, .dead, .dead, .dead, .dead, .dead, .dead, .dead, .dead, .bool, .dead, .dead, .dead, .dead, .dead, .dead, .dead, .dead, .dead, .dead, .dead, .dead, .dead, .dead, .dead, .dead, .dead, .dead, .dead, .dead, .dead, .dead, .dead, .dead, .dead, .dead, .dead, .dead, .dead, .dead, .dead, .dead, .dead, .dead, .dead, .dead, .dead, .dead, .dead, .dead, .dead, .dead, .dead, .dead, .dead, .dead, .dead, .dead, .dead, .dead, .dead, .dead, .dead, .dead, .dead, .dead, .dead, .dead, .dead, .dead, .dead, .dead, .dead, .dead, .dead, .dead, .dead, .dead, .dead, .dead, .dead, .dead, .dead, .dead, .dead, .dead, .dead, .dead, .dead, .dead, .dead, .dead, .dead, .dead, .dead, .dead], [], [])⟩ else if p = [true, true, true, true, false, true, true, true] then ⟨[6, 7, 8, 9, 48], [], [], [], 0, [], [], some ([.dead, .dead, .dead, .dead, .dead, .dead, .int .i64, .int .i64, .int .i64, .int .i64, .dead, .dead, .dead, .dead, .dead, .dead, .dead, .dead, .dead, .dead, .dead, .dead, .dead, .dead, .dead, .dead, .dead, .dead, .dead, .dead, .dead, .dead, .dead, .dead, .dead, .dead, .dead, .dead, .dead, .dead, .dead, .dead, .dead, .dead, .dead, .dead, .dead, .dead, .bool, .dead, .dead, .dead, .dead, .dead, .dead, .dead, .dead, .dead, .dead, .dead, .dead, .dead, .dead, .dead, .dead, .dead, .dead, .dead, .dead, .dead, .dead, .dead, .dead, .dead, .dead, .dead, .dead, .dead, .dead, .dead, .dead, .dead, .dead, .dead, .dead, .dead, .dead, .dead, .dead, .dead, .dead, .dead, .dead, .dead, .dead, .dead, .dead, .dead, .dead, .dead, .dead, .dead, .dead, .dead, .dead, .dead, .dead, .dead, .dead, .dead, .dead, .dead, .dead, .dead, .dead, .dead, .dead, .dead, .dead], [], [])⟩ else if p = [true, true, true, true, true, true, false, true, true, true] then ⟨[6, 7, 8, 9, 82], [], [], [], 0, [], [], some ([.dead, .dead, .dead, .dead, .dead, .dead, .int .i64, .int .i64, .int .i64, .int .i64, .dead, .dead, .dead, .dead, .dead, .dead, .dead, .dead, .dead, .dead, .dead, .dead, .dead, .dead, .dead, .dead, .dead, .dead, .dead, .dead, .dead, .dead, .dead, .dead, .dead, .dead, .dead, .dead, .dead, .dead, .dead, .dead, .dead, .dead, .dead, .dead, .dead, .dead, .dead, .dead, .dead, .dead, .dead, .dead, .dead, .dead, .dead, .dead, .dead, .dead, .dead, .dead, .dead, .dead, .dead, .dead, .dead, .dead, .dead, .dead, .dead, .dead, .dead, .dead, .dead, .dead, .dead, .dead, .dead, .dead, .dead, .dead, .bool, .dead, .dead, .dead, .dead, .dead, .dead, .dead, .dead, .dead, .dead, .dead, .dead, .dead, .dead, .dead, .dead, .dead, .dead, .dead, .dead, .dead, .dead, .dead, .dead, .dead, .dead, .dead, .dead, .dead, .dead, .dead, .dead, .dead, .dead, .dead, .dead], [], [])⟩ else ⟨[], [], [], [], 0, [], [], none⟩) else ⟨[], [], [], [], 0, [], [], none⟩

noncomputable def draymanref02_One_loops {α : Type} (draymanref02_more : draymanref02_more_T α) : List (LoopSpec α) := []

theorem draymanref02_One_ev {α : Type} (draymanref02_more : draymanref02_more_T α) : EvOk (α := α) Go.Proofs.Tryd.prog (envOf (draymanref02_One_C draymanref02_more) draymanref02_One_q draymanref02_One_inl 1000 draymanref02_One_ann false (draymanref02_One_loops draymanref02_more) (fun _ => none)) 6 (draymanref02_One_sp (draymanref02_One_g draymanref02_more)) := by intro ds k; kernel_rfl

theorem draymanref02_One_ok {α : Type} : (draymanref02_One_spec : FunSpec α).ok Go.Proofs.Tryd.prog :=
  FunSpec.ok_of (sp := draymanref02_One_spec) (C := draymanref02_One_C draymanref02_more) (q := draymanref02_One_q) (inl := draymanref02_One_inl) (N := 1000) (ann := draymanref02_One_ann) (fr := false) (D := 6) (l := (draymanref02_One_loops draymanref02_more)) (hk := (fun _ => none)) (okCons draymanref02_more_ok okNil) lokNil noHooks (draymanref02_One_ev draymanref02_more)

end
end Go.Rv.Tryd

set_option linter.unusedVariables false
set_option maxRecDepth 100000
set_option maxHeartbeats 4000000
namespace Go.Rv.Tryd
open Go Go.Rv Go.RowKit
noncomputable section

-- drayman/draymanref02.Runes

abbrev draymanref02_Runes_T (α : Type) : Type := ByteArray → ((Seq (Int × Unit)) → Bool → Option α) → Option α

noncomputable def draymanref02_Runes_l0_step {α : Type} (draymanref02_One : draymanref02_One_T α) (kr : (Seq (Int × Unit)) → (Bool) → (Seq (Int × Unit)) → (Seq (Int × Unit)) → Option α) (k0 : (Seq (Int × Unit)) → (Seq (Int × Unit)) → Option α) (rec : (ByteArray) → (Int) → (Seq (Int × Unit)) → (Seq (Int × Unit)) → Option α) (s2 : ByteArray) (i3 : Int) (q4 : Seq (Int × Unit)) (q5 : Seq (Int × Unit)) : Option α :=
  (cond (decide (i3 < (s2.size : Int)))
    (draymanref02_One s2 i3 fun r6 r7 =>
      (cond (r7 == 0)
        (kr (⟨true, 0, (fun _ => (0, ()))⟩ : Seq (Int × Unit)) false q4 q5)
        (cond (decide (((q5.n + 1)) * 8 ≤ 140737488355328))
          (rec s2 (IntKind.i64.wrap (i3 + r7)) q4 (⟨(q5.nl && false), (q5.n + 1), (tApp q5.n q5.g (fun _ => (r6, ())))⟩ : Seq (Int × Unit)))
          none)))
    (k0 q4 q5))

noncomputable def draymanref02_Runes_l0_run {α : Type} (draymanref02_One : draymanref02_One_T α) (kr : (Seq (Int × Unit)) → (Bool) → (Seq (Int × Unit)) → (Seq (Int × Unit)) → Option α) (k0 : (Seq (Int × Unit)) → (Seq (Int × Unit)) → Option α) : Nat → (ByteArray) → (Int) → (Seq (Int × Unit)) → (Seq (Int × Unit)) → Option α
  | 0, _, _, _, _ => none
  | n + 1, s2, i3, q4, q5 => draymanref02_Runes_l0_step draymanref02_One kr k0 (fun s2 i3 q4 q5 => draymanref02_Runes_l0_run draymanref02_One kr k0 n s2 i3 q4 q5) s2 i3 q4 q5

noncomputable def draymanref02_Runes_g {α : Type} (draymanref02_One : draymanref02_One_T α) (s1 : ByteArray) (k : (Seq (Int × Unit)) → Bool → Option α) : Option α :=
  (draymanref02_Runes_l0_run draymanref02_One
    (fun x8 x9 q10 q11 =>
      (k x8 x9))
    (fun q12 q13 =>
      (k q13 true))
    1000 s1 0 (⟨true, 0, (fun _ => (0, ()))⟩ : Seq (Int × Unit)) (⟨true, 0, (fun _ => (0, ()))⟩ : Seq (Int × Unit)))

noncomputable def draymanref02_Runes {α : Type} : draymanref02_Runes_T α := draymanref02_Runes_g draymanref02_One

noncomputable def draymanref02_Runes_sp {α : Type} (draymanref02_Runes : draymanref02_Runes_T α) : FunSpec α := ⟨93, [.str], [], fun ds k => draymanref02_Runes (hdS ds) (fun r1 r2 => k (enc dep (.tup [.sl (.int .i64 (.nil)), .bool]) [.q (.int .i64 (.nil)) r1, .b r2]).1 [])⟩

noncomputable def draymanref02_Runes_spec {α : Type} : FunSpec α := draymanref02_Runes_sp draymanref02_Runes

noncomputable def draymanref02_Runes_C {α : Type} (draymanref02_One : draymanref02_One_T α) : List (FunSpec α) := [draymanref02_One_sp draymanref02_One]

noncomputable def draymanref02_Runes_q : FuncId → Bool := fun f => Nat.beq f 118

noncomputable def draymanref02_Runes_inl : FuncId → Bool := fun f => false

noncomputable def draymanref02_Runes_ann : FuncId → AnnT := fun f p => if f = 93 then (if p = [true, false, true, true] then ⟨[0, 4, 5], [0, 1], [4], [2, 3], 0, [], [], none⟩ else ⟨[], [], [], [], 0, [], [], none⟩) else ⟨[], [], [], [], 0, [], [], none⟩

noncomputable def draymanref02_Runes_l0_t : List Sh := [.str, .dead, .dead, .dead, .own 1, .int .i64, .dead, .dead, .dead, .dead, .dead, .dead, .dead, .dead, .dead, .dead, .dead, .dead, .dead, .dead, .dead, .dead, .dead, .dead, .dead, .dead, .dead, .dead]
noncomputable def draymanref02_Runes_l0_s : List (List Sh) := []
noncomputable def draymanref02_Runes_l0_h : List BSh := [.row true (.int .i64 (.nil)), .row true (.int .i64 (.nil))]

noncomputable def draymanref02_Runes_l0_spec {α : Type} (draymanref02_One : draymanref02_One_T α) : LoopSpec α := ⟨6, 93, [true, false, true, true], draymanref02_Runes_l0_t, draymanref02_Runes_l0_s, draymanref02_Runes_l0_h, fun ds k => draymanref02_Runes_l0_run draymanref02_One (fun y1 y2 y3 y4 => k .ret (encSt [.dead, .dead, .sl (.int .i64 (.nil)), .bool, .dead, .dead, .dead, .dead, .dead, .dead, .dead, .dead, .dead, .dead, .dead, .dead, .dead, .dead, .dead, .dead, .dead, .dead, .dead, .dead, .dead, .dead, .dead, .dead] [] [.row true (.int .i64 (.nil)), .row true (.int .i64 (.nil))] [.q (.int .i64 (.nil)) y1, .b y2, .q (.int .i64 (.nil)) y3, .q (.int .i64 (.nil)) y4])) (fun y1 y2 => k (.exit 0) (encSt [.dead, .dead, .dead, .dead, .own 1, .dead, .dead, .dead, .dead, .dead, .dead, .dead, .dead, .dead, .dead, .dead, .dead, .dead, .dead, .dead, .dead, .dead, .dead, .dead, .dead, .dead, .dead, .dead] [] [.row true (.int .i64 (.nil)), .row true (.int .i64 (.nil))] [.q (.int .i64 (.nil)) y1, .q (.int .i64 (.nil)) y2])) 1000 (hdS ds) (hdI ds.tail) (hdQ (.int .i64 (.nil)) ds.tail.tail) (hdQ (.int .i64 (.nil)) ds.tail.tail.tail)⟩

noncomputable def draymanref02_Runes_loops {α : Type} (draymanref02_One : draymanref02_One_T α) : List (LoopSpec α) := [draymanref02_Runes_l0_spec draymanref02_One]

noncomputable def draymanref02_Runes_l0_ev {α : Type} (draymanref02_One : draymanref02_One_T α) (n : Nat) (st : St) (k : X → St → Option α) : Option α := loopN (evCode Go.Proofs.Tryd.prog (callD Go.Proofs.Tryd.prog (envOf (draymanref02_Runes_C draymanref02_One) draymanref02_Runes_q draymanref02_Runes_inl 1000 draymanref02_Runes_ann true (draymanref02_Runes_loops draymanref02_One) (fun _ => none)) 6) (((envOf (draymanref02_Runes_C draymanref02_One) draymanref02_Runes_q draymanref02_Runes_inl 1000 draymanref02_Runes_ann true (draymanref02_Runes_loops draymanref02_One) (fun _ => none)) : Env α).L 6 93) 1000 (draymanref02_Runes_ann 93) (false :: [true, false, true, true]) (loopC Go.Proofs.Tryd.prog 93 [true, false, true, true])) ((draymanref02_Runes_ann 93 [true, false, true, true]).head 2) ((draymanref02_Runes_ann 93 [true, false, true, true]).leave 2) n st k

theorem draymanref02_Runes_l0_eq {α : Type} (draymanref02_One : draymanref02_One_T α) : ∀ (n : Nat) (s2 : ByteArray) (i3 : Int) (q4 : Seq (Int × Unit)) (q5 : Seq (Int × Unit)) (k : X → St → Option α), draymanref02_Runes_l0_ev draymanref02_One n (encSt draymanref02_Runes_l0_t draymanref02_Runes_l0_s draymanref02_Runes_l0_h [.s s2, .i i3, .q (.int .i64 (.nil)) q4, .q (.int .i64 (.nil)) q5]) k = draymanref02_Runes_l0_run draymanref02_One (fun y1 y2 y3 y4 => k .ret (encSt [.dead, .dead, .sl (.int .i64 (.nil)), .bool, .dead, .dead, .dead, .dead, .dead, .dead, .dead, .dead, .dead, .dead, .dead, .dead, .dead, .dead, .dead, .dead, .dead, .dead, .dead, .dead, .dead, .dead, .dead, .dead] [] [.row true (.int .i64 (.nil)), .row true (.int .i64 (.nil))] [.q (.int .i64 (.nil)) y1, .b y2, .q (.int .i64 (.nil)) y3, .q (.int .i64 (.nil)) y4])) (fun y1 y2 => k (.exit 0) (encSt [.dead, .dead, .dead, .dead, .own 1, .dead, .dead, .dead, .dead, .dead, .dead, .dead, .dead, .dead, .dead, .dead, .dead, .dead, .dead, .dead, .dead, .dead, .dead, .dead, .dead, .dead, .dead, .dead] [] [.row true (.int .i64 (.nil)), .row true (.int .i64 (.nil))] [.q (.int .i64 (.nil)) y1, .q (.int .i64 (.nil)) y2])) n s2 i3 q4 q5 := by
  intro n
  induction n with
  | zero => intros; kernel_rfl
  | succ n ih =>
    intro s2 i3 q4 q5 k
    have e : (fun (s2 : ByteArray) (i3 : Int) (q4 : Seq (Int × Unit)) (q5 : Seq (Int × Unit)) => draymanref02_Runes_l0_ev draymanref02_One n (encSt draymanref02_Runes_l0_t draymanref02_Runes_l0_s draymanref02_Runes_l0_h [.s s2, .i i3, .q (.int .i64 (.nil)) q4, .q (.int .i64 (.nil)) q5]) k) = (fun (s2 : ByteArray) (i3 : Int) (q4 : Seq (Int × Unit)) (q5 : Seq (Int × Unit)) => draymanref02_Runes_l0_run draymanref02_One (fun y1 y2 y3 y4 => k .ret (encSt [.dead, .dead, .sl (.int .i64 (.nil)), .bool, .dead, .dead, .dead, .dead, .dead, .dead, .dead, .dead, .dead, .dead, .dead, .dead, .dead, .dead, .dead, .dead, .dead, .dead, .dead, .dead, .dead, .dead, .dead, .dead] [] [.row true (.int .i64 (.nil)), .row true (.int .i64 (.nil))] [.q (.int .i64 (.nil)) y1, .b y2, .q (.int .i64 (.nil)) y3, .q (.int .i64 (.nil)) y4])) (fun y1 y2 => k (.exit 0) (encSt [.dead, .dead, .dead, .dead, .own 1, .dead, .dead, .dead, .dead, .dead, .dead, .dead, .dead, .dead, .dead, .dead, .dead, .dead, .dead, .dead, .dead, .dead, .dead, .dead, .dead, .dead, .dead, .dead] [] [.row true (.int .i64 (.nil)), .row true (.int .i64 (.nil))] [.q (.int .i64 (.nil)) y1, .q (.int .i64 (.nil)) y2])) n s2 i3 q4 q5) := by
      funext s2 i3 q4 q5
      exact ih s2 i3 q4 q5 k
    have h1 : draymanref02_Runes_l0_ev draymanref02_One (n + 1) (encSt draymanref02_Runes_l0_t draymanref02_Runes_l0_s draymanref02_Runes_l0_h [.s s2, .i i3, .q (.int .i64 (.nil)) q4, .q (.int .i64 (.nil)) q5]) k = draymanref02_Runes_l0_step draymanref02_One (fun y1 y2 y3 y4 => k .ret (encSt [.dead, .dead, .sl (.int .i64 (.nil)), .bool, .dead, .dead, .dead, .dead, .dead, .dead, .dead, .dead, .dead, .dead, .dead, .dead, .dead, .dead, .dead, .dead, .dead, .dead, .dead, .dead, .dead, .dead, .dead, .dead] [] [.row true (.int .i64 (.nil)), .row true (.int .i64 (.nil))] [.q (.int .i64 (.nil)) y1, .b y2, .q (.int .i64 (.nil)) y3, .q (.int .i64 (.nil)) y4])) (fun y1 y2 => k (.exit 0) (encSt [.dead, .dead, .dead, .dead, .own 1, .dead, .dead, .dead, .dead, .dead, .dead, .dead, .dead, .dead, .dead, .dead, .dead, .dead, .dead, .dead, .dead, .dead, .dead, .dead, .dead, .dead, .dead, .dead] [] [.row true (.int .i64 (.nil)), .row true (.int .i64 (.nil))] [.q (.int .i64 (.nil)) y1, .q (.int .i64 (.nil)) y2])) (fun (s2 : ByteArray) (i3 : Int) (q4 : Seq (Int × Unit)) (q5 : Seq (Int × Unit)) => draymanref02_Runes_l0_ev draymanref02_One n (encSt draymanref02_Runes_l0_t draymanref02_Runes_l0_s draymanref02_Runes_l0_h [.s s2, .i i3, .q (.int .i64 (.nil)) q4, .q (.int .i64 (.nil)) q5]) k) s2 i3 q4 q5 := by kernel_rfl
    have h2 := congrArg (fun r => draymanref02_Runes_l0_step draymanref02_One (fun y1 y2 y3 y4 => k .ret (encSt [.dead, .dead, .sl (.int .i64 (.nil)), .bool, .dead, .dead, .dead, .dead, .dead, .dead, .dead, .dead, .dead, .dead, .dead, .dead, .dead, .dead, .dead, .dead, .dead, .dead, .dead, .dead, .dead, .dead, .dead, .dead] [] [.row true (.int .i64 (.nil)), .row true (.int .i64 (.nil))] [.q (.int .i64 (.nil)) y1, .b y2, .q (.int .i64 (.nil)) y3, .q (.int .i64 (.nil)) y4])) (fun y1 y2 => k (.exit 0) (encSt [.dead, .dead, .dead, .dead, .own 1, .dead, .dead, .dead, .dead, .dead, .dead, .dead, .dead, .dead, .dead, .dead, .dead, .dead, .dead, .dead, .dead, .dead, .dead, .dead, .dead, .dead, .dead, .dead] [] [.row true (.int .i64 (.nil)), .row true (.int .i64 (.nil))] [.q (.int .i64 (.nil)) y1, .q (.int .i64 (.nil)) y2])) r s2 i3 q4 q5) e
    have h3 : draymanref02_Runes_l0_step draymanref02_One (fun y1 y2 y3 y4 => k .ret (encSt [.dead, .dead, .sl (.int .i64 (.nil)), .bool, .dead, .dead, .dead, .dead, .dead, .dead, .dead, .dead, .dead, .dead, .dead, .dead, .dead, .dead, .dead, .dead, .dead, .dead, .dead, .dead, .dead, .dead, .dead, .dead] [] [.row true (.int .i64 (.nil)), .row true (.int .i64 (.nil))] [.q (.int .i64 (.nil)) y1, .b y2, .q (.int .i64 (.nil)) y3, .q (.int .i64 (.nil)) y4])) (fun y1 y2 => k (.exit 0) (encSt [.dead, .dead, .dead, .dead, .own 1, .dead, .dead, .dead, .dead, .dead, .dead, .dead, .dead, .dead, .dead, .dead, .dead, .dead, .dead, .dead, .dead, .dead, .dead, .dead, .dead, .dead, .dead, .dead] [] [.row true (.int .i64 (.nil)), .row true (.int .i64 (.nil))] [.q (.int .i64 (.nil)) y1, .q (.int .i64 (.nil)) y2])) (fun (s2 : ByteArray) (i3 : Int) (q4 : Seq (Int × Unit)) (q5 : Seq (Int × Unit)) => draymanref02_Runes_l0_run draymanref02_One (fun y1 y2 y3 y4 => k .ret (encSt [.dead, .dead, .sl (.int .i64 (.nil)), .bool, .dead, .dead, .dead, .dead, .dead, .dead, .dead, .dead, .dead, .dead, .dead, .dead, .dead, .dead, .dead, .dead, .dead, .dead, .dead, .dead, .dead, .dead, .dead, .dead] [] [.row true (.int .i64 (.nil)), .row true (.int .i64 (.nil))] [.q (.int .i64 (.nil)) y1, .b y2, .q (.int .i64 (.nil)) y3, .q (.int .i64 (.nil)) y4])) (fun y1 y2 => k (.exit 0) (encSt [.dead, .dead, .dead, .dead, .own 1, .dead, .dead, .dead, .dead, .dead, .dead, .dead, .dead, .dead, .dead, .dead, .dead, .dead, .dead, .dead, .dead, .dead, .dead, .dead, .dead, .dead, .dead, .dead] [] [.row true (.int .i64 (.nil)), .row true (.int .i64 (.nil))] [.q (.int .i64 (.nil)) y1, .q (.int .i64 (.nil)) y2])) n s2 i3 q4 q5) s2 i3 q4 q5 = draymanref02_Runes_l0_run draymanref02_One (fun y1 y2 y3 y4 => k .ret (encSt [.dead, .dead, .sl (.int .i64 (.nil)), .bool, .dead, .dead, .dead, .dead, .dead, .dead, .dead, .dead, .dead, .dead, .dead, .dead, .dead, .dead, .dead, .dead, .dead, .dead, .dead, .dead, .dead, .dead, .dead, .dead] [] [.row true (.int .i64 (.nil)), .row true (.int .i64 (.nil))] [.q (.int .i64 (.nil)) y1, .b y2, .q (.int .i64 (.nil)) y3, .q (.int .i64 (.nil)) y4])) (fun y1 y2 => k (.exit 0) (encSt [.dead, .dead, .dead, .dead, .own 1, .dead, .dead, .dead, .dead, .dead, .dead, .dead, .dead, .dead, .dead, .dead, .dead, .dead, .dead, .dead, .dead, .dead, .dead, .dead, .dead, .dead, .dead, .dead] [] [.row true (.int .i64 (.nil)), .row true (.int .i64 (.nil))] [.q (.int .i64 (.nil)) y1, .q (.int .i64 (.nil)) y2])) (n + 1) s2 i3 q4 q5 := by kernel_rfl
    exact h1.trans (h2.trans h3)

theorem draymanref02_Runes_l0_ok {α : Type} (draymanref02_One : draymanref02_One_T α) : (draymanref02_Runes_l0_spec draymanref02_One : LoopSpec α).ok Go.Proofs.Tryd.prog (envOf (draymanref02_Runes_C draymanref02_One) draymanref02_Runes_q draymanref02_Runes_inl 1000 draymanref02_Runes_ann true (draymanref02_Runes_loops draymanref02_One) (fun _ => none)) := by
  intro ds k
  have h1 : draymanref02_Runes_l0_ev draymanref02_One 1000 (encSt draymanref02_Runes_l0_t draymanref02_Runes_l0_s draymanref02_Runes_l0_h ds) k = draymanref02_Runes_l0_ev draymanref02_One 1000 (encSt draymanref02_Runes_l0_t draymanref02_Runes_l0_s draymanref02_Runes_l0_h [.s (hdS ds), .i (hdI ds.tail), .q (.int .i64 (.nil)) (hdQ (.int .i64 (.nil)) ds.tail.tail), .q (.int .i64 (.nil)) (hdQ (.int .i64 (.nil)) ds.tail.tail.tail)]) k := by kernel_rfl
  have h2 := draymanref02_Runes_l0_eq draymanref02_One 1000 (hdS ds) (hdI ds.tail) (hdQ (.int .i64 (.nil)) ds.tail.tail) (hdQ (.int .i64 (.nil)) ds.tail.tail.tail) k
  exact h1.trans h2

theorem draymanref02_Runes_ev {α : Type} (draymanref02_One : draymanref02_One_T α) : EvOk (α := α) Go.Proofs.Tryd.prog (envOf (draymanref02_Runes_C draymanref02_One) draymanref02_Runes_q draymanref02_Runes_inl 1000 draymanref02_Runes_ann true (draymanref02_Runes_loops draymanref02_One) (fun _ => none)) 6 (draymanref02_Runes_sp (draymanref02_Runes_g draymanref02_One)) := by intro ds k; kernel_rfl

theorem draymanref02_Runes_ok {α : Type} : (draymanref02_Runes_spec : FunSpec α).ok Go.Proofs.Tryd.prog :=
  FunSpec.ok_of (sp := draymanref02_Runes_spec) (C := draymanref02_Runes_C draymanref02_One) (q := draymanref02_Runes_q) (inl := draymanref02_Runes_inl) (N := 1000) (ann := draymanref02_Runes_ann) (fr := true) (D := 6) (l := (draymanref02_Runes_loops draymanref02_One)) (hk := (fun _ => none)) (okCons draymanref02_One_ok okNil) (lokCons (draymanref02_Runes_l0_ok draymanref02_One) lokNil) noHooks (draymanref02_Runes_ev draymanref02_One)

end
end Go.Rv.Tryd
