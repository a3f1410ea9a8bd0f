/- What the functions of the program compute, each with the proof that its code computes it. Written by a program (rvp2.py). -/
import Derived.Test.YtmoeohjaafpmgaaProg
import Derived.Test.YtmoeohjaafpmgaaRvP
import Derived.Test.YtmoeohjaafpmgaaFx
import Derived.Test.YtmoeohjaafpmgaaE1

set_option linter.unusedVariables false
set_option maxRecDepth 100000
set_option maxHeartbeats 4000000
namespace Go.Rv.Try
open Go Go.Rv Go.RowKit
noncomputable section

-- drayman/draymanref31.with

abbrev draymanref31_with_T (α : Type) : Type := (Seq Z1) → Z1 → ((Seq Z1) → Option α) → Option α

noncomputable def draymanref31_with_l0_step {α : Type} (draymanref31_ahead : draymanref31_ahead_T α) (k0 : (Bool) → Z1 → (Seq Z1) → (Seq Z1) → Option α) (rec : (Seq Z1) → (Bool) → (Int) → Z1 → (Seq Z1) → (Seq Z1) → Option α) (l3 : Seq Z1) (done4 : Bool) (i5 : Int) (x6 : Int × Int × Int × Int × Int × Int × Unit) (q7 : Seq Z1) (q8 : Seq Z1) : Option α :=
  (cond (decide (i5 < (l3.n : Int)))
    (cond (!done4)
      (cond ((decide ((0 : Int) ≤ i5)) && (decide (i5 < (l3.n : Int))))
        (draymanref31_ahead (l3.g i5.toNat) x6 fun r9 =>
          (cond (!r9)
            (cond (decide (((q8.n + 1)) * 48 ≤ 140737488355328))
              (cond ((decide ((0 : Int) ≤ i5)) && (decide (i5 < (l3.n : Int))))
                (draymanref31_ahead (l3.g i5.toNat) x6 fun r10 =>
                  (cond (!r10)
                    (cond ((decide ((0 : Int) ≤ i5)) && (decide (i5 < (l3.n : Int))))
                      (draymanref31_ahead x6 (l3.g i5.toNat) fun r11 =>
                        (cond r11
                          (cond ((decide ((0 : Int) ≤ i5)) && (decide (i5 < (l3.n : Int))))
                            (cond (decide ((((q8.n + 1) + 1)) * 48 ≤ 140737488355328))
                              (rec l3 true (IntKind.i64.wrap (i5 + 1)) x6 q7 (⟨((q8.nl && false) && false), ((q8.n + 1) + 1), (tApp (q8.n + 1) (tApp q8.n q8.g (fun _ => x6)) (fun _ => (l3.g i5.toNat)))⟩ : Seq Z1))
                              none)
                            none)
                          (rec l3 true (IntKind.i64.wrap (i5 + 1)) x6 q7 (⟨(q8.nl && false), (q8.n + 1), (tApp q8.n q8.g (fun _ => x6))⟩ : Seq Z1))))
                      none)
                    (cond ((decide ((0 : Int) ≤ i5)) && (decide (i5 < (l3.n : Int))))
                      (cond (decide ((((q8.n + 1) + 1)) * 48 ≤ 140737488355328))
                        (rec l3 true (IntKind.i64.wrap (i5 + 1)) x6 q7 (⟨((q8.nl && false) && false), ((q8.n + 1) + 1), (tApp (q8.n + 1) (tApp q8.n q8.g (fun _ => x6)) (fun _ => (l3.g i5.toNat)))⟩ : Seq Z1))
                        none)
                      none)))
                none)
              none)
            (cond ((decide ((0 : Int) ≤ i5)) && (decide (i5 < (l3.n : Int))))
              (draymanref31_ahead (l3.g i5.toNat) x6 fun r12 =>
                (cond (!r12)
                  (cond ((decide ((0 : Int) ≤ i5)) && (decide (i5 < (l3.n : Int))))
                    (draymanref31_ahead x6 (l3.g i5.toNat) fun r13 =>
                      (cond r13
                        (cond ((decide ((0 : Int) ≤ i5)) && (decide (i5 < (l3.n : Int))))
                          (cond (decide (((q8.n + 1)) * 48 ≤ 140737488355328))
                            (rec l3 done4 (IntKind.i64.wrap (i5 + 1)) x6 q7 (⟨(q8.nl && false), (q8.n + 1), (tApp q8.n q8.g (fun _ => (l3.g i5.toNat)))⟩ : Seq Z1))
                            none)
                          none)
                        (rec l3 done4 (IntKind.i64.wrap (i5 + 1)) x6 q7 q8)))
                    none)
                  (cond ((decide ((0 : Int) ≤ i5)) && (decide (i5 < (l3.n : Int))))
                    (cond (decide (((q8.n + 1)) * 48 ≤ 140737488355328))
                      (rec l3 done4 (IntKind.i64.wrap (i5 + 1)) x6 q7 (⟨(q8.nl && false), (q8.n + 1), (tApp q8.n q8.g (fun _ => (l3.g i5.toNat)))⟩ : Seq Z1))
                      none)
                    none)))
              none)))
        none)
      (cond ((decide ((0 : Int) ≤ i5)) && (decide (i5 < (l3.n : Int))))
        (draymanref31_ahead (l3.g i5.toNat) x6 fun r14 =>
          (cond (!r14)
            (cond ((decide ((0 : Int) ≤ i5)) && (decide (i5 < (l3.n : Int))))
              (draymanref31_ahead x6 (l3.g i5.toNat) fun r15 =>
                (cond r15
                  (cond ((decide ((0 : Int) ≤ i5)) && (decide (i5 < (l3.n : Int))))
                    (cond (decide (((q8.n + 1)) * 48 ≤ 140737488355328))
                      (rec l3 done4 (IntKind.i64.wrap (i5 + 1)) x6 q7 (⟨(q8.nl && false), (q8.n + 1), (tApp q8.n q8.g (fun _ => (l3.g i5.toNat)))⟩ : Seq Z1))
                      none)
                    none)
                  (rec l3 done4 (IntKind.i64.wrap (i5 + 1)) x6 q7 q8)))
              none)
            (cond ((decide ((0 : Int) ≤ i5)) && (decide (i5 < (l3.n : Int))))
              (cond (decide (((q8.n + 1)) * 48 ≤ 140737488355328))
                (rec l3 done4 (IntKind.i64.wrap (i5 + 1)) x6 q7 (⟨(q8.nl && false), (q8.n + 1), (tApp q8.n q8.g (fun _ => (l3.g i5.toNat)))⟩ : Seq Z1))
                none)
              none)))
        none))
    (k0 done4 x6 q7 q8))

noncomputable def draymanref31_with_l0_run {α : Type} (draymanref31_ahead : draymanref31_ahead_T α) (k0 : (Bool) → Z1 → (Seq Z1) → (Seq Z1) → Option α) : Nat → (Seq Z1) → (Bool) → (Int) → Z1 → (Seq Z1) → (Seq Z1) → Option α
  | 0, _, _, _, _, _, _ => none
  | n + 1, l3, done4, i5, x6, q7, q8 => draymanref31_with_l0_step draymanref31_ahead k0 (fun l3 done4 i5 x6 q7 q8 => draymanref31_with_l0_run draymanref31_ahead k0 n l3 done4 i5 x6 q7 q8) l3 done4 i5 x6 q7 q8

noncomputable def draymanref31_with_g {α : Type} (draymanref31_ahead : draymanref31_ahead_T α) (l1 : Seq Z1) (x2 : Int × Int × Int × Int × Int × Int × Unit) (k : (Seq Z1) → Option α) : Option α :=
  (draymanref31_with_l0_run draymanref31_ahead
    (fun x16 x17 q18 q19 =>
      (cond (!x16)
        (cond (decide (((q19.n + 1)) * 48 ≤ 140737488355328))
          (k (⟨(q19.nl && false), (q19.n + 1), (tApp q19.n q19.g (fun _ => x17))⟩ : Seq Z1))
          none)
        (k q19)))
    1000 l1 false 0 x2 (⟨true, 0, (fun _ => (0, 0, 0, 0, 0, 0, ()))⟩ : Seq Z1) (⟨true, 0, (fun _ => (0, 0, 0, 0, 0, 0, ()))⟩ : Seq Z1))

noncomputable def draymanref31_with {α : Type} : draymanref31_with_T α := draymanref31_with_g draymanref31_ahead

noncomputable def draymanref31_with_sp {α : Type} (draymanref31_with : draymanref31_with_T α) : FunSpec α := ⟨76, [.sl (.int .i64 (.int .i64 (.int .i64 (.int .i64 (.int .i64 (.int .i64 (.nil))))))), .agg [.int .i64, .int .i64, .int .i64, .int .i64, .int .i64, .int .i64]], [], fun ds k => draymanref31_with (hdQ (.int .i64 (.int .i64 (.int .i64 (.int .i64 (.int .i64 (.int .i64 (.nil))))))) ds) (hdI ds.tail, hdI ds.tail.tail, hdI ds.tail.tail.tail, hdI ds.tail.tail.tail.tail, hdI ds.tail.tail.tail.tail.tail, hdI ds.tail.tail.tail.tail.tail.tail, ()) (fun q1 => k (enc dep (.own 0) []).1 (encBs [.row true (.int .i64 (.int .i64 (.int .i64 (.int .i64 (.int .i64 (.int .i64 (.nil)))))))] [.q (.int .i64 (.int .i64 (.int .i64 (.int .i64 (.int .i64 (.int .i64 (.nil))))))) q1]).1)⟩

noncomputable def draymanref31_with_spec {α : Type} : FunSpec α := draymanref31_with_sp draymanref31_with

noncomputable def draymanref31_with_C {α : Type} (draymanref31_ahead : draymanref31_ahead_T α) : List (FunSpec α) := [draymanref31_ahead_sp draymanref31_ahead]

noncomputable def draymanref31_with_q : FuncId → Bool := fun f => Nat.beq f 40

noncomputable def draymanref31_with_inl : FuncId → Bool := fun f => false

noncomputable def draymanref31_with_ann : FuncId → AnnT := fun f p => if f = 76 then (if p = [true, false, true, true, true] then ⟨[0, 3, 5, 6, 7], [1, 2], [3, 5, 6], [4], 0, [], [], none⟩ else if p = [false, true, false, true, false, true, false, true, true, true] then ⟨[], [], [], [], 2, [], [], none⟩ else if p = [false, false, false, true, false, true, false, true, true, true] then ⟨[], [], [], [], 2, [], [], none⟩ else ⟨[], [], [], [], 0, [], [], none⟩) else ⟨[], [], [], [], 0, [], [], none⟩

noncomputable def draymanref31_with_l0_t : List Sh := [.sl (.int .i64 (.int .i64 (.int .i64 (.int .i64 (.int .i64 (.int .i64 (.nil))))))), .dead, .dead, .ref 0 0, .dead, .own 2, .bool, .int .i64, .dead, .dead, .dead, .dead, .dead, .dead, .dead, .dead, .dead, .dead, .dead, .dead, .dead, .dead, .dead, .dead, .dead, .dead, .dead, .dead, .dead, .dead, .dead, .dead, .dead, .dead, .dead, .dead, .dead, .dead, .dead, .dead, .dead, .dead, .dead, .dead, .dead, .dead, .dead, .dead, .dead, .dead, .dead, .dead, .dead, .dead, .dead, .dead, .dead]
noncomputable def draymanref31_with_l0_s : List (List Sh) := []
noncomputable def draymanref31_with_l0_h : List BSh := [.box [.int .i64, .int .i64, .int .i64, .int .i64, .int .i64, .int .i64], .row true (.int .i64 (.int .i64 (.int .i64 (.int .i64 (.int .i64 (.int .i64 (.nil))))))), .row true (.int .i64 (.int .i64 (.int .i64 (.int .i64 (.int .i64 (.int .i64 (.nil)))))))]

noncomputable def draymanref31_with_l0_spec {α : Type} (draymanref31_ahead : draymanref31_ahead_T α) : LoopSpec α := ⟨6, 76, [true, false, true, true, true], draymanref31_with_l0_t, draymanref31_with_l0_s, draymanref31_with_l0_h, fun ds k => draymanref31_with_l0_run draymanref31_ahead (fun y1 y2 y3 y4 => k (.exit 0) (encSt [.dead, .dead, .dead, .ref 0 0, .dead, .own 2, .bool, .dead, .dead, .dead, .dead, .dead, .dead, .dead, .dead, .dead, .dead, .dead, .dead, .dead, .dead, .dead, .dead, .dead, .dead, .dead, .dead, .dead, .dead, .dead, .dead, .dead, .dead, .dead, .dead, .dead, .dead, .dead, .dead, .dead, .dead, .dead, .dead, .dead, .dead, .dead, .dead, .dead, .dead, .dead, .dead, .dead, .dead, .dead, .dead, .dead, .dead] [] [.box [.int .i64, .int .i64, .int .i64, .int .i64, .int .i64, .int .i64], .row true (.int .i64 (.int .i64 (.int .i64 (.int .i64 (.int .i64 (.int .i64 (.nil))))))), .row true (.int .i64 (.int .i64 (.int .i64 (.int .i64 (.int .i64 (.int .i64 (.nil)))))))] [.b y1, .i y2.1, .i y2.2.1, .i y2.2.2.1, .i y2.2.2.2.1, .i y2.2.2.2.2.1, .i y2.2.2.2.2.2.1, .q (.int .i64 (.int .i64 (.int .i64 (.int .i64 (.int .i64 (.int .i64 (.nil))))))) y3, .q (.int .i64 (.int .i64 (.int .i64 (.int .i64 (.int .i64 (.int .i64 (.nil))))))) y4])) 1000 (hdQ (.int .i64 (.int .i64 (.int .i64 (.int .i64 (.int .i64 (.int .i64 (.nil))))))) ds) (hdB ds.tail) (hdI ds.tail.tail) (hdI ds.tail.tail.tail, hdI ds.tail.tail.tail.tail, hdI ds.tail.tail.tail.tail.tail, hdI ds.tail.tail.tail.tail.tail.tail, hdI ds.tail.tail.tail.tail.tail.tail.tail, hdI ds.tail.tail.tail.tail.tail.tail.tail.tail, ()) (hdQ (.int .i64 (.int .i64 (.int .i64 (.int .i64 (.int .i64 (.int .i64 (.nil))))))) ds.tail.tail.tail.tail.tail.tail.tail.tail.tail) (hdQ (.int .i64 (.int .i64 (.int .i64 (.int .i64 (.int .i64 (.int .i64 (.nil))))))) ds.tail.tail.tail.tail.tail.tail.tail.tail.tail.tail)⟩

noncomputable def draymanref31_with_loops {α : Type} (draymanref31_ahead : draymanref31_ahead_T α) : List (LoopSpec α) := [draymanref31_with_l0_spec draymanref31_ahead]

noncomputable def draymanref31_with_l0_ev {α : Type} (draymanref31_ahead : draymanref31_ahead_T α) (n : Nat) (st : St) (k : X → St → Option α) : Option α := loopN (evCode Go.Proofs.Try.prog (callD Go.Proofs.Try.prog (envOf (draymanref31_with_C draymanref31_ahead) draymanref31_with_q draymanref31_with_inl 1000 draymanref31_with_ann false (draymanref31_with_loops draymanref31_ahead) (fun _ => none)) 6) (((envOf (draymanref31_with_C draymanref31_ahead) draymanref31_with_q draymanref31_with_inl 1000 draymanref31_with_ann false (draymanref31_with_loops draymanref31_ahead) (fun _ => none)) : Env α).L 6 76) 1000 (draymanref31_with_ann 76) (false :: [true, false, true, true, true]) (loopC Go.Proofs.Try.prog 76 [true, false, true, true, true])) ((draymanref31_with_ann 76 [true, false, true, true, true]).head 3) ((draymanref31_with_ann 76 [true, false, true, true, true]).leave 3) n st k

theorem draymanref31_with_l0_eq {α : Type} (draymanref31_ahead : draymanref31_ahead_T α) : ∀ (n : Nat) (l3 : Seq Z1) (done4 : Bool) (i5 : Int) (x6 : Int × Int × Int × Int × Int × Int × Unit) (q7 : Seq Z1) (q8 : Seq Z1) (k : X → St → Option α), draymanref31_with_l0_ev draymanref31_ahead n (encSt draymanref31_with_l0_t draymanref31_with_l0_s draymanref31_with_l0_h [.q (.int .i64 (.int .i64 (.int .i64 (.int .i64 (.int .i64 (.int .i64 (.nil))))))) l3, .b done4, .i i5, .i x6.1, .i x6.2.1, .i x6.2.2.1, .i x6.2.2.2.1, .i x6.2.2.2.2.1, .i x6.2.2.2.2.2.1, .q (.int .i64 (.int .i64 (.int .i64 (.int .i64 (.int .i64 (.int .i64 (.nil))))))) q7, .q (.int .i64 (.int .i64 (.int .i64 (.int .i64 (.int .i64 (.int .i64 (.nil))))))) q8]) k = draymanref31_with_l0_run draymanref31_ahead (fun y1 y2 y3 y4 => k (.exit 0) (encSt [.dead, .dead, .dead, .ref 0 0, .dead, .own 2, .bool, .dead, .dead, .dead, .dead, .dead, .dead, .dead, .dead, .dead, .dead, .dead, .dead, .dead, .dead, .dead, .dead, .dead, .dead, .dead, .dead, .dead, .dead, .dead, .dead, .dead, .dead, .dead, .dead, .dead, .dead, .dead, .dead, .dead, .dead, .dead, .dead, .dead, .dead, .dead, .dead, .dead, .dead, .dead, .dead, .dead, .dead, .dead, .dead, .dead, .dead] [] [.box [.int .i64, .int .i64, .int .i64, .int .i64, .int .i64, .int .i64], .row true (.int .i64 (.int .i64 (.int .i64 (.int .i64 (.int .i64 (.int .i64 (.nil))))))), .row true (.int .i64 (.int .i64 (.int .i64 (.int .i64 (.int .i64 (.int .i64 (.nil)))))))] [.b y1, .i y2.1, .i y2.2.1, .i y2.2.2.1, .i y2.2.2.2.1, .i y2.2.2.2.2.1, .i y2.2.2.2.2.2.1, .q (.int .i64 (.int .i64 (.int .i64 (.int .i64 (.int .i64 (.int .i64 (.nil))))))) y3, .q (.int .i64 (.int .i64 (.int .i64 (.int .i64 (.int .i64 (.int .i64 (.nil))))))) y4])) n l3 done4 i5 x6 q7 q8 := by
  intro n
  induction n with
  | zero => intros; kernel_rfl
  | succ n ih =>
    intro l3 done4 i5 x6 q7 q8 k
    have e : (fun (l3 : Seq Z1) (done4 : Bool) (i5 : Int) (x6 : Int × Int × Int × Int × Int × Int × Unit) (q7 : Seq Z1) (q8 : Seq Z1) => draymanref31_with_l0_ev draymanref31_ahead n (encSt draymanref31_with_l0_t draymanref31_with_l0_s draymanref31_with_l0_h [.q (.int .i64 (.int .i64 (.int .i64 (.int .i64 (.int .i64 (.int .i64 (.nil))))))) l3, .b done4, .i i5, .i x6.1, .i x6.2.1, .i x6.2.2.1, .i x6.2.2.2.1, .i x6.2.2.2.2.1, .i x6.2.2.2.2.2.1, .q (.int .i64 (.int .i64 (.int .i64 (.int .i64 (.int .i64 (.int .i64 (.nil))))))) q7, .q (.int .i64 (.int .i64 (.int .i64 (.int .i64 (.int .i64 (.int .i64 (.nil))))))) q8]) k) = (fun (l3 : Seq Z1) (done4 : Bool) (i5 : Int) (x6 : Int × Int × Int × Int × Int × Int × Unit) (q7 : Seq Z1) (q8 : Seq Z1) => draymanref31_with_l0_run draymanref31_ahead (fun y1 y2 y3 y4 => k (.exit 0) (encSt [.dead, .dead, .dead, .ref 0 0, .dead, .own 2, .bool, .dead, .dead, .dead, .dead, .dead, .dead, .dead, .dead, .dead, .dead, .dead, .dead, .dead, .dead, .dead, .dead, .dead, .dead, .dead, .dead, .dead, .dead, .dead, .dead, .dead, .dead, .dead, .dead, .dead, .dead, .dead, .dead, .dead, .dead, .dead, .dead, .dead, .dead, .dead, .dead, .dead, .dead, .dead, .dead, .dead, .dead, .dead, .dead, .dead, .dead] [] [.box [.int .i64, .int .i64, .int .i64, .int .i64, .int .i64, .int .i64], .row true (.int .i64 (.int .i64 (.int .i64 (.int .i64 (.int .i64 (.int .i64 (.nil))))))), .row true (.int .i64 (.int .i64 (.int .i64 (.int .i64 (.int .i64 (.int .i64 (.nil)))))))] [.b y1, .i y2.1, .i y2.2.1, .i y2.2.2.1, .i y2.2.2.2.1, .i y2.2.2.2.2.1, .i y2.2.2.2.2.2.1, .q (.int .i64 (.int .i64 (.int .i64 (.int .i64 (.int .i64 (.int .i64 (.nil))))))) y3, .q (.int .i64 (.int .i64 (.int .i64 (.int .i64 (.int .i64 (.int .i64 (.nil))))))) y4])) n l3 done4 i5 x6 q7 q8) := by
      funext l3 done4 i5 x6 q7 q8
      exact ih l3 done4 i5 x6 q7 q8 k
    have h1 : draymanref31_with_l0_ev draymanref31_ahead (n + 1) (encSt draymanref31_with_l0_t draymanref31_with_l0_s draymanref31_with_l0_h [.q (.int .i64 (.int .i64 (.int .i64 (.int .i64 (.int .i64 (.int .i64 (.nil))))))) l3, .b done4, .i i5, .i x6.1, .i x6.2.1, .i x6.2.2.1, .i x6.2.2.2.1, .i x6.2.2.2.2.1, .i x6.2.2.2.2.2.1, .q (.int .i64 (.int .i64 (.int .i64 (.int .i64 (.int .i64 (.int .i64 (.nil))))))) q7, .q (.int .i64 (.int .i64 (.int .i64 (.int .i64 (.int .i64 (.int .i64 (.nil))))))) q8]) k = draymanref31_with_l0_step draymanref31_ahead (fun y1 y2 y3 y4 => k (.exit 0) (encSt [.dead, .dead, .dead, .ref 0 0, .dead, .own 2, .bool, .dead, .dead, .dead, .dead, .dead, .dead, .dead, .dead, .dead, .dead, .dead, .dead, .dead, .dead, .dead, .dead, .dead, .dead, .dead, .dead, .dead, .dead, .dead, .dead, .dead, .dead, .dead, .dead, .dead, .dead, .dead, .dead, .dead, .dead, .dead, .dead, .dead, .dead, .dead, .dead, .dead, .dead, .dead, .dead, .dead, .dead, .dead, .dead, .dead, .dead] [] [.box [.int .i64, .int .i64, .int .i64, .int .i64, .int .i64, .int .i64], .row true (.int .i64 (.int .i64 (.int .i64 (.int .i64 (.int .i64 (.int .i64 (.nil))))))), .row true (.int .i64 (.int .i64 (.int .i64 (.int .i64 (.int .i64 (.int .i64 (.nil)))))))] [.b y1, .i y2.1, .i y2.2.1, .i y2.2.2.1, .i y2.2.2.2.1, .i y2.2.2.2.2.1, .i y2.2.2.2.2.2.1, .q (.int .i64 (.int .i64 (.int .i64 (.int .i64 (.int .i64 (.int .i64 (.nil))))))) y3, .q (.int .i64 (.int .i64 (.int .i64 (.int .i64 (.int .i64 (.int .i64 (.nil))))))) y4])) (fun (l3 : Seq Z1) (done4 : Bool) (i5 : Int) (x6 : Int × Int × Int × Int × Int × Int × Unit) (q7 : Seq Z1) (q8 : Seq Z1) => draymanref31_with_l0_ev draymanref31_ahead n (encSt draymanref31_with_l0_t draymanref31_with_l0_s draymanref31_with_l0_h [.q (.int .i64 (.int .i64 (.int .i64 (.int .i64 (.int .i64 (.int .i64 (.nil))))))) l3, .b done4, .i i5, .i x6.1, .i x6.2.1, .i x6.2.2.1, .i x6.2.2.2.1, .i x6.2.2.2.2.1, .i x6.2.2.2.2.2.1, .q (.int .i64 (.int .i64 (.int .i64 (.int .i64 (.int .i64 (.int .i64 (.nil))))))) q7, .q (.int .i64 (.int .i64 (.int .i64 (.int .i64 (.int .i64 (.int .i64 (.nil))))))) q8]) k) l3 done4 i5 x6 q7 q8 := by kernel_rfl
    have h2 := congrArg (fun r => draymanref31_with_l0_step draymanref31_ahead (fun y1 y2 y3 y4 => k (.exit 0) (encSt [.dead, .dead, .dead, .ref 0 0, .dead, .own 2, .bool, .dead, .dead, .dead, .dead, .dead, .dead, .dead, .dead, .dead, .dead, .dead, .dead, .dead, .dead, .dead, .dead, .dead, .dead, .dead, .dead, .dead, .dead, .dead, .dead, .dead, .dead, .dead, .dead, .dead, .dead, .dead, .dead, .dead, .dead, .dead, .dead, .dead, .dead, .dead, .dead, .dead, .dead, .dead, .dead, .dead, .dead, .dead, .dead, .dead, .dead] [] [.box [.int .i64, .int .i64, .int .i64, .int .i64, .int .i64, .int .i64], .row true (.int .i64 (.int .i64 (.int .i64 (.int .i64 (.int .i64 (.int .i64 (.nil))))))), .row true (.int .i64 (.int .i64 (.int .i64 (.int .i64 (.int .i64 (.int .i64 (.nil)))))))] [.b y1, .i y2.1, .i y2.2.1, .i y2.2.2.1, .i y2.2.2.2.1, .i y2.2.2.2.2.1, .i y2.2.2.2.2.2.1, .q (.int .i64 (.int .i64 (.int .i64 (.int .i64 (.int .i64 (.int .i64 (.nil))))))) y3, .q (.int .i64 (.int .i64 (.int .i64 (.int .i64 (.int .i64 (.int .i64 (.nil))))))) y4])) r l3 done4 i5 x6 q7 q8) e
    have h3 : draymanref31_with_l0_step draymanref31_ahead (fun y1 y2 y3 y4 => k (.exit 0) (encSt [.dead, .dead, .dead, .ref 0 0, .dead, .own 2, .bool, .dead, .dead, .dead, .dead, .dead, .dead, .dead, .dead, .dead, .dead, .dead, .dead, .dead, .dead, .dead, .dead, .dead, .dead, .dead, .dead, .dead, .dead, .dead, .dead, .dead, .dead, .dead, .dead, .dead, .dead, .dead, .dead, .dead, .dead, .dead, .dead, .dead, .dead, .dead, .dead, .dead, .dead, .dead, .dead, .dead, .dead, .dead, .dead, .dead, .dead] [] [.box [.int .i64, .int .i64, .int .i64, .int .i64, .int .i64, .int .i64], .row true (.int .i64 (.int .i64 (.int .i64 (.int .i64 (.int .i64 (.int .i64 (.nil))))))), .row true (.int .i64 (.int .i64 (.int .i64 (.int .i64 (.int .i64 (.int .i64 (.nil)))))))] [.b y1, .i y2.1, .i y2.2.1, .i y2.2.2.1, .i y2.2.2.2.1, .i y2.2.2.2.2.1, .i y2.2.2.2.2.2.1, .q (.int .i64 (.int .i64 (.int .i64 (.int .i64 (.int .i64 (.int .i64 (.nil))))))) y3, .q (.int .i64 (.int .i64 (.int .i64 (.int .i64 (.int .i64 (.int .i64 (.nil))))))) y4])) (fun (l3 : Seq Z1) (done4 : Bool) (i5 : Int) (x6 : Int × Int × Int × Int × Int × Int × Unit) (q7 : Seq Z1) (q8 : Seq Z1) => draymanref31_with_l0_run draymanref31_ahead (fun y1 y2 y3 y4 => k (.exit 0) (encSt [.dead, .dead, .dead, .ref 0 0, .dead, .own 2, .bool, .dead, .dead, .dead, .dead, .dead, .dead, .dead, .dead, .dead, .dead, .dead, .dead, .dead, .dead, .dead, .dead, .dead, .dead, .dead, .dead, .dead, .dead, .dead, .dead, .dead, .dead, .dead, .dead, .dead, .dead, .dead, .dead, .dead, .dead, .dead, .dead, .dead, .dead, .dead, .dead, .dead, .dead, .dead, .dead, .dead, .dead, .dead, .dead, .dead, .dead] [] [.box [.int .i64, .int .i64, .int .i64, .int .i64, .int .i64, .int .i64], .row true (.int .i64 (.int .i64 (.int .i64 (.int .i64 (.int .i64 (.int .i64 (.nil))))))), .row true (.int .i64 (.int .i64 (.int .i64 (.int .i64 (.int .i64 (.int .i64 (.nil)))))))] [.b y1, .i y2.1, .i y2.2.1, .i y2.2.2.1, .i y2.2.2.2.1, .i y2.2.2.2.2.1, .i y2.2.2.2.2.2.1, .q (.int .i64 (.int .i64 (.int .i64 (.int .i64 (.int .i64 (.int .i64 (.nil))))))) y3, .q (.int .i64 (.int .i64 (.int .i64 (.int .i64 (.int .i64 (.int .i64 (.nil))))))) y4])) n l3 done4 i5 x6 q7 q8) l3 done4 i5 x6 q7 q8 = draymanref31_with_l0_run draymanref31_ahead (fun y1 y2 y3 y4 => k (.exit 0) (encSt [.dead, .dead, .dead, .ref 0 0, .dead, .own 2, .bool, .dead, .dead, .dead, .dead, .dead, .dead, .dead, .dead, .dead, .dead, .dead, .dead, .dead, .dead, .dead, .dead, .dead, .dead, .dead, .dead, .dead, .dead, .dead, .dead, .dead, .dead, .dead, .dead, .dead, .dead, .dead, .dead, .dead, .dead, .dead, .dead, .dead, .dead, .dead, .dead, .dead, .dead, .dead, .dead, .dead, .dead, .dead, .dead, .dead, .dead] [] [.box [.int .i64, .int .i64, .int .i64, .int .i64, .int .i64, .int .i64], .row true (.int .i64 (.int .i64 (.int .i64 (.int .i64 (.int .i64 (.int .i64 (.nil))))))), .row true (.int .i64 (.int .i64 (.int .i64 (.int .i64 (.int .i64 (.int .i64 (.nil)))))))] [.b y1, .i y2.1, .i y2.2.1, .i y2.2.2.1, .i y2.2.2.2.1, .i y2.2.2.2.2.1, .i y2.2.2.2.2.2.1, .q (.int .i64 (.int .i64 (.int .i64 (.int .i64 (.int .i64 (.int .i64 (.nil))))))) y3, .q (.int .i64 (.int .i64 (.int .i64 (.int .i64 (.int .i64 (.int .i64 (.nil))))))) y4])) (n + 1) l3 done4 i5 x6 q7 q8 := by kernel_rfl
    exact h1.trans (h2.trans h3)

theorem draymanref31_with_l0_ok {α : Type} (draymanref31_ahead : draymanref31_ahead_T α) : (draymanref31_with_l0_spec draymanref31_ahead : LoopSpec α).ok Go.Proofs.Try.prog (envOf (draymanref31_with_C draymanref31_ahead) draymanref31_with_q draymanref31_with_inl 1000 draymanref31_with_ann false (draymanref31_with_loops draymanref31_ahead) (fun _ => none)) := by
  intro ds k
  have h1 : draymanref31_with_l0_ev draymanref31_ahead 1000 (encSt draymanref31_with_l0_t draymanref31_with_l0_s draymanref31_with_l0_h ds) k = draymanref31_with_l0_ev draymanref31_ahead 1000 (encSt draymanref31_with_l0_t draymanref31_with_l0_s draymanref31_with_l0_h [.q (.int .i64 (.int .i64 (.int .i64 (.int .i64 (.int .i64 (.int .i64 (.nil))))))) (hdQ (.int .i64 (.int .i64 (.int .i64 (.int .i64 (.int .i64 (.int .i64 (.nil))))))) ds), .b (hdB ds.tail), .i (hdI ds.tail.tail), .i ((hdI ds.tail.tail.tail, hdI ds.tail.tail.tail.tail, hdI ds.tail.tail.tail.tail.tail, hdI ds.tail.tail.tail.tail.tail.tail, hdI ds.tail.tail.tail.tail.tail.tail.tail, hdI ds.tail.tail.tail.tail.tail.tail.tail.tail, ()).1), .i ((hdI ds.tail.tail.tail, hdI ds.tail.tail.tail.tail, hdI ds.tail.tail.tail.tail.tail, hdI ds.tail.tail.tail.tail.tail.tail, hdI ds.tail.tail.tail.tail.tail.tail.tail, hdI ds.tail.tail.tail.tail.tail.tail.tail.tail, ()).2.1), .i ((hdI ds.tail.tail.tail, hdI ds.tail.tail.tail.tail, hdI ds.tail.tail.tail.tail.tail, hdI ds.tail.tail.tail.tail.tail.tail, hdI ds.tail.tail.tail.tail.tail.tail.tail, hdI ds.tail.tail.tail.tail.tail.tail.tail.tail, ()).2.2.1), .i ((hdI ds.tail.tail.tail, hdI ds.tail.tail.tail.tail, hdI ds.tail.tail.tail.tail.tail, hdI ds.tail.tail.tail.tail.tail.tail, hdI ds.tail.tail.tail.tail.tail.tail.tail, hdI ds.tail.tail.tail.tail.tail.tail.tail.tail, ()).2.2.2.1), .i ((hdI ds.tail.tail.tail, hdI ds.tail.tail.tail.tail, hdI ds.tail.tail.tail.tail.tail, hdI ds.tail.tail.tail.tail.tail.tail, hdI ds.tail.tail.tail.tail.tail.tail.tail, hdI ds.tail.tail.tail.tail.tail.tail.tail.tail, ()).2.2.2.2.1), .i ((hdI ds.tail.tail.tail, hdI ds.tail.tail.tail.tail, hdI ds.tail.tail.tail.tail.tail, hdI ds.tail.tail.tail.tail.tail.tail, hdI ds.tail.tail.tail.tail.tail.tail.tail, hdI ds.tail.tail.tail.tail.tail.tail.tail.tail, ()).2.2.2.2.2.1), .q (.int .i64 (.int .i64 (.int .i64 (.int .i64 (.int .i64 (.int .i64 (.nil))))))) (hdQ (.int .i64 (.int .i64 (.int .i64 (.int .i64 (.int .i64 (.int .i64 (.nil))))))) ds.tail.tail.tail.tail.tail.tail.tail.tail.tail), .q (.int .i64 (.int .i64 (.int .i64 (.int .i64 (.int .i64 (.int .i64 (.nil))))))) (hdQ (.int .i64 (.int .i64 (.int .i64 (.int .i64 (.int .i64 (.int .i64 (.nil))))))) ds.tail.tail.tail.tail.tail.tail.tail.tail.tail.tail)]) k := by kernel_rfl
  have h2 := draymanref31_with_l0_eq draymanref31_ahead 1000 (hdQ (.int .i64 (.int .i64 (.int .i64 (.int .i64 (.int .i64 (.int .i64 (.nil))))))) ds) (hdB ds.tail) (hdI ds.tail.tail) (hdI ds.tail.tail.tail, hdI ds.tail.tail.tail.tail, hdI ds.tail.tail.tail.tail.tail, hdI ds.tail.tail.tail.tail.tail.tail, hdI ds.tail.tail.tail.tail.tail.tail.tail, hdI ds.tail.tail.tail.tail.tail.tail.tail.tail, ()) (hdQ (.int .i64 (.int .i64 (.int .i64 (.int .i64 (.int .i64 (.int .i64 (.nil))))))) ds.tail.tail.tail.tail.tail.tail.tail.tail.tail) (hdQ (.int .i64 (.int .i64 (.int .i64 (.int .i64 (.int .i64 (.int .i64 (.nil))))))) ds.tail.tail.tail.tail.tail.tail.tail.tail.tail.tail) k
  exact h1.trans h2

theorem draymanref31_with_ev {α : Type} (draymanref31_ahead : draymanref31_ahead_T α) : EvOk (α := α) Go.Proofs.Try.prog (envOf (draymanref31_with_C draymanref31_ahead) draymanref31_with_q draymanref31_with_inl 1000 draymanref31_with_ann false (draymanref31_with_loops draymanref31_ahead) (fun _ => none)) 6 (draymanref31_with_sp (draymanref31_with_g draymanref31_ahead)) := by intro ds k; kernel_rfl

theorem draymanref31_with_ok {α : Type} : (draymanref31_with_spec : FunSpec α).ok Go.Proofs.Try.prog :=
  FunSpec.ok_of (sp := draymanref31_with_spec) (C := draymanref31_with_C draymanref31_ahead) (q := draymanref31_with_q) (inl := draymanref31_with_inl) (N := 1000) (ann := draymanref31_with_ann) (fr := false) (D := 6) (l := (draymanref31_with_loops draymanref31_ahead)) (hk := (fun _ => none)) (okCons draymanref31_ahead_ok okNil) (lokCons (draymanref31_with_l0_ok draymanref31_ahead) lokNil) noHooks (draymanref31_with_ev draymanref31_ahead)

end
end Go.Rv.Try

set_option linter.unusedVariables false
set_option maxRecDepth 100000
set_option maxHeartbeats 4000000
namespace Go.Rv.Try
open Go Go.Rv Go.RowKit
noncomputable section

-- drayman/draymanref31.back

abbrev draymanref31_back_T (α : Type) : Type := (Seq Z1) → Z1 → Bool → Z0 → Int → ((Seq Z1) → Int → Bool → Option α) → Option α

noncomputable def draymanref31_back_g {α : Type} (draymanref31_with : draymanref31_with_T α) (l1 : Seq Z1) (x2 : Int × Int × Int × Int × Int × Int × Unit) (is3 : Bool) (x4 : Int × Int × Int × Bool × Int × Int × Bool × Unit) (verdict5 : Int) (k : (Seq Z1) → Int → Bool → Option α) : Option α :=
  (cond is3
    (cond (x2.2.2.1 != 2)
      (k l1 1 false)
      (cond (verdict5 != 1)
        (k l1 2 false)
        (cond is3
          (draymanref31_with l1 (x2.1, x2.2.1, 4, x2.2.2.2.1, 1, x2.2.2.2.2.2.1, ()) fun r6 =>
            (k r6 1 true))
          (draymanref31_with l1 (x4.2.1, x4.2.2.1, 3, 0, 0, x4.2.2.2.2.2.1, ()) fun r7 =>
            (k r7 1 false)))))
    (cond (verdict5 != 1)
      (k l1 2 false)
      (cond is3
        (draymanref31_with l1 (x2.1, x2.2.1, 4, x2.2.2.2.1, 1, x2.2.2.2.2.2.1, ()) fun r8 =>
          (k r8 1 true))
        (draymanref31_with l1 (x4.2.1, x4.2.2.1, 3, 0, 0, x4.2.2.2.2.2.1, ()) fun r9 =>
          (k r9 1 false)))))

noncomputable def draymanref31_back {α : Type} : draymanref31_back_T α := draymanref31_back_g draymanref31_with

noncomputable def draymanref31_back_sp {α : Type} (draymanref31_back : draymanref31_back_T α) : FunSpec α := ⟨67, [.sl (.int .i64 (.int .i64 (.int .i64 (.int .i64 (.int .i64 (.int .i64 (.nil))))))), .agg [.int .i64, .int .i64, .int .i64, .int .i64, .int .i64, .int .i64], .bool, .agg [.int .i64, .int .i64, .int .i64, .bool, .int .i64, .int .i64, .bool], .int .i64], [], fun ds k => draymanref31_back (hdQ (.int .i64 (.int .i64 (.int .i64 (.int .i64 (.int .i64 (.int .i64 (.nil))))))) ds) (hdI ds.tail, hdI ds.tail.tail, hdI ds.tail.tail.tail, hdI ds.tail.tail.tail.tail, hdI ds.tail.tail.tail.tail.tail, hdI ds.tail.tail.tail.tail.tail.tail, ()) (hdB ds.tail.tail.tail.tail.tail.tail.tail) (hdI ds.tail.tail.tail.tail.tail.tail.tail.tail, hdI ds.tail.tail.tail.tail.tail.tail.tail.tail.tail, hdI ds.tail.tail.tail.tail.tail.tail.tail.tail.tail.tail, hdB ds.tail.tail.tail.tail.tail.tail.tail.tail.tail.tail.tail, hdI ds.tail.tail.tail.tail.tail.tail.tail.tail.tail.tail.tail.tail, hdI ds.tail.tail.tail.tail.tail.tail.tail.tail.tail.tail.tail.tail.tail, hdB ds.tail.tail.tail.tail.tail.tail.tail.tail.tail.tail.tail.tail.tail.tail, ()) (hdI ds.tail.tail.tail.tail.tail.tail.tail.tail.tail.tail.tail.tail.tail.tail.tail) (fun r1 r2 r3 => k (enc dep (.tup [.sl (.int .i64 (.int .i64 (.int .i64 (.int .i64 (.int .i64 (.int .i64 (.nil))))))), .int .i64, .bool]) [.q (.int .i64 (.int .i64 (.int .i64 (.int .i64 (.int .i64 (.int .i64 (.nil))))))) r1, .i r2, .b r3]).1 [])⟩

noncomputable def draymanref31_back_spec {α : Type} : FunSpec α := draymanref31_back_sp draymanref31_back

noncomputable def draymanref31_back_C {α : Type} (draymanref31_with : draymanref31_with_T α) : List (FunSpec α) := [draymanref31_with_sp draymanref31_with]

noncomputable def draymanref31_back_q : FuncId → Bool := fun f => false

noncomputable def draymanref31_back_inl : FuncId → Bool := fun f => false

noncomputable def draymanref31_back_ann : FuncId → AnnT := fun f p => ⟨[], [], [], [], 0, [], [], none⟩

noncomputable def draymanref31_back_loops {α : Type} (draymanref31_with : draymanref31_with_T α) : List (LoopSpec α) := []

theorem draymanref31_back_ev {α : Type} (draymanref31_with : draymanref31_with_T α) : EvOk (α := α) Go.Proofs.Try.prog (envOf (draymanref31_back_C draymanref31_with) draymanref31_back_q draymanref31_back_inl 1000 draymanref31_back_ann true (draymanref31_back_loops draymanref31_with) (fun _ => none)) 6 (draymanref31_back_sp (draymanref31_back_g draymanref31_with)) := by intro ds k; kernel_rfl

theorem draymanref31_back_ok {α : Type} : (draymanref31_back_spec : FunSpec α).ok Go.Proofs.Try.prog :=
  FunSpec.ok_of (sp := draymanref31_back_spec) (C := draymanref31_back_C draymanref31_with) (q := draymanref31_back_q) (inl := draymanref31_back_inl) (N := 1000) (ann := draymanref31_back_ann) (fr := true) (D := 6) (l := (draymanref31_back_loops draymanref31_with)) (hk := (fun _ => none)) (okCons draymanref31_with_ok okNil) lokNil noHooks (draymanref31_back_ev draymanref31_with)

end
end Go.Rv.Try

set_option linter.unusedVariables false
set_option maxRecDepth 100000
set_option maxHeartbeats 4000000
namespace Go.Rv.Try
open Go Go.Rv Go.RowKit
noncomputable section

-- drayman/draymanref31.there

abbrev draymanref31_there_T (α : Type) : Type := (Seq Z1) → Z1 → Bool → Z0 → Int → ((Seq Z1) → Int → Bool → Option α) → Option α

noncomputable def draymanref31_there_g {α : Type} (draymanref31_with : draymanref31_with_T α) (l1 : Seq Z1) (x2 : Int × Int × Int × Int × Int × Int × Unit) (is3 : Bool) (x4 : Int × Int × Int × Bool × Int × Int × Bool × Unit) (verdict5 : Int) (k : (Seq Z1) → Int → Bool → Option α) : Option α :=
  (cond is3
    (cond (x2.2.2.1 == 2)
      (k l1 1 false)
      (cond is3
        (k l1 3 false)
        (cond (verdict5 == 1)
          (draymanref31_with l1 (x4.2.1, x4.2.2.1, 2, 1, 0, x4.2.2.2.2.2.1, ()) fun r6 =>
            (k r6 1 true))
          (cond (verdict5 == 3)
            (cond (!x4.2.2.2.2.2.2.1)
              (draymanref31_with l1 (x4.2.1, x4.2.2.1, 5, 0, 0, x4.2.2.2.2.2.1, ()) fun r7 =>
                (k r7 3 false))
              (k l1 2 false))
            (k l1 2 false)))))
    (cond is3
      (k l1 3 false)
      (cond (verdict5 == 1)
        (draymanref31_with l1 (x4.2.1, x4.2.2.1, 2, 1, 0, x4.2.2.2.2.2.1, ()) fun r8 =>
          (k r8 1 true))
        (cond (verdict5 == 3)
          (cond (!x4.2.2.2.2.2.2.1)
            (draymanref31_with l1 (x4.2.1, x4.2.2.1, 5, 0, 0, x4.2.2.2.2.2.1, ()) fun r9 =>
              (k r9 3 false))
            (k l1 2 false))
          (k l1 2 false)))))

noncomputable def draymanref31_there {α : Type} : draymanref31_there_T α := draymanref31_there_g draymanref31_with

noncomputable def draymanref31_there_sp {α : Type} (draymanref31_there : draymanref31_there_T α) : FunSpec α := ⟨68, [.sl (.int .i64 (.int .i64 (.int .i64 (.int .i64 (.int .i64 (.int .i64 (.nil))))))), .agg [.int .i64, .int .i64, .int .i64, .int .i64, .int .i64, .int .i64], .bool, .agg [.int .i64, .int .i64, .int .i64, .bool, .int .i64, .int .i64, .bool], .int .i64], [], fun ds k => draymanref31_there (hdQ (.int .i64 (.int .i64 (.int .i64 (.int .i64 (.int .i64 (.int .i64 (.nil))))))) ds) (hdI ds.tail, hdI ds.tail.tail, hdI ds.tail.tail.tail, hdI ds.tail.tail.tail.tail, hdI ds.tail.tail.tail.tail.tail, hdI ds.tail.tail.tail.tail.tail.tail, ()) (hdB ds.tail.tail.tail.tail.tail.tail.tail) (hdI ds.tail.tail.tail.tail.tail.tail.tail.tail, hdI ds.tail.tail.tail.tail.tail.tail.tail.tail.tail, hdI ds.tail.tail.tail.tail.tail.tail.tail.tail.tail.tail, hdB ds.tail.tail.tail.tail.tail.tail.tail.tail.tail.tail.tail, hdI ds.tail.tail.tail.tail.tail.tail.tail.tail.tail.tail.tail.tail, hdI ds.tail.tail.tail.tail.tail.tail.tail.tail.tail.tail.tail.tail.tail, hdB ds.tail.tail.tail.tail.tail.tail.tail.tail.tail.tail.tail.tail.tail.tail, ()) (hdI ds.tail.tail.tail.tail.tail.tail.tail.tail.tail.tail.tail.tail.tail.tail.tail) (fun r1 r2 r3 => k (enc dep (.tup [.sl (.int .i64 (.int .i64 (.int .i64 (.int .i64 (.int .i64 (.int .i64 (.nil))))))), .int .i64, .bool]) [.q (.int .i64 (.int .i64 (.int .i64 (.int .i64 (.int .i64 (.int .i64 (.nil))))))) r1, .i r2, .b r3]).1 [])⟩

noncomputable def draymanref31_there_spec {α : Type} : FunSpec α := draymanref31_there_sp draymanref31_there

noncomputable def draymanref31_there_C {α : Type} (draymanref31_with : draymanref31_with_T α) : List (FunSpec α) := [draymanref31_with_sp draymanref31_with]

noncomputable def draymanref31_there_q : FuncId → Bool := fun f => false

noncomputable def draymanref31_there_inl : FuncId → Bool := fun f => false

noncomputable def draymanref31_there_ann : FuncId → AnnT := fun f p => ⟨[], [], [], [], 0, [], [], none⟩

noncomputable def draymanref31_there_loops {α : Type} (draymanref31_with : draymanref31_with_T α) : List (LoopSpec α) := []

theorem draymanref31_there_ev {α : Type} (draymanref31_with : draymanref31_with_T α) : EvOk (α := α) Go.Proofs.Try.prog (envOf (draymanref31_there_C draymanref31_with) draymanref31_there_q draymanref31_there_inl 1000 draymanref31_there_ann true (draymanref31_there_loops draymanref31_with) (fun _ => none)) 6 (draymanref31_there_sp (draymanref31_there_g draymanref31_with)) := by intro ds k; kernel_rfl

theorem draymanref31_there_ok {α : Type} : (draymanref31_there_spec : FunSpec α).ok Go.Proofs.Try.prog :=
  FunSpec.ok_of (sp := draymanref31_there_spec) (C := draymanref31_there_C draymanref31_with) (q := draymanref31_there_q) (inl := draymanref31_there_inl) (N := 1000) (ann := draymanref31_there_ann) (fr := true) (D := 6) (l := (draymanref31_there_loops draymanref31_with)) (hk := (fun _ => none)) (okCons draymanref31_with_ok okNil) lokNil noHooks (draymanref31_there_ev draymanref31_with)

end
end Go.Rv.Try

set_option linter.unusedVariables false
set_option maxRecDepth 100000
set_option maxHeartbeats 4000000
namespace Go.Rv.Try
open Go Go.Rv Go.RowKit
noncomputable section

-- drayman/draymanref31.Come

abbrev draymanref31_Come_T (α : Type) : Type := (Seq Z1) → Z0 → Int → ((Seq Z1) → Int → Bool → Int → Option α) → Option α

noncomputable def draymanref31_Come_g {α : Type} (draymanref31_Fit : draymanref31_Fit_T α) (draymanref17_One : draymanref17_One_T α) (draymanref31_Find : draymanref31_Find_T α) (draymanref31_back : draymanref31_back_T α) (draymanref31_there : draymanref31_there_T α) (x1 : Seq Z1) (x2 : Int × Int × Int × Bool × Int × Int × Bool × Unit) (x3 : Int) (k : (Seq Z1) → Int → Bool → Int → Option α) : Option α :=
  (draymanref31_Fit x1 fun r4 =>
    (cond (!r4)
      (k (⟨true, 0, (fun _ => (0, 0, 0, 0, 0, 0, ()))⟩ : Seq Z1) 0 false 12)
      (draymanref17_One x2 fun r5 =>
        (cond (!(!r5))
          (cond (!(decide (x3 < 1)))
            (cond (decide (x3 > 3))
              (k (⟨true, 0, (fun _ => (0, 0, 0, 0, 0, 0, ()))⟩ : Seq Z1) 0 false 1)
              (draymanref31_Find x1 x2.2.1 x2.2.2.1 fun r6 r7 =>
                (cond x2.2.2.2.1
                  (draymanref31_back x1 r6 r7 x2 x3 fun r8 r9 r10 =>
                    (k r8 r9 r10 0))
                  (draymanref31_there x1 r6 r7 x2 x3 fun r11 r12 r13 =>
                    (k r11 r12 r13 0)))))
            (k (⟨true, 0, (fun _ => (0, 0, 0, 0, 0, 0, ()))⟩ : Seq Z1) 0 false 1))
          (k (⟨true, 0, (fun _ => (0, 0, 0, 0, 0, 0, ()))⟩ : Seq Z1) 0 false 1)))))

noncomputable def draymanref31_Come {α : Type} : draymanref31_Come_T α := draymanref31_Come_g draymanref31_Fit draymanref17_One draymanref31_Find draymanref31_back draymanref31_there

noncomputable def draymanref31_Come_sp {α : Type} (draymanref31_Come : draymanref31_Come_T α) : FunSpec α := ⟨42, [.sl (.int .i64 (.int .i64 (.int .i64 (.int .i64 (.int .i64 (.int .i64 (.nil))))))), .agg [.int .i64, .int .i64, .int .i64, .bool, .int .i64, .int .i64, .bool], .int .i64], [], fun ds k => draymanref31_Come (hdQ (.int .i64 (.int .i64 (.int .i64 (.int .i64 (.int .i64 (.int .i64 (.nil))))))) ds) (hdI ds.tail, hdI ds.tail.tail, hdI ds.tail.tail.tail, hdB ds.tail.tail.tail.tail, hdI ds.tail.tail.tail.tail.tail, hdI ds.tail.tail.tail.tail.tail.tail, hdB ds.tail.tail.tail.tail.tail.tail.tail, ()) (hdI ds.tail.tail.tail.tail.tail.tail.tail.tail) (fun r1 r2 r3 r4 => k (enc dep (.tup [.sl (.int .i64 (.int .i64 (.int .i64 (.int .i64 (.int .i64 (.int .i64 (.nil))))))), .int .i64, .bool, .int .i64]) [.q (.int .i64 (.int .i64 (.int .i64 (.int .i64 (.int .i64 (.int .i64 (.nil))))))) r1, .i r2, .b r3, .i r4]).1 [])⟩

noncomputable def draymanref31_Come_spec {α : Type} : FunSpec α := draymanref31_Come_sp draymanref31_Come

noncomputable def draymanref31_Come_C {α : Type} (draymanref31_Fit : draymanref31_Fit_T α) (draymanref17_One : draymanref17_One_T α) (draymanref31_Find : draymanref31_Find_T α) (draymanref31_back : draymanref31_back_T α) (draymanref31_there : draymanref31_there_T α) : List (FunSpec α) := [draymanref31_Fit_sp draymanref31_Fit, draymanref17_One_sp draymanref17_One, draymanref31_Find_sp draymanref31_Find, draymanref31_back_sp draymanref31_back, draymanref31_there_sp draymanref31_there]

noncomputable def draymanref31_Come_q : FuncId → Bool := fun f => Nat.beq f 11 || Nat.beq f 43 || Nat.beq f 66

noncomputable def draymanref31_Come_inl : FuncId → Bool := fun f => false

noncomputable def draymanref31_Come_ann : FuncId → AnnT := fun f p => ⟨[], [], [], [], 0, [], [], none⟩

noncomputable def draymanref31_Come_loops {α : Type} (draymanref31_Fit : draymanref31_Fit_T α) (draymanref17_One : draymanref17_One_T α) (draymanref31_Find : draymanref31_Find_T α) (draymanref31_back : draymanref31_back_T α) (draymanref31_there : draymanref31_there_T α) : List (LoopSpec α) := []

theorem draymanref31_Come_ev {α : Type} (draymanref31_Fit : draymanref31_Fit_T α) (draymanref17_One : draymanref17_One_T α) (draymanref31_Find : draymanref31_Find_T α) (draymanref31_back : draymanref31_back_T α) (draymanref31_there : draymanref31_there_T α) : EvOk (α := α) Go.Proofs.Try.prog (envOf (draymanref31_Come_C draymanref31_Fit draymanref17_One draymanref31_Find draymanref31_back draymanref31_there) draymanref31_Come_q draymanref31_Come_inl 1000 draymanref31_Come_ann true (draymanref31_Come_loops draymanref31_Fit draymanref17_One draymanref31_Find draymanref31_back draymanref31_there) (fun _ => none)) 6 (draymanref31_Come_sp (draymanref31_Come_g draymanref31_Fit draymanref17_One draymanref31_Find draymanref31_back draymanref31_there)) := by intro ds k; kernel_rfl

theorem draymanref31_Come_ok {α : Type} : (draymanref31_Come_spec : FunSpec α).ok Go.Proofs.Try.prog :=
  FunSpec.ok_of (sp := draymanref31_Come_spec) (C := draymanref31_Come_C draymanref31_Fit draymanref17_One draymanref31_Find draymanref31_back draymanref31_there) (q := draymanref31_Come_q) (inl := draymanref31_Come_inl) (N := 1000) (ann := draymanref31_Come_ann) (fr := true) (D := 6) (l := (draymanref31_Come_loops draymanref31_Fit draymanref17_One draymanref31_Find draymanref31_back draymanref31_there)) (hk := (fun _ => none)) (okCons draymanref31_Fit_ok (okCons draymanref17_One_ok (okCons draymanref31_Find_ok (okCons draymanref31_back_ok (okCons draymanref31_there_ok okNil))))) lokNil noHooks (draymanref31_Come_ev draymanref31_Fit draymanref17_One draymanref31_Find draymanref31_back draymanref31_there)

end
end Go.Rv.Try

set_option linter.unusedVariables false
set_option maxRecDepth 100000
set_option maxHeartbeats 4000000
namespace Go.Rv.Try
open Go Go.Rv Go.RowKit
noncomputable section

-- drayman/draymanref32.Come

abbrev draymanref32_Come_T (α : Type) : Type := ((Seq Z1) × Int × Int × Int × Unit) → Z0 → Int → (((Seq Z1) × Int × Int × Int × Unit) → (Int × Int × Int × Int × Bool × Int × Int × Unit) → Int → Option α) → Option α

noncomputable def draymanref32_Come_g {α : Type} (draymanref32_Fit : draymanref32_Fit_T α) (draymanref17_Service : draymanref17_Service_T α) (draymanref31_Come : draymanref31_Come_T α) (draymanref31_Find : draymanref31_Find_T α) (draymanref32_within : draymanref32_within_T α) (x1 : (Seq Z1) × Int × Int × Int × Unit) (x2 : Int × Int × Int × Bool × Int × Int × Bool × Unit) (x3 : Int) (k : ((Seq Z1) × Int × Int × Int × Unit) → (Int × Int × Int × Int × Bool × Int × Int × Unit) → Int → Option α) : Option α :=
  (draymanref32_Fit x1 fun r4 =>
    (cond (!r4)
      (k ((⟨true, 0, (fun _ => (0, 0, 0, 0, 0, 0, ()))⟩ : Seq Z1), 0, 0, 0, ()) (0, 0, 0, 0, false, 0, 0, ()) 12)
      (draymanref17_Service x2.2.2.2.2.1 fun r5 =>
        (cond (r5 != 1)
          (k ((⟨true, 0, (fun _ => (0, 0, 0, 0, 0, 0, ()))⟩ : Seq Z1), 0, 0, 0, ()) (0, 0, 0, 0, false, 0, 0, ()) 1)
          (draymanref31_Come x1.1 x2 x3 fun r6 r7 r8 r9 =>
            (cond (r9 != 0)
              (k ((⟨true, 0, (fun _ => (0, 0, 0, 0, 0, 0, ()))⟩ : Seq Z1), 0, 0, 0, ()) (0, 0, 0, 0, false, 0, 0, ()) r9)
              (cond r8
                (draymanref31_Find r6 x2.2.1 x2.2.2.1 fun r10 r11 =>
                  (cond x2.2.2.2.1
                    (cond (x2.2.2.2.2.1 == 2)
                      (cond (!(x1.2.1 == 1099511627776))
                        (draymanref32_within (IntKind.i64.wrap (x1.2.2.1 + (IntKind.i64.wrap (0 - r10.2.2.2.2.2.1)))) fun r12 =>
                          (cond (!(!r12))
                            (draymanref32_within x1.2.2.2.1 fun r13 =>
                              (cond (!r13)
                                (k ((⟨true, 0, (fun _ => (0, 0, 0, 0, 0, 0, ()))⟩ : Seq Z1), 0, 0, 0, ()) (0, 0, 0, 0, false, 0, 0, ()) 5)
                                (k (r6, (IntKind.i64.wrap (x1.2.1 + 1)), (IntKind.i64.wrap (x1.2.2.1 + (IntKind.i64.wrap (0 - r10.2.2.2.2.2.1)))), x1.2.2.2.1, ()) (1, x1.2.1, x2.2.1, x2.2.2.1, x2.2.2.2.1, x2.1, r7, ()) 0)))
                            (k ((⟨true, 0, (fun _ => (0, 0, 0, 0, 0, 0, ()))⟩ : Seq Z1), 0, 0, 0, ()) (0, 0, 0, 0, false, 0, 0, ()) 5)))
                        (k ((⟨true, 0, (fun _ => (0, 0, 0, 0, 0, 0, ()))⟩ : Seq Z1), 0, 0, 0, ()) (0, 0, 0, 0, false, 0, 0, ()) 5))
                      (cond (!(x1.2.1 == 1099511627776))
                        (draymanref32_within (IntKind.i64.wrap (x1.2.2.1 - (IntKind.i64.wrap (0 - r10.2.2.2.2.2.1)))) fun r14 =>
                          (cond (!(!r14))
                            (draymanref32_within (IntKind.i64.wrap (x1.2.2.2.1 + (IntKind.i64.wrap (0 - r10.2.2.2.2.2.1)))) fun r15 =>
                              (cond (!r15)
                                (k ((⟨true, 0, (fun _ => (0, 0, 0, 0, 0, 0, ()))⟩ : Seq Z1), 0, 0, 0, ()) (0, 0, 0, 0, false, 0, 0, ()) 5)
                                (k (r6, (IntKind.i64.wrap (x1.2.1 + 1)), (IntKind.i64.wrap (x1.2.2.1 - (IntKind.i64.wrap (0 - r10.2.2.2.2.2.1)))), (IntKind.i64.wrap (x1.2.2.2.1 + (IntKind.i64.wrap (0 - r10.2.2.2.2.2.1)))), ()) (1, x1.2.1, x2.2.1, x2.2.2.1, x2.2.2.2.1, x2.1, r7, ()) 0)))
                            (k ((⟨true, 0, (fun _ => (0, 0, 0, 0, 0, 0, ()))⟩ : Seq Z1), 0, 0, 0, ()) (0, 0, 0, 0, false, 0, 0, ()) 5)))
                        (k ((⟨true, 0, (fun _ => (0, 0, 0, 0, 0, 0, ()))⟩ : Seq Z1), 0, 0, 0, ()) (0, 0, 0, 0, false, 0, 0, ()) 5)))
                    (cond (x2.2.2.2.2.1 == 2)
                      (cond (!(x1.2.1 == 1099511627776))
                        (draymanref32_within (IntKind.i64.wrap (x1.2.2.1 + r10.2.2.2.2.2.1)) fun r16 =>
                          (cond (!(!r16))
                            (draymanref32_within x1.2.2.2.1 fun r17 =>
                              (cond (!r17)
                                (k ((⟨true, 0, (fun _ => (0, 0, 0, 0, 0, 0, ()))⟩ : Seq Z1), 0, 0, 0, ()) (0, 0, 0, 0, false, 0, 0, ()) 5)
                                (k (r6, (IntKind.i64.wrap (x1.2.1 + 1)), (IntKind.i64.wrap (x1.2.2.1 + r10.2.2.2.2.2.1)), x1.2.2.2.1, ()) (1, x1.2.1, x2.2.1, x2.2.2.1, x2.2.2.2.1, x2.1, r7, ()) 0)))
                            (k ((⟨true, 0, (fun _ => (0, 0, 0, 0, 0, 0, ()))⟩ : Seq Z1), 0, 0, 0, ()) (0, 0, 0, 0, false, 0, 0, ()) 5)))
                        (k ((⟨true, 0, (fun _ => (0, 0, 0, 0, 0, 0, ()))⟩ : Seq Z1), 0, 0, 0, ()) (0, 0, 0, 0, false, 0, 0, ()) 5))
                      (cond (!(x1.2.1 == 1099511627776))
                        (draymanref32_within (IntKind.i64.wrap (x1.2.2.1 - r10.2.2.2.2.2.1)) fun r18 =>
                          (cond (!(!r18))
                            (draymanref32_within (IntKind.i64.wrap (x1.2.2.2.1 + r10.2.2.2.2.2.1)) fun r19 =>
                              (cond (!r19)
                                (k ((⟨true, 0, (fun _ => (0, 0, 0, 0, 0, 0, ()))⟩ : Seq Z1), 0, 0, 0, ()) (0, 0, 0, 0, false, 0, 0, ()) 5)
                                (k (r6, (IntKind.i64.wrap (x1.2.1 + 1)), (IntKind.i64.wrap (x1.2.2.1 - r10.2.2.2.2.2.1)), (IntKind.i64.wrap (x1.2.2.2.1 + r10.2.2.2.2.2.1)), ()) (1, x1.2.1, x2.2.1, x2.2.2.1, x2.2.2.2.1, x2.1, r7, ()) 0)))
                            (k ((⟨true, 0, (fun _ => (0, 0, 0, 0, 0, 0, ()))⟩ : Seq Z1), 0, 0, 0, ()) (0, 0, 0, 0, false, 0, 0, ()) 5)))
                        (k ((⟨true, 0, (fun _ => (0, 0, 0, 0, 0, 0, ()))⟩ : Seq Z1), 0, 0, 0, ()) (0, 0, 0, 0, false, 0, 0, ()) 5)))))
                (cond (!(x1.2.1 == 1099511627776))
                  (draymanref32_within x1.2.2.1 fun r20 =>
                    (cond (!(!r20))
                      (draymanref32_within x1.2.2.2.1 fun r21 =>
                        (cond (!r21)
                          (k ((⟨true, 0, (fun _ => (0, 0, 0, 0, 0, 0, ()))⟩ : Seq Z1), 0, 0, 0, ()) (0, 0, 0, 0, false, 0, 0, ()) 5)
                          (k (r6, (IntKind.i64.wrap (x1.2.1 + 1)), x1.2.2.1, x1.2.2.2.1, ()) (1, x1.2.1, x2.2.1, x2.2.2.1, x2.2.2.2.1, x2.1, r7, ()) 0)))
                      (k ((⟨true, 0, (fun _ => (0, 0, 0, 0, 0, 0, ()))⟩ : Seq Z1), 0, 0, 0, ()) (0, 0, 0, 0, false, 0, 0, ()) 5)))
                  (k ((⟨true, 0, (fun _ => (0, 0, 0, 0, 0, 0, ()))⟩ : Seq Z1), 0, 0, 0, ()) (0, 0, 0, 0, false, 0, 0, ()) 5)))))))))

noncomputable def draymanref32_Come {α : Type} : draymanref32_Come_T α := draymanref32_Come_g draymanref32_Fit draymanref17_Service draymanref31_Come draymanref31_Find draymanref32_within

noncomputable def draymanref32_Come_sp {α : Type} (draymanref32_Come : draymanref32_Come_T α) : FunSpec α := ⟨13, [.agg [.sl (.int .i64 (.int .i64 (.int .i64 (.int .i64 (.int .i64 (.int .i64 (.nil))))))), .int .i64, .int .i64, .int .i64], .agg [.int .i64, .int .i64, .int .i64, .bool, .int .i64, .int .i64, .bool], .int .i64], [], fun ds k => draymanref32_Come (hdQ (.int .i64 (.int .i64 (.int .i64 (.int .i64 (.int .i64 (.int .i64 (.nil))))))) ds, hdI ds.tail, hdI ds.tail.tail, hdI ds.tail.tail.tail, ()) (hdI ds.tail.tail.tail.tail, hdI ds.tail.tail.tail.tail.tail, hdI ds.tail.tail.tail.tail.tail.tail, hdB ds.tail.tail.tail.tail.tail.tail.tail, hdI ds.tail.tail.tail.tail.tail.tail.tail.tail, hdI ds.tail.tail.tail.tail.tail.tail.tail.tail.tail, hdB ds.tail.tail.tail.tail.tail.tail.tail.tail.tail.tail, ()) (hdI ds.tail.tail.tail.tail.tail.tail.tail.tail.tail.tail.tail) (fun r1 r2 r3 => k (enc dep (.tup [.agg [.sl (.int .i64 (.int .i64 (.int .i64 (.int .i64 (.int .i64 (.int .i64 (.nil))))))), .int .i64, .int .i64, .int .i64], .agg [.int .i64, .int .i64, .int .i64, .int .i64, .bool, .int .i64, .int .i64], .int .i64]) [.q (.int .i64 (.int .i64 (.int .i64 (.int .i64 (.int .i64 (.int .i64 (.nil))))))) r1.1, .i r1.2.1, .i r1.2.2.1, .i r1.2.2.2.1, .i r2.1, .i r2.2.1, .i r2.2.2.1, .i r2.2.2.2.1, .b r2.2.2.2.2.1, .i r2.2.2.2.2.2.1, .i r2.2.2.2.2.2.2.1, .i r3]).1 [])⟩

noncomputable def draymanref32_Come_spec {α : Type} : FunSpec α := draymanref32_Come_sp draymanref32_Come

noncomputable def draymanref32_Come_C {α : Type} (draymanref32_Fit : draymanref32_Fit_T α) (draymanref17_Service : draymanref17_Service_T α) (draymanref31_Come : draymanref31_Come_T α) (draymanref31_Find : draymanref31_Find_T α) (draymanref32_within : draymanref32_within_T α) : List (FunSpec α) := [draymanref32_Fit_sp draymanref32_Fit, draymanref17_Service_sp draymanref17_Service, draymanref31_Come_sp draymanref31_Come, draymanref31_Find_sp draymanref31_Find, draymanref32_within_sp draymanref32_within]

noncomputable def draymanref32_Come_q : FuncId → Bool := fun f => Nat.beq f 15 || Nat.beq f 41 || Nat.beq f 43 || Nat.beq f 44

noncomputable def draymanref32_Come_inl : FuncId → Bool := fun f => false

noncomputable def draymanref32_Come_ann : FuncId → AnnT := fun f p => if f = 13 then (if p = [false, true, true, true, true, true, true, true, true] then ⟨[], [2, 3], [], [], 2, [], [], none⟩ else ⟨[], [], [], [], 0, [], [], none⟩) else ⟨[], [], [], [], 0, [], [], none⟩

noncomputable def draymanref32_Come_loops {α : Type} (draymanref32_Fit : draymanref32_Fit_T α) (draymanref17_Service : draymanref17_Service_T α) (draymanref31_Come : draymanref31_Come_T α) (draymanref31_Find : draymanref31_Find_T α) (draymanref32_within : draymanref32_within_T α) : List (LoopSpec α) := []

theorem draymanref32_Come_ev {α : Type} (draymanref32_Fit : draymanref32_Fit_T α) (draymanref17_Service : draymanref17_Service_T α) (draymanref31_Come : draymanref31_Come_T α) (draymanref31_Find : draymanref31_Find_T α) (draymanref32_within : draymanref32_within_T α) : EvOk (α := α) Go.Proofs.Try.prog (envOf (draymanref32_Come_C draymanref32_Fit draymanref17_Service draymanref31_Come draymanref31_Find draymanref32_within) draymanref32_Come_q draymanref32_Come_inl 1000 draymanref32_Come_ann false (draymanref32_Come_loops draymanref32_Fit draymanref17_Service draymanref31_Come draymanref31_Find draymanref32_within) (fun _ => none)) 6 (draymanref32_Come_sp (draymanref32_Come_g draymanref32_Fit draymanref17_Service draymanref31_Come draymanref31_Find draymanref32_within)) := by intro ds k; kernel_rfl

theorem draymanref32_Come_ok {α : Type} : (draymanref32_Come_spec : FunSpec α).ok Go.Proofs.Try.prog :=
  FunSpec.ok_of (sp := draymanref32_Come_spec) (C := draymanref32_Come_C draymanref32_Fit draymanref17_Service draymanref31_Come draymanref31_Find draymanref32_within) (q := draymanref32_Come_q) (inl := draymanref32_Come_inl) (N := 1000) (ann := draymanref32_Come_ann) (fr := false) (D := 6) (l := (draymanref32_Come_loops draymanref32_Fit draymanref17_Service draymanref31_Come draymanref31_Find draymanref32_within)) (hk := (fun _ => none)) (okCons draymanref32_Fit_ok (okCons draymanref17_Service_ok (okCons draymanref31_Come_ok (okCons draymanref31_Find_ok (okCons draymanref32_within_ok okNil))))) lokNil noHooks (draymanref32_Come_ev draymanref32_Fit draymanref17_Service draymanref31_Come draymanref31_Find draymanref32_within)

end
end Go.Rv.Try

set_option linter.unusedVariables false
set_option maxRecDepth 100000
set_option maxHeartbeats 4000000
namespace Go.Rv.Try
open Go Go.Rv Go.RowKit
noncomputable section

-- drayman/draymanref31.Same

abbrev draymanref31_Same_T (α : Type) : Type := (Seq Z1) → (Seq Z1) → (Bool → Option α) → Option α

noncomputable def draymanref31_Same_l0_step {α : Type} (kr : (Bool) → Option α) (k0 : Option α) (rec : (Seq Z1) → (Seq Z1) → (Int) → Option α) (a3 : Seq Z1) (b4 : Seq Z1) (i5 : Int) : Option α :=
  (cond (decide (i5 < (a3.n : Int)))
    (cond (((decide ((0 : Int) ≤ i5)) && (decide (i5 < (a3.n : Int)))) && ((decide ((0 : Int) ≤ i5)) && (decide (i5 < (a3.n : Int)))))
      (cond (((decide ((0 : Int) ≤ i5)) && (decide (i5 < (b4.n : Int)))) && ((decide ((0 : Int) ≤ i5)) && (decide (i5 < (b4.n : Int)))))
        (cond (!(((a3.g i5.toNat).1 == (b4.g i5.toNat).1) && (((a3.g i5.toNat).2.1 == (b4.g i5.toNat).2.1) && (((a3.g i5.toNat).2.2.1 == (b4.g i5.toNat).2.2.1) && (((a3.g i5.toNat).2.2.2.1 == (b4.g i5.toNat).2.2.2.1) && (((a3.g i5.toNat).2.2.2.2.1 == (b4.g i5.toNat).2.2.2.2.1) && (((a3.g i5.toNat).2.2.2.2.2.1 == (b4.g i5.toNat).2.2.2.2.2.1) && true)))))))
          (kr false)
          (rec a3 b4 (IntKind.i64.wrap (i5 + 1))))
        none)
      none)
    (k0))

noncomputable def draymanref31_Same_l0_run {α : Type} (kr : (Bool) → Option α) (k0 : Option α) : Nat → (Seq Z1) → (Seq Z1) → (Int) → Option α
  | 0, _, _, _ => none
  | n + 1, a3, b4, i5 => draymanref31_Same_l0_step kr k0 (fun a3 b4 i5 => draymanref31_Same_l0_run kr k0 n a3 b4 i5) a3 b4 i5

noncomputable def draymanref31_Same {α : Type} (a1 : Seq Z1) (b2 : Seq Z1) (k : Bool → Option α) : Option α :=
  (cond ((a1.n : Int) != (b2.n : Int))
    (k false)
    (draymanref31_Same_l0_run
      (fun x6 =>
        (k x6))
      ((k true))
      1000 a1 b2 0))

noncomputable def draymanref31_Same_sp {α : Type} (draymanref31_Same : draymanref31_Same_T α) : FunSpec α := ⟨46, [.sl (.int .i64 (.int .i64 (.int .i64 (.int .i64 (.int .i64 (.int .i64 (.nil))))))), .sl (.int .i64 (.int .i64 (.int .i64 (.int .i64 (.int .i64 (.int .i64 (.nil)))))))], [], fun ds k => draymanref31_Same (hdQ (.int .i64 (.int .i64 (.int .i64 (.int .i64 (.int .i64 (.int .i64 (.nil))))))) ds) (hdQ (.int .i64 (.int .i64 (.int .i64 (.int .i64 (.int .i64 (.int .i64 (.nil))))))) ds.tail) (fun r1 => k (enc dep (.bool) [.b r1]).1 [])⟩

noncomputable def draymanref31_Same_spec {α : Type} : FunSpec α := draymanref31_Same_sp draymanref31_Same

noncomputable def draymanref31_Same_C {α : Type} : List (FunSpec α) := []

noncomputable def draymanref31_Same_q : FuncId → Bool := fun f => false

noncomputable def draymanref31_Same_inl : FuncId → Bool := fun f => false

noncomputable def draymanref31_Same_ann : FuncId → AnnT := fun f p => if f = 46 then (if p = [true, false, true, true] then ⟨[0, 1, 5], [], [], [4], 0, [], [], none⟩ else ⟨[], [], [], [], 0, [], [], none⟩) else ⟨[], [], [], [], 0, [], [], none⟩

noncomputable def draymanref31_Same_l0_t : List Sh := [.sl (.int .i64 (.int .i64 (.int .i64 (.int .i64 (.int .i64 (.int .i64 (.nil))))))), .sl (.int .i64 (.int .i64 (.int .i64 (.int .i64 (.int .i64 (.int .i64 (.nil))))))), .dead, .dead, .dead, .int .i64, .dead, .dead, .dead, .dead, .dead, .dead, .dead, .dead, .dead, .dead, .dead, .dead, .dead, .dead, .dead, .dead, .dead, .dead, .dead, .dead]
noncomputable def draymanref31_Same_l0_s : List (List Sh) := []
noncomputable def draymanref31_Same_l0_h : List BSh := []

noncomputable def draymanref31_Same_l0_spec {α : Type} : LoopSpec α := ⟨6, 46, [true, false, true, true], draymanref31_Same_l0_t, draymanref31_Same_l0_s, draymanref31_Same_l0_h, fun ds k => draymanref31_Same_l0_run (fun y1 => k .ret (encSt [.dead, .dead, .dead, .dead, .bool, .dead, .dead, .dead, .dead, .dead, .dead, .dead, .dead, .dead, .dead, .dead, .dead, .dead, .dead, .dead, .dead, .dead, .dead, .dead, .dead, .dead] [] [] [.b y1])) (k (.exit 0) (encSt [.dead, .dead, .dead, .dead, .dead, .dead, .dead, .dead, .dead, .dead, .dead, .dead, .dead, .dead, .dead, .dead, .dead, .dead, .dead, .dead, .dead, .dead, .dead, .dead, .dead, .dead] [] [] [])) 1000 (hdQ (.int .i64 (.int .i64 (.int .i64 (.int .i64 (.int .i64 (.int .i64 (.nil))))))) ds) (hdQ (.int .i64 (.int .i64 (.int .i64 (.int .i64 (.int .i64 (.int .i64 (.nil))))))) ds.tail) (hdI ds.tail.tail)⟩

noncomputable def draymanref31_Same_loops {α : Type} : List (LoopSpec α) := [draymanref31_Same_l0_spec]

noncomputable def draymanref31_Same_l0_ev {α : Type} (n : Nat) (st : St) (k : X → St → Option α) : Option α := loopN (evCode Go.Proofs.Try.prog (callD Go.Proofs.Try.prog (envOf (draymanref31_Same_C) draymanref31_Same_q draymanref31_Same_inl 1000 draymanref31_Same_ann false (draymanref31_Same_loops) (fun _ => none)) 6) (((envOf (draymanref31_Same_C) draymanref31_Same_q draymanref31_Same_inl 1000 draymanref31_Same_ann false (draymanref31_Same_loops) (fun _ => none)) : Env α).L 6 46) 1000 (draymanref31_Same_ann 46) (false :: [true, false, true, true]) (loopC Go.Proofs.Try.prog 46 [true, false, true, true])) ((draymanref31_Same_ann 46 [true, false, true, true]).head 0) ((draymanref31_Same_ann 46 [true, false, true, true]).leave 0) n st k

theorem draymanref31_Same_l0_eq {α : Type} : ∀ (n : Nat) (a3 : Seq Z1) (b4 : Seq Z1) (i5 : Int) (k : X → St → Option α), draymanref31_Same_l0_ev n (encSt draymanref31_Same_l0_t draymanref31_Same_l0_s draymanref31_Same_l0_h [.q (.int .i64 (.int .i64 (.int .i64 (.int .i64 (.int .i64 (.int .i64 (.nil))))))) a3, .q (.int .i64 (.int .i64 (.int .i64 (.int .i64 (.int .i64 (.int .i64 (.nil))))))) b4, .i i5]) k = draymanref31_Same_l0_run (fun y1 => k .ret (encSt [.dead, .dead, .dead, .dead, .bool, .dead, .dead, .dead, .dead, .dead, .dead, .dead, .dead, .dead, .dead, .dead, .dead, .dead, .dead, .dead, .dead, .dead, .dead, .dead, .dead, .dead] [] [] [.b y1])) (k (.exit 0) (encSt [.dead, .dead, .dead, .dead, .dead, .dead, .dead, .dead, .dead, .dead, .dead, .dead, .dead, .dead, .dead, .dead, .dead, .dead, .dead, .dead, .dead, .dead, .dead, .dead, .dead, .dead] [] [] [])) n a3 b4 i5 := by
  intro n
  induction n with
  | zero => intros; kernel_rfl
  | succ n ih =>
    intro a3 b4 i5 k
    have e : (fun (a3 : Seq Z1) (b4 : Seq Z1) (i5 : Int) => draymanref31_Same_l0_ev n (encSt draymanref31_Same_l0_t draymanref31_Same_l0_s draymanref31_Same_l0_h [.q (.int .i64 (.int .i64 (.int .i64 (.int .i64 (.int .i64 (.int .i64 (.nil))))))) a3, .q (.int .i64 (.int .i64 (.int .i64 (.int .i64 (.int .i64 (.int .i64 (.nil))))))) b4, .i i5]) k) = (fun (a3 : Seq Z1) (b4 : Seq Z1) (i5 : Int) => draymanref31_Same_l0_run (fun y1 => k .ret (encSt [.dead, .dead, .dead, .dead, .bool, .dead, .dead, .dead, .dead, .dead, .dead, .dead, .dead, .dead, .dead, .dead, .dead, .dead, .dead, .dead, .dead, .dead, .dead, .dead, .dead, .dead] [] [] [.b y1])) (k (.exit 0) (encSt [.dead, .dead, .dead, .dead, .dead, .dead, .dead, .dead, .dead, .dead, .dead, .dead, .dead, .dead, .dead, .dead, .dead, .dead, .dead, .dead, .dead, .dead, .dead, .dead, .dead, .dead] [] [] [])) n a3 b4 i5) := by
      funext a3 b4 i5
      exact ih a3 b4 i5 k
    have h1 : draymanref31_Same_l0_ev (n + 1) (encSt draymanref31_Same_l0_t draymanref31_Same_l0_s draymanref31_Same_l0_h [.q (.int .i64 (.int .i64 (.int .i64 (.int .i64 (.int .i64 (.int .i64 (.nil))))))) a3, .q (.int .i64 (.int .i64 (.int .i64 (.int .i64 (.int .i64 (.int .i64 (.nil))))))) b4, .i i5]) k = draymanref31_Same_l0_step (fun y1 => k .ret (encSt [.dead, .dead, .dead, .dead, .bool, .dead, .dead, .dead, .dead, .dead, .dead, .dead, .dead, .dead, .dead, .dead, .dead, .dead, .dead, .dead, .dead, .dead, .dead, .dead, .dead, .dead] [] [] [.b y1])) (k (.exit 0) (encSt [.dead, .dead, .dead, .dead, .dead, .dead, .dead, .dead, .dead, .dead, .dead, .dead, .dead, .dead, .dead, .dead, .dead, .dead, .dead, .dead, .dead, .dead, .dead, .dead, .dead, .dead] [] [] [])) (fun (a3 : Seq Z1) (b4 : Seq Z1) (i5 : Int) => draymanref31_Same_l0_ev n (encSt draymanref31_Same_l0_t draymanref31_Same_l0_s draymanref31_Same_l0_h [.q (.int .i64 (.int .i64 (.int .i64 (.int .i64 (.int .i64 (.int .i64 (.nil))))))) a3, .q (.int .i64 (.int .i64 (.int .i64 (.int .i64 (.int .i64 (.int .i64 (.nil))))))) b4, .i i5]) k) a3 b4 i5 := by kernel_rfl
    have h2 := congrArg (fun r => draymanref31_Same_l0_step (fun y1 => k .ret (encSt [.dead, .dead, .dead, .dead, .bool, .dead, .dead, .dead, .dead, .dead, .dead, .dead, .dead, .dead, .dead, .dead, .dead, .dead, .dead, .dead, .dead, .dead, .dead, .dead, .dead, .dead] [] [] [.b y1])) (k (.exit 0) (encSt [.dead, .dead, .dead, .dead, .dead, .dead, .dead, .dead, .dead, .dead, .dead, .dead, .dead, .dead, .dead, .dead, .dead, .dead, .dead, .dead, .dead, .dead, .dead, .dead, .dead, .dead] [] [] [])) r a3 b4 i5) e
    have h3 : draymanref31_Same_l0_step (fun y1 => k .ret (encSt [.dead, .dead, .dead, .dead, .bool, .dead, .dead, .dead, .dead, .dead, .dead, .dead, .dead, .dead, .dead, .dead, .dead, .dead, .dead, .dead, .dead, .dead, .dead, .dead, .dead, .dead] [] [] [.b y1])) (k (.exit 0) (encSt [.dead, .dead, .dead, .dead, .dead, .dead, .dead, .dead, .dead, .dead, .dead, .dead, .dead, .dead, .dead, .dead, .dead, .dead, .dead, .dead, .dead, .dead, .dead, .dead, .dead, .dead] [] [] [])) (fun (a3 : Seq Z1) (b4 : Seq Z1) (i5 : Int) => draymanref31_Same_l0_run (fun y1 => k .ret (encSt [.dead, .dead, .dead, .dead, .bool, .dead, .dead, .dead, .dead, .dead, .dead, .dead, .dead, .dead, .dead, .dead, .dead, .dead, .dead, .dead, .dead, .dead, .dead, .dead, .dead, .dead] [] [] [.b y1])) (k (.exit 0) (encSt [.dead, .dead, .dead, .dead, .dead, .dead, .dead, .dead, .dead, .dead, .dead, .dead, .dead, .dead, .dead, .dead, .dead, .dead, .dead, .dead, .dead, .dead, .dead, .dead, .dead, .dead] [] [] [])) n a3 b4 i5) a3 b4 i5 = draymanref31_Same_l0_run (fun y1 => k .ret (encSt [.dead, .dead, .dead, .dead, .bool, .dead, .dead, .dead, .dead, .dead, .dead, .dead, .dead, .dead, .dead, .dead, .dead, .dead, .dead, .dead, .dead, .dead, .dead, .dead, .dead, .dead] [] [] [.b y1])) (k (.exit 0) (encSt [.dead, .dead, .dead, .dead, .dead, .dead, .dead, .dead, .dead, .dead, .dead, .dead, .dead, .dead, .dead, .dead, .dead, .dead, .dead, .dead, .dead, .dead, .dead, .dead, .dead, .dead] [] [] [])) (n + 1) a3 b4 i5 := by kernel_rfl
    exact h1.trans (h2.trans h3)

theorem draymanref31_Same_l0_ok {α : Type} : (draymanref31_Same_l0_spec : LoopSpec α).ok Go.Proofs.Try.prog (envOf (draymanref31_Same_C) draymanref31_Same_q draymanref31_Same_inl 1000 draymanref31_Same_ann false (draymanref31_Same_loops) (fun _ => none)) := by
  intro ds k
  have h1 : draymanref31_Same_l0_ev 1000 (encSt draymanref31_Same_l0_t draymanref31_Same_l0_s draymanref31_Same_l0_h ds) k = draymanref31_Same_l0_ev 1000 (encSt draymanref31_Same_l0_t draymanref31_Same_l0_s draymanref31_Same_l0_h [.q (.int .i64 (.int .i64 (.int .i64 (.int .i64 (.int .i64 (.int .i64 (.nil))))))) (hdQ (.int .i64 (.int .i64 (.int .i64 (.int .i64 (.int .i64 (.int .i64 (.nil))))))) ds), .q (.int .i64 (.int .i64 (.int .i64 (.int .i64 (.int .i64 (.int .i64 (.nil))))))) (hdQ (.int .i64 (.int .i64 (.int .i64 (.int .i64 (.int .i64 (.int .i64 (.nil))))))) ds.tail), .i (hdI ds.tail.tail)]) k := by kernel_rfl
  have h2 := draymanref31_Same_l0_eq 1000 (hdQ (.int .i64 (.int .i64 (.int .i64 (.int .i64 (.int .i64 (.int .i64 (.nil))))))) ds) (hdQ (.int .i64 (.int .i64 (.int .i64 (.int .i64 (.int .i64 (.int .i64 (.nil))))))) ds.tail) (hdI ds.tail.tail) k
  exact h1.trans h2

theorem draymanref31_Same_ev {α : Type} : EvOk (α := α) Go.Proofs.Try.prog (envOf (draymanref31_Same_C) draymanref31_Same_q draymanref31_Same_inl 1000 draymanref31_Same_ann false (draymanref31_Same_loops) (fun _ => none)) 6 (draymanref31_Same_sp (draymanref31_Same)) := by intro ds k; kernel_rfl

theorem draymanref31_Same_ok {α : Type} : (draymanref31_Same_spec : FunSpec α).ok Go.Proofs.Try.prog :=
  FunSpec.ok_of (sp := draymanref31_Same_spec) (C := draymanref31_Same_C) (q := draymanref31_Same_q) (inl := draymanref31_Same_inl) (N := 1000) (ann := draymanref31_Same_ann) (fr := false) (D := 6) (l := (draymanref31_Same_loops)) (hk := (fun _ => none)) okNil (lokCons (draymanref31_Same_l0_ok) lokNil) noHooks (draymanref31_Same_ev)

end
end Go.Rv.Try

set_option linter.unusedVariables false
set_option maxRecDepth 100000
set_option maxHeartbeats 4000000
namespace Go.Rv.Try
open Go Go.Rv Go.RowKit
noncomputable section

-- drayman/draymanref32.Same

abbrev draymanref32_Same_T (α : Type) : Type := ((Seq Z1) × Int × Int × Int × Unit) → ((Seq Z1) × Int × Int × Int × Unit) → (Bool → Option α) → Option α

noncomputable def draymanref32_Same_g {α : Type} (draymanref31_Same : draymanref31_Same_T α) (a1 : (Seq Z1) × Int × Int × Int × Unit) (b2 : (Seq Z1) × Int × Int × Int × Unit) (k : Bool → Option α) : Option α :=
  (cond (a1.2.1 == b2.2.1)
    (cond (a1.2.2.1 == b2.2.2.1)
      (cond (a1.2.2.2.1 == b2.2.2.2.1)
        (draymanref31_Same a1.1 b2.1 fun r3 =>
          (k r3))
        (k false))
      (k false))
    (k false))

noncomputable def draymanref32_Same {α : Type} : draymanref32_Same_T α := draymanref32_Same_g draymanref31_Same

noncomputable def draymanref32_Same_sp {α : Type} (draymanref32_Same : draymanref32_Same_T α) : FunSpec α := ⟨17, [.agg [.sl (.int .i64 (.int .i64 (.int .i64 (.int .i64 (.int .i64 (.int .i64 (.nil))))))), .int .i64, .int .i64, .int .i64], .agg [.sl (.int .i64 (.int .i64 (.int .i64 (.int .i64 (.int .i64 (.int .i64 (.nil))))))), .int .i64, .int .i64, .int .i64]], [], fun ds k => draymanref32_Same (hdQ (.int .i64 (.int .i64 (.int .i64 (.int .i64 (.int .i64 (.int .i64 (.nil))))))) ds, hdI ds.tail, hdI ds.tail.tail, hdI ds.tail.tail.tail, ()) (hdQ (.int .i64 (.int .i64 (.int .i64 (.int .i64 (.int .i64 (.int .i64 (.nil))))))) ds.tail.tail.tail.tail, hdI ds.tail.tail.tail.tail.tail, hdI ds.tail.tail.tail.tail.tail.tail, hdI ds.tail.tail.tail.tail.tail.tail.tail, ()) (fun r1 => k (enc dep (.bool) [.b r1]).1 [])⟩

noncomputable def draymanref32_Same_spec {α : Type} : FunSpec α := draymanref32_Same_sp draymanref32_Same

noncomputable def draymanref32_Same_C {α : Type} (draymanref31_Same : draymanref31_Same_T α) : List (FunSpec α) := [draymanref31_Same_sp draymanref31_Same]

noncomputable def draymanref32_Same_q : FuncId → Bool := fun f => Nat.beq f 46

noncomputable def draymanref32_Same_inl : FuncId → Bool := fun f => false

noncomputable def draymanref32_Same_ann : FuncId → AnnT := fun f p => ⟨[], [], [], [], 0, [], [], none⟩

noncomputable def draymanref32_Same_loops {α : Type} (draymanref31_Same : draymanref31_Same_T α) : List (LoopSpec α) := []

theorem draymanref32_Same_ev {α : Type} (draymanref31_Same : draymanref31_Same_T α) : EvOk (α := α) Go.Proofs.Try.prog (envOf (draymanref32_Same_C draymanref31_Same) draymanref32_Same_q draymanref32_Same_inl 1000 draymanref32_Same_ann false (draymanref32_Same_loops draymanref31_Same) (fun _ => none)) 6 (draymanref32_Same_sp (draymanref32_Same_g draymanref31_Same)) := by intro ds k; kernel_rfl

theorem draymanref32_Same_ok {α : Type} : (draymanref32_Same_spec : FunSpec α).ok Go.Proofs.Try.prog :=
  FunSpec.ok_of (sp := draymanref32_Same_spec) (C := draymanref32_Same_C draymanref31_Same) (q := draymanref32_Same_q) (inl := draymanref32_Same_inl) (N := 1000) (ann := draymanref32_Same_ann) (fr := false) (D := 6) (l := (draymanref32_Same_loops draymanref31_Same)) (hk := (fun _ => none)) (okCons draymanref31_Same_ok okNil) lokNil noHooks (draymanref32_Same_ev draymanref31_Same)

end
end Go.Rv.Try

set_option linter.unusedVariables false
set_option maxRecDepth 100000
set_option maxHeartbeats 4000000
namespace Go.Rv.Try
open Go Go.Rv Go.RowKit
noncomputable section

-- drayman/draymanlaw32.same

abbrev draymanlaw32_same_T (α : Type) : Type := ((Seq Z1) × Int × Int × Int × Unit) → ((Seq Z1) × Int × Int × Int × Unit) → (Bool → Option α) → Option α

noncomputable def draymanlaw32_same_g {α : Type} (draymanref32_Same : draymanref32_Same_T α) (a1 : (Seq Z1) × Int × Int × Int × Unit) (b2 : (Seq Z1) × Int × Int × Int × Unit) (k : Bool → Option α) : Option α :=
  (draymanref32_Same a1 b2 fun r3 =>
    (k r3))

noncomputable def draymanlaw32_same {α : Type} : draymanlaw32_same_T α := draymanlaw32_same_g draymanref32_Same

noncomputable def draymanlaw32_same_sp {α : Type} (draymanlaw32_same : draymanlaw32_same_T α) : FunSpec α := ⟨14, [.agg [.sl (.int .i64 (.int .i64 (.int .i64 (.int .i64 (.int .i64 (.int .i64 (.nil))))))), .int .i64, .int .i64, .int .i64], .agg [.sl (.int .i64 (.int .i64 (.int .i64 (.int .i64 (.int .i64 (.int .i64 (.nil))))))), .int .i64, .int .i64, .int .i64]], [], fun ds k => draymanlaw32_same (hdQ (.int .i64 (.int .i64 (.int .i64 (.int .i64 (.int .i64 (.int .i64 (.nil))))))) ds, hdI ds.tail, hdI ds.tail.tail, hdI ds.tail.tail.tail, ()) (hdQ (.int .i64 (.int .i64 (.int .i64 (.int .i64 (.int .i64 (.int .i64 (.nil))))))) ds.tail.tail.tail.tail, hdI ds.tail.tail.tail.tail.tail, hdI ds.tail.tail.tail.tail.tail.tail, hdI ds.tail.tail.tail.tail.tail.tail.tail, ()) (fun r1 => k (enc dep (.bool) [.b r1]).1 [])⟩

noncomputable def draymanlaw32_same_spec {α : Type} : FunSpec α := draymanlaw32_same_sp draymanlaw32_same

noncomputable def draymanlaw32_same_C {α : Type} (draymanref32_Same : draymanref32_Same_T α) : List (FunSpec α) := [draymanref32_Same_sp draymanref32_Same]

noncomputable def draymanlaw32_same_q : FuncId → Bool := fun f => Nat.beq f 17

noncomputable def draymanlaw32_same_inl : FuncId → Bool := fun f => false

noncomputable def draymanlaw32_same_ann : FuncId → AnnT := fun f p => ⟨[], [], [], [], 0, [], [], none⟩

noncomputable def draymanlaw32_same_loops {α : Type} (draymanref32_Same : draymanref32_Same_T α) : List (LoopSpec α) := []

theorem draymanlaw32_same_ev {α : Type} (draymanref32_Same : draymanref32_Same_T α) : EvOk (α := α) Go.Proofs.Try.prog (envOf (draymanlaw32_same_C draymanref32_Same) draymanlaw32_same_q draymanlaw32_same_inl 1000 draymanlaw32_same_ann false (draymanlaw32_same_loops draymanref32_Same) (fun _ => none)) 6 (draymanlaw32_same_sp (draymanlaw32_same_g draymanref32_Same)) := by intro ds k; kernel_rfl

theorem draymanlaw32_same_ok {α : Type} : (draymanlaw32_same_spec : FunSpec α).ok Go.Proofs.Try.prog :=
  FunSpec.ok_of (sp := draymanlaw32_same_spec) (C := draymanlaw32_same_C draymanref32_Same) (q := draymanlaw32_same_q) (inl := draymanlaw32_same_inl) (N := 1000) (ann := draymanlaw32_same_ann) (fr := false) (D := 6) (l := (draymanlaw32_same_loops draymanref32_Same)) (hk := (fun _ => none)) (okCons draymanref32_Same_ok okNil) lokNil noHooks (draymanlaw32_same_ev draymanref32_Same)

end
end Go.Rv.Try

set_option linter.unusedVariables false
set_option maxRecDepth 100000
set_option maxHeartbeats 4000000
namespace Go.Rv.Try
open Go Go.Rv Go.RowKit
noncomputable section

-- slices.Equal[[]drayman/api.Key,drayman/api.Key]

abbrev slices_Equal_api_Key_api_Key_T (α : Type) : Type := (Seq Z1) → (Seq Z1) → (Bool → Option α) → Option α

noncomputable def slices_Equal_api_Key_api_Key_l0_step {α : Type} (kr : (Bool) → Option α) (k0 : Option α) (rec : (Seq Z1) → (Seq Z1) → (Int) → (Int) → Option α) (x3 : Seq Z1) (x4 : Seq Z1) (x5 : Int) (x6 : Int) : Option α :=
  (cond (decide (x6 < x5))
    (cond (((decide ((0 : Int) ≤ x6)) && (decide (x6 < (x3.n : Int)))) && ((decide ((0 : Int) ≤ x6)) && (decide (x6 < (x3.n : Int)))))
      (cond (((decide ((0 : Int) ≤ x6)) && (decide (x6 < (x4.n : Int)))) && ((decide ((0 : Int) ≤ x6)) && (decide (x6 < (x4.n : Int)))))
        (cond (!(((x3.g x6.toNat).1 == (x4.g x6.toNat).1) && (((x3.g x6.toNat).2.1 == (x4.g x6.toNat).2.1) && (((x3.g x6.toNat).2.2.1 == (x4.g x6.toNat).2.2.1) && (((x3.g x6.toNat).2.2.2.1 == (x4.g x6.toNat).2.2.2.1) && (((x3.g x6.toNat).2.2.2.2.1 == (x4.g x6.toNat).2.2.2.2.1) && (((x3.g x6.toNat).2.2.2.2.2.1 == (x4.g x6.toNat).2.2.2.2.2.1) && true)))))))
          (kr false)
          (rec x3 x4 x5 (IntKind.i64.wrap (x6 + 1))))
        none)
      none)
    (k0))

noncomputable def slices_Equal_api_Key_api_Key_l0_run {α : Type} (kr : (Bool) → Option α) (k0 : Option α) : Nat → (Seq Z1) → (Seq Z1) → (Int) → (Int) → Option α
  | 0, _, _, _, _ => none
  | n + 1, x3, x4, x5, x6 => slices_Equal_api_Key_api_Key_l0_step kr k0 (fun x3 x4 x5 x6 => slices_Equal_api_Key_api_Key_l0_run kr k0 n x3 x4 x5 x6) x3 x4 x5 x6

noncomputable def slices_Equal_api_Key_api_Key {α : Type} (x1 : Seq Z1) (x2 : Seq Z1) (k : Bool → Option α) : Option α :=
  (cond ((x1.n : Int) != (x2.n : Int))
    (k false)
    (slices_Equal_api_Key_api_Key_l0_run
      (fun x7 =>
        (k x7))
      ((k true))
      1000 x1 x2 (x1.n : Int) 0))

noncomputable def slices_Equal_api_Key_api_Key_sp {α : Type} (slices_Equal_api_Key_api_Key : slices_Equal_api_Key_api_Key_T α) : FunSpec α := ⟨45, [.sl (.int .i64 (.int .i64 (.int .i64 (.int .i64 (.int .i64 (.int .i64 (.nil))))))), .sl (.int .i64 (.int .i64 (.int .i64 (.int .i64 (.int .i64 (.int .i64 (.nil)))))))], [], fun ds k => slices_Equal_api_Key_api_Key (hdQ (.int .i64 (.int .i64 (.int .i64 (.int .i64 (.int .i64 (.int .i64 (.nil))))))) ds) (hdQ (.int .i64 (.int .i64 (.int .i64 (.int .i64 (.int .i64 (.int .i64 (.nil))))))) ds.tail) (fun r1 => k (enc dep (.bool) [.b r1]).1 [])⟩

noncomputable def slices_Equal_api_Key_api_Key_spec {α : Type} : FunSpec α := slices_Equal_api_Key_api_Key_sp slices_Equal_api_Key_api_Key

noncomputable def slices_Equal_api_Key_api_Key_C {α : Type} : List (FunSpec α) := []

noncomputable def slices_Equal_api_Key_api_Key_q : FuncId → Bool := fun f => false

noncomputable def slices_Equal_api_Key_api_Key_inl : FuncId → Bool := fun f => false

noncomputable def slices_Equal_api_Key_api_Key_ann : FuncId → AnnT := fun f p => if f = 45 then (if p = [true, false, true, true] then ⟨[0, 1, 12, 13], [], [], [4], 0, [], [], none⟩ else ⟨[], [], [], [], 0, [], [], none⟩) else ⟨[], [], [], [], 0, [], [], none⟩

noncomputable def slices_Equal_api_Key_api_Key_l0_t : List Sh := [.sl (.int .i64 (.int .i64 (.int .i64 (.int .i64 (.int .i64 (.int .i64 (.nil))))))), .sl (.int .i64 (.int .i64 (.int .i64 (.int .i64 (.int .i64 (.int .i64 (.nil))))))), .dead, .dead, .dead, .dead, .dead, .dead, .dead, .dead, .dead, .dead, .int .i64, .int .i64, .dead, .dead, .dead, .dead, .dead, .dead, .dead, .dead, .dead, .dead, .dead, .dead]
noncomputable def slices_Equal_api_Key_api_Key_l0_s : List (List Sh) := []
noncomputable def slices_Equal_api_Key_api_Key_l0_h : List BSh := []

noncomputable def slices_Equal_api_Key_api_Key_l0_spec {α : Type} : LoopSpec α := ⟨6, 45, [true, false, true, true], slices_Equal_api_Key_api_Key_l0_t, slices_Equal_api_Key_api_Key_l0_s, slices_Equal_api_Key_api_Key_l0_h, fun ds k => slices_Equal_api_Key_api_Key_l0_run (fun y1 => k .ret (encSt [.dead, .dead, .dead, .dead, .bool, .dead, .dead, .dead, .dead, .dead, .dead, .dead, .dead, .dead, .dead, .dead, .dead, .dead, .dead, .dead, .dead, .dead, .dead, .dead, .dead, .dead] [] [] [.b y1])) (k (.exit 0) (encSt [.dead, .dead, .dead, .dead, .dead, .dead, .dead, .dead, .dead, .dead, .dead, .dead, .dead, .dead, .dead, .dead, .dead, .dead, .dead, .dead, .dead, .dead, .dead, .dead, .dead, .dead] [] [] [])) 1000 (hdQ (.int .i64 (.int .i64 (.int .i64 (.int .i64 (.int .i64 (.int .i64 (.nil))))))) ds) (hdQ (.int .i64 (.int .i64 (.int .i64 (.int .i64 (.int .i64 (.int .i64 (.nil))))))) ds.tail) (hdI ds.tail.tail) (hdI ds.tail.tail.tail)⟩

noncomputable def slices_Equal_api_Key_api_Key_loops {α : Type} : List (LoopSpec α) := [slices_Equal_api_Key_api_Key_l0_spec]

noncomputable def slices_Equal_api_Key_api_Key_l0_ev {α : Type} (n : Nat) (st : St) (k : X → St → Option α) : Option α := loopN (evCode Go.Proofs.Try.prog (callD Go.Proofs.Try.prog (envOf (slices_Equal_api_Key_api_Key_C) slices_Equal_api_Key_api_Key_q slices_Equal_api_Key_api_Key_inl 1000 slices_Equal_api_Key_api_Key_ann false (slices_Equal_api_Key_api_Key_loops) (fun _ => none)) 6) (((envOf (slices_Equal_api_Key_api_Key_C) slices_Equal_api_Key_api_Key_q slices_Equal_api_Key_api_Key_inl 1000 slices_Equal_api_Key_api_Key_ann false (slices_Equal_api_Key_api_Key_loops) (fun _ => none)) : Env α).L 6 45) 1000 (slices_Equal_api_Key_api_Key_ann 45) (false :: [true, false, true, true]) (loopC Go.Proofs.Try.prog 45 [true, false, true, true])) ((slices_Equal_api_Key_api_Key_ann 45 [true, false, true, true]).head 0) ((slices_Equal_api_Key_api_Key_ann 45 [true, false, true, true]).leave 0) n st k

theorem slices_Equal_api_Key_api_Key_l0_eq {α : Type} : ∀ (n : Nat) (x3 : Seq Z1) (x4 : Seq Z1) (x5 : Int) (x6 : Int) (k : X → St → Option α), slices_Equal_api_Key_api_Key_l0_ev n (encSt slices_Equal_api_Key_api_Key_l0_t slices_Equal_api_Key_api_Key_l0_s slices_Equal_api_Key_api_Key_l0_h [.q (.int .i64 (.int .i64 (.int .i64 (.int .i64 (.int .i64 (.int .i64 (.nil))))))) x3, .q (.int .i64 (.int .i64 (.int .i64 (.int .i64 (.int .i64 (.int .i64 (.nil))))))) x4, .i x5, .i x6]) k = slices_Equal_api_Key_api_Key_l0_run (fun y1 => k .ret (encSt [.dead, .dead, .dead, .dead, .bool, .dead, .dead, .dead, .dead, .dead, .dead, .dead, .dead, .dead, .dead, .dead, .dead, .dead, .dead, .dead, .dead, .dead, .dead, .dead, .dead, .dead] [] [] [.b y1])) (k (.exit 0) (encSt [.dead, .dead, .dead, .dead, .dead, .dead, .dead, .dead, .dead, .dead, .dead, .dead, .dead, .dead, .dead, .dead, .dead, .dead, .dead, .dead, .dead, .dead, .dead, .dead, .dead, .dead] [] [] [])) n x3 x4 x5 x6 := by
  intro n
  induction n with
  | zero => intros; kernel_rfl
  | succ n ih =>
    intro x3 x4 x5 x6 k
    have e : (fun (x3 : Seq Z1) (x4 : Seq Z1) (x5 : Int) (x6 : Int) => slices_Equal_api_Key_api_Key_l0_ev n (encSt slices_Equal_api_Key_api_Key_l0_t slices_Equal_api_Key_api_Key_l0_s slices_Equal_api_Key_api_Key_l0_h [.q (.int .i64 (.int .i64 (.int .i64 (.int .i64 (.int .i64 (.int .i64 (.nil))))))) x3, .q (.int .i64 (.int .i64 (.int .i64 (.int .i64 (.int .i64 (.int .i64 (.nil))))))) x4, .i x5, .i x6]) k) = (fun (x3 : Seq Z1) (x4 : Seq Z1) (x5 : Int) (x6 : Int) => slices_Equal_api_Key_api_Key_l0_run (fun y1 => k .ret (encSt [.dead, .dead, .dead, .dead, .bool, .dead, .dead, .dead, .dead, .dead, .dead, .dead, .dead, .dead, .dead, .dead, .dead, .dead, .dead, .dead, .dead, .dead, .dead, .dead, .dead, .dead] [] [] [.b y1])) (k (.exit 0) (encSt [.dead, .dead, .dead, .dead, .dead, .dead, .dead, .dead, .dead, .dead, .dead, .dead, .dead, .dead, .dead, .dead, .dead, .dead, .dead, .dead, .dead, .dead, .dead, .dead, .dead, .dead] [] [] [])) n x3 x4 x5 x6) := by
      funext x3 x4 x5 x6
      exact ih x3 x4 x5 x6 k
    have h1 : slices_Equal_api_Key_api_Key_l0_ev (n + 1) (encSt slices_Equal_api_Key_api_Key_l0_t slices_Equal_api_Key_api_Key_l0_s slices_Equal_api_Key_api_Key_l0_h [.q (.int .i64 (.int .i64 (.int .i64 (.int .i64 (.int .i64 (.int .i64 (.nil))))))) x3, .q (.int .i64 (.int .i64 (.int .i64 (.int .i64 (.int .i64 (.int .i64 (.nil))))))) x4, .i x5, .i x6]) k = slices_Equal_api_Key_api_Key_l0_step (fun y1 => k .ret (encSt [.dead, .dead, .dead, .dead, .bool, .dead, .dead, .dead, .dead, .dead, .dead, .dead, .dead, .dead, .dead, .dead, .dead, .dead, .dead, .dead, .dead, .dead, .dead, .dead, .dead, .dead] [] [] [.b y1])) (k (.exit 0) (encSt [.dead, .dead, .dead, .dead, .dead, .dead, .dead, .dead, .dead, .dead, .dead, .dead, .dead, .dead, .dead, .dead, .dead, .dead, .dead, .dead, .dead, .dead, .dead, .dead, .dead, .dead] [] [] [])) (fun (x3 : Seq Z1) (x4 : Seq Z1) (x5 : Int) (x6 : Int) => slices_Equal_api_Key_api_Key_l0_ev n (encSt slices_Equal_api_Key_api_Key_l0_t slices_Equal_api_Key_api_Key_l0_s slices_Equal_api_Key_api_Key_l0_h [.q (.int .i64 (.int .i64 (.int .i64 (.int .i64 (.int .i64 (.int .i64 (.nil))))))) x3, .q (.int .i64 (.int .i64 (.int .i64 (.int .i64 (.int .i64 (.int .i64 (.nil))))))) x4, .i x5, .i x6]) k) x3 x4 x5 x6 := by kernel_rfl
    have h2 := congrArg (fun r => slices_Equal_api_Key_api_Key_l0_step (fun y1 => k .ret (encSt [.dead, .dead, .dead, .dead, .bool, .dead, .dead, .dead, .dead, .dead, .dead, .dead, .dead, .dead, .dead, .dead, .dead, .dead, .dead, .dead, .dead, .dead, .dead, .dead, .dead, .dead] [] [] [.b y1])) (k (.exit 0) (encSt [.dead, .dead, .dead, .dead, .dead, .dead, .dead, .dead, .dead, .dead, .dead, .dead, .dead, .dead, .dead, .dead, .dead, .dead, .dead, .dead, .dead, .dead, .dead, .dead, .dead, .dead] [] [] [])) r x3 x4 x5 x6) e
    have h3 : slices_Equal_api_Key_api_Key_l0_step (fun y1 => k .ret (encSt [.dead, .dead, .dead, .dead, .bool, .dead, .dead, .dead, .dead, .dead, .dead, .dead, .dead, .dead, .dead, .dead, .dead, .dead, .dead, .dead, .dead, .dead, .dead, .dead, .dead, .dead] [] [] [.b y1])) (k (.exit 0) (encSt [.dead, .dead, .dead, .dead, .dead, .dead, .dead, .dead, .dead, .dead, .dead, .dead, .dead, .dead, .dead, .dead, .dead, .dead, .dead, .dead, .dead, .dead, .dead, .dead, .dead, .dead] [] [] [])) (fun (x3 : Seq Z1) (x4 : Seq Z1) (x5 : Int) (x6 : Int) => slices_Equal_api_Key_api_Key_l0_run (fun y1 => k .ret (encSt [.dead, .dead, .dead, .dead, .bool, .dead, .dead, .dead, .dead, .dead, .dead, .dead, .dead, .dead, .dead, .dead, .dead, .dead, .dead, .dead, .dead, .dead, .dead, .dead, .dead, .dead] [] [] [.b y1])) (k (.exit 0) (encSt [.dead, .dead, .dead, .dead, .dead, .dead, .dead, .dead, .dead, .dead, .dead, .dead, .dead, .dead, .dead, .dead, .dead, .dead, .dead, .dead, .dead, .dead, .dead, .dead, .dead, .dead] [] [] [])) n x3 x4 x5 x6) x3 x4 x5 x6 = slices_Equal_api_Key_api_Key_l0_run (fun y1 => k .ret (encSt [.dead, .dead, .dead, .dead, .bool, .dead, .dead, .dead, .dead, .dead, .dead, .dead, .dead, .dead, .dead, .dead, .dead, .dead, .dead, .dead, .dead, .dead, .dead, .dead, .dead, .dead] [] [] [.b y1])) (k (.exit 0) (encSt [.dead, .dead, .dead, .dead, .dead, .dead, .dead, .dead, .dead, .dead, .dead, .dead, .dead, .dead, .dead, .dead, .dead, .dead, .dead, .dead, .dead, .dead, .dead, .dead, .dead, .dead] [] [] [])) (n + 1) x3 x4 x5 x6 := by kernel_rfl
    exact h1.trans (h2.trans h3)

theorem slices_Equal_api_Key_api_Key_l0_ok {α : Type} : (slices_Equal_api_Key_api_Key_l0_spec : LoopSpec α).ok Go.Proofs.Try.prog (envOf (slices_Equal_api_Key_api_Key_C) slices_Equal_api_Key_api_Key_q slices_Equal_api_Key_api_Key_inl 1000 slices_Equal_api_Key_api_Key_ann false (slices_Equal_api_Key_api_Key_loops) (fun _ => none)) := by
  intro ds k
  have h1 : slices_Equal_api_Key_api_Key_l0_ev 1000 (encSt slices_Equal_api_Key_api_Key_l0_t slices_Equal_api_Key_api_Key_l0_s slices_Equal_api_Key_api_Key_l0_h ds) k = slices_Equal_api_Key_api_Key_l0_ev 1000 (encSt slices_Equal_api_Key_api_Key_l0_t slices_Equal_api_Key_api_Key_l0_s slices_Equal_api_Key_api_Key_l0_h [.q (.int .i64 (.int .i64 (.int .i64 (.int .i64 (.int .i64 (.int .i64 (.nil))))))) (hdQ (.int .i64 (.int .i64 (.int .i64 (.int .i64 (.int .i64 (.int .i64 (.nil))))))) ds), .q (.int .i64 (.int .i64 (.int .i64 (.int .i64 (.int .i64 (.int .i64 (.nil))))))) (hdQ (.int .i64 (.int .i64 (.int .i64 (.int .i64 (.int .i64 (.int .i64 (.nil))))))) ds.tail), .i (hdI ds.tail.tail), .i (hdI ds.tail.tail.tail)]) k := by kernel_rfl
  have h2 := slices_Equal_api_Key_api_Key_l0_eq 1000 (hdQ (.int .i64 (.int .i64 (.int .i64 (.int .i64 (.int .i64 (.int .i64 (.nil))))))) ds) (hdQ (.int .i64 (.int .i64 (.int .i64 (.int .i64 (.int .i64 (.int .i64 (.nil))))))) ds.tail) (hdI ds.tail.tail) (hdI ds.tail.tail.tail) k
  exact h1.trans h2

theorem slices_Equal_api_Key_api_Key_ev {α : Type} : EvOk (α := α) Go.Proofs.Try.prog (envOf (slices_Equal_api_Key_api_Key_C) slices_Equal_api_Key_api_Key_q slices_Equal_api_Key_api_Key_inl 1000 slices_Equal_api_Key_api_Key_ann false (slices_Equal_api_Key_api_Key_loops) (fun _ => none)) 6 (slices_Equal_api_Key_api_Key_sp (slices_Equal_api_Key_api_Key)) := by intro ds k; kernel_rfl

theorem slices_Equal_api_Key_api_Key_ok {α : Type} : (slices_Equal_api_Key_api_Key_spec : FunSpec α).ok Go.Proofs.Try.prog :=
  FunSpec.ok_of (sp := slices_Equal_api_Key_api_Key_spec) (C := slices_Equal_api_Key_api_Key_C) (q := slices_Equal_api_Key_api_Key_q) (inl := slices_Equal_api_Key_api_Key_inl) (N := 1000) (ann := slices_Equal_api_Key_api_Key_ann) (fr := false) (D := 6) (l := (slices_Equal_api_Key_api_Key_loops)) (hk := (fun _ => none)) okNil (lokCons (slices_Equal_api_Key_api_Key_l0_ok) lokNil) noHooks (slices_Equal_api_Key_api_Key_ev)

end
end Go.Rv.Try

set_option linter.unusedVariables false
set_option maxRecDepth 100000
set_option maxHeartbeats 4000000
namespace Go.Rv.Try
open Go Go.Rv Go.RowKit
noncomputable section

-- drayman/pay.Same

abbrev pay_Same_T (α : Type) : Type := ((Seq Z1) × Int × Int × Int × Unit) → ((Seq Z1) × Int × Int × Int × Unit) → (Bool → Option α) → Option α

noncomputable def pay_Same_g {α : Type} (slices_Equal_api_Key_api_Key : slices_Equal_api_Key_api_Key_T α) (a1 : (Seq Z1) × Int × Int × Int × Unit) (b2 : (Seq Z1) × Int × Int × Int × Unit) (k : Bool → Option α) : Option α :=
  (cond (a1.2.1 == b2.2.1)
    (cond (a1.2.2.1 == b2.2.2.1)
      (cond (a1.2.2.2.1 == b2.2.2.2.1)
        (slices_Equal_api_Key_api_Key a1.1 b2.1 fun r3 =>
          (k r3))
        (k false))
      (k false))
    (k false))

noncomputable def pay_Same {α : Type} : pay_Same_T α := pay_Same_g slices_Equal_api_Key_api_Key

noncomputable def pay_Same_sp {α : Type} (pay_Same : pay_Same_T α) : FunSpec α := ⟨16, [.agg [.sl (.int .i64 (.int .i64 (.int .i64 (.int .i64 (.int .i64 (.int .i64 (.nil))))))), .int .i64, .int .i64, .int .i64], .agg [.sl (.int .i64 (.int .i64 (.int .i64 (.int .i64 (.int .i64 (.int .i64 (.nil))))))), .int .i64, .int .i64, .int .i64]], [], fun ds k => pay_Same (hdQ (.int .i64 (.int .i64 (.int .i64 (.int .i64 (.int .i64 (.int .i64 (.nil))))))) ds, hdI ds.tail, hdI ds.tail.tail, hdI ds.tail.tail.tail, ()) (hdQ (.int .i64 (.int .i64 (.int .i64 (.int .i64 (.int .i64 (.int .i64 (.nil))))))) ds.tail.tail.tail.tail, hdI ds.tail.tail.tail.tail.tail, hdI ds.tail.tail.tail.tail.tail.tail, hdI ds.tail.tail.tail.tail.tail.tail.tail, ()) (fun r1 => k (enc dep (.bool) [.b r1]).1 [])⟩

noncomputable def pay_Same_spec {α : Type} : FunSpec α := pay_Same_sp pay_Same

noncomputable def pay_Same_C {α : Type} (slices_Equal_api_Key_api_Key : slices_Equal_api_Key_api_Key_T α) : List (FunSpec α) := [slices_Equal_api_Key_api_Key_sp slices_Equal_api_Key_api_Key]

noncomputable def pay_Same_q : FuncId → Bool := fun f => Nat.beq f 45

noncomputable def pay_Same_inl : FuncId → Bool := fun f => false

noncomputable def pay_Same_ann : FuncId → AnnT := fun f p => ⟨[], [], [], [], 0, [], [], none⟩

noncomputable def pay_Same_loops {α : Type} (slices_Equal_api_Key_api_Key : slices_Equal_api_Key_api_Key_T α) : List (LoopSpec α) := []

theorem pay_Same_ev {α : Type} (slices_Equal_api_Key_api_Key : slices_Equal_api_Key_api_Key_T α) : EvOk (α := α) Go.Proofs.Try.prog (envOf (pay_Same_C slices_Equal_api_Key_api_Key) pay_Same_q pay_Same_inl 1000 pay_Same_ann false (pay_Same_loops slices_Equal_api_Key_api_Key) (fun _ => none)) 6 (pay_Same_sp (pay_Same_g slices_Equal_api_Key_api_Key)) := by intro ds k; kernel_rfl

theorem pay_Same_ok {α : Type} : (pay_Same_spec : FunSpec α).ok Go.Proofs.Try.prog :=
  FunSpec.ok_of (sp := pay_Same_spec) (C := pay_Same_C slices_Equal_api_Key_api_Key) (q := pay_Same_q) (inl := pay_Same_inl) (N := 1000) (ann := pay_Same_ann) (fr := false) (D := 6) (l := (pay_Same_loops slices_Equal_api_Key_api_Key)) (hk := (fun _ => none)) (okCons slices_Equal_api_Key_api_Key_ok okNil) lokNil noHooks (pay_Same_ev slices_Equal_api_Key_api_Key)

end
end Go.Rv.Try

set_option linter.unusedVariables false
set_option maxRecDepth 100000
set_option maxHeartbeats 4000000
namespace Go.Rv.Try
open Go Go.Rv Go.RowKit
noncomputable section

-- drayman/draymanref32.New

abbrev draymanref32_New_T (α : Type) : Type := (((Seq Z1) × Int × Int × Int × Unit) → Option α) → Option α

noncomputable def draymanref32_New {α : Type} (k : ((Seq Z1) × Int × Int × Int × Unit) → Option α) : Option α :=
  (k ((⟨true, 0, (fun _ => (0, 0, 0, 0, 0, 0, ()))⟩ : Seq Z1), 1, 0, 0, ()))

noncomputable def draymanref32_New_sp {α : Type} (draymanref32_New : draymanref32_New_T α) : FunSpec α := ⟨18, [], [], fun ds k => draymanref32_New  (fun r1 => k (enc dep (.agg [.sl (.int .i64 (.int .i64 (.int .i64 (.int .i64 (.int .i64 (.int .i64 (.nil))))))), .int .i64, .int .i64, .int .i64]) [.q (.int .i64 (.int .i64 (.int .i64 (.int .i64 (.int .i64 (.int .i64 (.nil))))))) r1.1, .i r1.2.1, .i r1.2.2.1, .i r1.2.2.2.1]).1 [])⟩

noncomputable def draymanref32_New_spec {α : Type} : FunSpec α := draymanref32_New_sp draymanref32_New

noncomputable def draymanref32_New_C {α : Type} : List (FunSpec α) := []

noncomputable def draymanref32_New_q : FuncId → Bool := fun f => false

noncomputable def draymanref32_New_inl : FuncId → Bool := fun f => false

noncomputable def draymanref32_New_ann : FuncId → AnnT := fun f p => ⟨[], [], [], [], 0, [], [], none⟩

noncomputable def draymanref32_New_loops {α : Type} : List (LoopSpec α) := []

theorem draymanref32_New_ev {α : Type} : EvOk (α := α) Go.Proofs.Try.prog (envOf (draymanref32_New_C) draymanref32_New_q draymanref32_New_inl 1000 draymanref32_New_ann false (draymanref32_New_loops) (fun _ => none)) 6 (draymanref32_New_sp (draymanref32_New)) := by intro ds k; kernel_rfl

theorem draymanref32_New_ok {α : Type} : (draymanref32_New_spec : FunSpec α).ok Go.Proofs.Try.prog :=
  FunSpec.ok_of (sp := draymanref32_New_spec) (C := draymanref32_New_C) (q := draymanref32_New_q) (inl := draymanref32_New_inl) (N := 1000) (ann := draymanref32_New_ann) (fr := false) (D := 6) (l := (draymanref32_New_loops)) (hk := (fun _ => none)) okNil lokNil noHooks (draymanref32_New_ev)

end
end Go.Rv.Try

set_option linter.unusedVariables false
set_option maxRecDepth 100000
set_option maxHeartbeats 4000000
namespace Go.Rv.Try
open Go Go.Rv Go.RowKit
noncomputable section

-- drayman/draymanlaw32.PayComes

abbrev draymanlaw32_PayComes_T (α : Type) : Type := ((Seq Z1) × Int × Int × Int × Unit) → ((Seq Z1) × Int × Int × Int × Unit) → Z0 → Int → (Bool → Option α) → Option α

noncomputable def draymanlaw32_PayComes_g {α : Type} (draymanlaw32_awake : draymanlaw32_awake_T α) (draymanlaw32_of : draymanlaw32_of_T α) (pay_Come : pay_Come_T α) (draymanref32_Come : draymanref32_Come_T α) (draymanlaw32_same : draymanlaw32_same_T α) (pay_Fit : pay_Fit_T α) (draymanref32_Fit : draymanref32_Fit_T α) (pay_Same : pay_Same_T α) (draymanref32_Same : draymanref32_Same_T α) (pay_New : pay_New_T α) (draymanref32_New : draymanref32_New_T α) (x1 : (Seq Z1) × Int × Int × Int × Unit) (x2 : (Seq Z1) × Int × Int × Int × Unit) (x3 : Int × Int × Int × Bool × Int × Int × Bool × Unit) (x4 : Int) (k : Bool → Option α) : Option α :=
  (cond (!(decide ((x1.1.n : Int) > 30)))
    (cond (decide ((x2.1.n : Int) > 30))
      (draymanlaw32_awake fun r5 =>
        (k r5))
      (draymanlaw32_of x1 fun r6 =>
        (pay_Come r6 x3 x4 fun r7 r8 r9 =>
          (draymanref32_Come x1 x3 x4 fun r10 r11 r12 =>
            (draymanlaw32_same r7 r10 fun r13 =>
              (cond r13
                (cond ((r8.1 == r11.1) && ((r8.2.1 == r11.2.1) && ((r8.2.2.1 == r11.2.2.1) && ((r8.2.2.2.1 == r11.2.2.2.1) && ((r8.2.2.2.2.1 == r11.2.2.2.2.1) && ((r8.2.2.2.2.2.1 == r11.2.2.2.2.2.1) && ((r8.2.2.2.2.2.2.1 == r11.2.2.2.2.2.2.1) && true)))))))
                  (cond (r9 == r12)
                    (draymanlaw32_of x1 fun r14 =>
                      (pay_Fit r14 fun r15 =>
                        (draymanref32_Fit x1 fun r16 =>
                          (cond (r15 == r16)
                            (draymanlaw32_of x1 fun r17 =>
                              (draymanlaw32_of x2 fun r18 =>
                                (pay_Same r17 r18 fun r19 =>
                                  (draymanref32_Same x1 x2 fun r20 =>
                                    (cond (r19 == r20)
                                      (pay_New fun r21 =>
                                        (draymanref32_New fun r22 =>
                                          (draymanlaw32_same r21 r22 fun r23 =>
                                            (cond r23
                                              (draymanlaw32_awake fun r24 =>
                                                (k r24))
                                              (k false)))))
                                      (k false))))))
                            (k false)))))
                    (k false))
                  (k false))
                (k false)))))))
    (draymanlaw32_awake fun r25 =>
      (k r25)))

noncomputable def draymanlaw32_PayComes {α : Type} : draymanlaw32_PayComes_T α := draymanlaw32_PayComes_g draymanlaw32_awake draymanlaw32_of pay_Come draymanref32_Come draymanlaw32_same pay_Fit draymanref32_Fit pay_Same draymanref32_Same pay_New draymanref32_New

noncomputable def draymanlaw32_PayComes_sp {α : Type} (draymanlaw32_PayComes : draymanlaw32_PayComes_T α) : FunSpec α := ⟨4, [.agg [.sl (.int .i64 (.int .i64 (.int .i64 (.int .i64 (.int .i64 (.int .i64 (.nil))))))), .int .i64, .int .i64, .int .i64], .agg [.sl (.int .i64 (.int .i64 (.int .i64 (.int .i64 (.int .i64 (.int .i64 (.nil))))))), .int .i64, .int .i64, .int .i64], .agg [.int .i64, .int .i64, .int .i64, .bool, .int .i64, .int .i64, .bool], .int .i64], [], fun ds k => draymanlaw32_PayComes (hdQ (.int .i64 (.int .i64 (.int .i64 (.int .i64 (.int .i64 (.int .i64 (.nil))))))) ds, hdI ds.tail, hdI ds.tail.tail, hdI ds.tail.tail.tail, ()) (hdQ (.int .i64 (.int .i64 (.int .i64 (.int .i64 (.int .i64 (.int .i64 (.nil))))))) ds.tail.tail.tail.tail, hdI ds.tail.tail.tail.tail.tail, hdI ds.tail.tail.tail.tail.tail.tail, hdI ds.tail.tail.tail.tail.tail.tail.tail, ()) (hdI ds.tail.tail.tail.tail.tail.tail.tail.tail, hdI ds.tail.tail.tail.tail.tail.tail.tail.tail.tail, hdI ds.tail.tail.tail.tail.tail.tail.tail.tail.tail.tail, hdB ds.tail.tail.tail.tail.tail.tail.tail.tail.tail.tail.tail, hdI ds.tail.tail.tail.tail.tail.tail.tail.tail.tail.tail.tail.tail, hdI ds.tail.tail.tail.tail.tail.tail.tail.tail.tail.tail.tail.tail.tail, hdB ds.tail.tail.tail.tail.tail.tail.tail.tail.tail.tail.tail.tail.tail.tail, ()) (hdI ds.tail.tail.tail.tail.tail.tail.tail.tail.tail.tail.tail.tail.tail.tail.tail) (fun r1 => k (enc dep (.bool) [.b r1]).1 [])⟩

noncomputable def draymanlaw32_PayComes_spec {α : Type} : FunSpec α := draymanlaw32_PayComes_sp draymanlaw32_PayComes

noncomputable def draymanlaw32_PayComes_C {α : Type} (draymanlaw32_awake : draymanlaw32_awake_T α) (draymanlaw32_of : draymanlaw32_of_T α) (pay_Come : pay_Come_T α) (draymanref32_Come : draymanref32_Come_T α) (draymanlaw32_same : draymanlaw32_same_T α) (pay_Fit : pay_Fit_T α) (draymanref32_Fit : draymanref32_Fit_T α) (pay_Same : pay_Same_T α) (draymanref32_Same : draymanref32_Same_T α) (pay_New : pay_New_T α) (draymanref32_New : draymanref32_New_T α) : List (FunSpec α) := [draymanlaw32_awake_sp draymanlaw32_awake, draymanlaw32_of_sp draymanlaw32_of, pay_Come_sp pay_Come, draymanref32_Come_sp draymanref32_Come, draymanlaw32_same_sp draymanlaw32_same, pay_Fit_sp pay_Fit, draymanref32_Fit_sp draymanref32_Fit, pay_Same_sp pay_Same, draymanref32_Same_sp draymanref32_Same, pay_New_sp pay_New, draymanref32_New_sp draymanref32_New]

noncomputable def draymanlaw32_PayComes_q : FuncId → Bool := fun f => Nat.beq f 7 || Nat.beq f 10 || Nat.beq f 14 || Nat.beq f 15 || Nat.beq f 16 || Nat.beq f 17

noncomputable def draymanlaw32_PayComes_inl : FuncId → Bool := fun f => false

noncomputable def draymanlaw32_PayComes_ann : FuncId → AnnT := fun f p => if f = 4 then (if p = [false, true, true, true, true] then ⟨[], [], [], [], 2, [], [], none⟩ else if p = [false, true, true] then ⟨[], [], [], [], 2, [], [], none⟩ else ⟨[], [], [], [], 0, [], [], none⟩) else ⟨[], [], [], [], 0, [], [], none⟩

noncomputable def draymanlaw32_PayComes_loops {α : Type} (draymanlaw32_awake : draymanlaw32_awake_T α) (draymanlaw32_of : draymanlaw32_of_T α) (pay_Come : pay_Come_T α) (draymanref32_Come : draymanref32_Come_T α) (draymanlaw32_same : draymanlaw32_same_T α) (pay_Fit : pay_Fit_T α) (draymanref32_Fit : draymanref32_Fit_T α) (pay_Same : pay_Same_T α) (draymanref32_Same : draymanref32_Same_T α) (pay_New : pay_New_T α) (draymanref32_New : draymanref32_New_T α) : List (LoopSpec α) := []

theorem draymanlaw32_PayComes_ev {α : Type} (draymanlaw32_awake : draymanlaw32_awake_T α) (draymanlaw32_of : draymanlaw32_of_T α) (pay_Come : pay_Come_T α) (draymanref32_Come : draymanref32_Come_T α) (draymanlaw32_same : draymanlaw32_same_T α) (pay_Fit : pay_Fit_T α) (draymanref32_Fit : draymanref32_Fit_T α) (pay_Same : pay_Same_T α) (draymanref32_Same : draymanref32_Same_T α) (pay_New : pay_New_T α) (draymanref32_New : draymanref32_New_T α) : EvOk (α := α) Go.Proofs.Try.prog (envOf (draymanlaw32_PayComes_C draymanlaw32_awake draymanlaw32_of pay_Come draymanref32_Come draymanlaw32_same pay_Fit draymanref32_Fit pay_Same draymanref32_Same pay_New draymanref32_New) draymanlaw32_PayComes_q draymanlaw32_PayComes_inl 1000 draymanlaw32_PayComes_ann false (draymanlaw32_PayComes_loops draymanlaw32_awake draymanlaw32_of pay_Come draymanref32_Come draymanlaw32_same pay_Fit draymanref32_Fit pay_Same draymanref32_Same pay_New draymanref32_New) (fun _ => none)) 6 (draymanlaw32_PayComes_sp (draymanlaw32_PayComes_g draymanlaw32_awake draymanlaw32_of pay_Come draymanref32_Come draymanlaw32_same pay_Fit draymanref32_Fit pay_Same draymanref32_Same pay_New draymanref32_New)) := by intro ds k; kernel_rfl

theorem draymanlaw32_PayComes_ok {α : Type} : (draymanlaw32_PayComes_spec : FunSpec α).ok Go.Proofs.Try.prog :=
  FunSpec.ok_of (sp := draymanlaw32_PayComes_spec) (C := draymanlaw32_PayComes_C draymanlaw32_awake draymanlaw32_of pay_Come draymanref32_Come draymanlaw32_same pay_Fit draymanref32_Fit pay_Same draymanref32_Same pay_New draymanref32_New) (q := draymanlaw32_PayComes_q) (inl := draymanlaw32_PayComes_inl) (N := 1000) (ann := draymanlaw32_PayComes_ann) (fr := false) (D := 6) (l := (draymanlaw32_PayComes_loops draymanlaw32_awake draymanlaw32_of pay_Come draymanref32_Come draymanlaw32_same pay_Fit draymanref32_Fit pay_Same draymanref32_Same pay_New draymanref32_New)) (hk := (fun _ => none)) (okCons draymanlaw32_awake_ok (okCons draymanlaw32_of_ok (okCons pay_Come_ok (okCons draymanref32_Come_ok (okCons draymanlaw32_same_ok (okCons pay_Fit_ok (okCons draymanref32_Fit_ok (okCons pay_Same_ok (okCons draymanref32_Same_ok (okCons pay_New_ok (okCons draymanref32_New_ok okNil))))))))))) lokNil noHooks (draymanlaw32_PayComes_ev draymanlaw32_awake draymanlaw32_of pay_Come draymanref32_Come draymanlaw32_same pay_Fit draymanref32_Fit pay_Same draymanref32_Same pay_New draymanref32_New)

end
end Go.Rv.Try
