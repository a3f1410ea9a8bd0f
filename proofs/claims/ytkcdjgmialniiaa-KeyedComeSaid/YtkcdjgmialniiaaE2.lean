/- What the functions of the program compute, each with the proof that its code computes it. Written by a program (rvp2.py). -/
import Derived.Test.YtkcdjgmialniiaaProg
import Derived.Test.YtkcdjgmialniiaaRvP
import Derived.Test.YtkcdjgmialniiaaE1

set_option linter.unusedVariables false
set_option maxRecDepth 100000
set_option maxHeartbeats 4000000
namespace Go.Rv.Try
open Go Go.Rv Go.RowKit
noncomputable section

-- drayman/draymanref31.Same

abbrev draymanref31_Same_T (α : Type) : Type := (Seq Z1) → (Seq Z1) → (Bool → Option α) → Option α

noncomputable def draymanref31_Same_l0_step {α : Type} (kr : (Bool) → Option α) (k0 : Option α) (rec : (Seq Z1) → (Seq Z1) → (Int) → Option α) (a3 : Seq Z1) (b4 : Seq Z1) (i5 : Int) : Option α :=
  (cond (decide (i5 < (a3.n : Int)))
    (cond (((decide ((0 : Int) ≤ i5)) && (decide (i5 < (a3.n : Int)))) && ((decide ((0 : Int) ≤ i5)) && (decide (i5 < (a3.n : Int)))))
      (cond (((decide ((0 : Int) ≤ i5)) && (decide (i5 < (b4.n : Int)))) && ((decide ((0 : Int) ≤ i5)) && (decide (i5 < (b4.n : Int)))))
        (cond (!(((a3.g i5.toNat).1 == (b4.g i5.toNat).1) && (((a3.g i5.toNat).2.1 == (b4.g i5.toNat).2.1) && (((a3.g i5.toNat).2.2.1 == (b4.g i5.toNat).2.2.1) && (((a3.g i5.toNat).2.2.2.1 == (b4.g i5.toNat).2.2.2.1) && (((a3.g i5.toNat).2.2.2.2.1 == (b4.g i5.toNat).2.2.2.2.1) && (((a3.g i5.toNat).2.2.2.2.2.1 == (b4.g i5.toNat).2.2.2.2.2.1) && true)))))))
          (kr false)
          (rec a3 b4 (IntKind.i64.wrap (i5 + 1))))
        none)
      none)
    (k0))

noncomputable def draymanref31_Same_l0_run {α : Type} (kr : (Bool) → Option α) (k0 : Option α) : Nat → (Seq Z1) → (Seq Z1) → (Int) → Option α
  | 0, _, _, _ => none
  | n + 1, a3, b4, i5 => draymanref31_Same_l0_step kr k0 (fun a3 b4 i5 => draymanref31_Same_l0_run kr k0 n a3 b4 i5) a3 b4 i5

noncomputable def draymanref31_Same {α : Type} (a1 : Seq Z1) (b2 : Seq Z1) (k : Bool → Option α) : Option α :=
  (cond ((a1.n : Int) != (b2.n : Int))
    (k false)
    (draymanref31_Same_l0_run
      (fun x6 =>
        (k x6))
      ((k true))
      1000 a1 b2 0))

noncomputable def draymanref31_Same_sp {α : Type} (draymanref31_Same : draymanref31_Same_T α) : FunSpec α := ⟨71, [.sl (.int .i64 (.int .i64 (.int .i64 (.int .i64 (.int .i64 (.int .i64 (.nil))))))), .sl (.int .i64 (.int .i64 (.int .i64 (.int .i64 (.int .i64 (.int .i64 (.nil)))))))], [], fun ds k => draymanref31_Same (hdQ (.int .i64 (.int .i64 (.int .i64 (.int .i64 (.int .i64 (.int .i64 (.nil))))))) ds) (hdQ (.int .i64 (.int .i64 (.int .i64 (.int .i64 (.int .i64 (.int .i64 (.nil))))))) ds.tail) (fun r1 => k (enc dep (.bool) [.b r1]).1 [])⟩

noncomputable def draymanref31_Same_spec {α : Type} : FunSpec α := draymanref31_Same_sp draymanref31_Same

noncomputable def draymanref31_Same_C {α : Type} : List (FunSpec α) := []

noncomputable def draymanref31_Same_q : FuncId → Bool := fun f => false

noncomputable def draymanref31_Same_inl : FuncId → Bool := fun f => false

noncomputable def draymanref31_Same_ann : FuncId → AnnT := fun f p => if f = 71 then (if p = [true, false, true, true] then ⟨[0, 1, 5], [], [], [4], 0, [], []⟩ else ⟨[], [], [], [], 0, [], []⟩) else ⟨[], [], [], [], 0, [], []⟩

noncomputable def draymanref31_Same_l0_t : List Sh := [.sl (.int .i64 (.int .i64 (.int .i64 (.int .i64 (.int .i64 (.int .i64 (.nil))))))), .sl (.int .i64 (.int .i64 (.int .i64 (.int .i64 (.int .i64 (.int .i64 (.nil))))))), .dead, .dead, .dead, .int .i64, .dead, .dead, .dead, .dead, .dead, .dead, .dead, .dead, .dead, .dead, .dead, .dead, .dead, .dead, .dead, .dead, .dead, .dead, .dead, .dead]
noncomputable def draymanref31_Same_l0_s : List (List Sh) := []
noncomputable def draymanref31_Same_l0_h : List BSh := []

noncomputable def draymanref31_Same_l0_spec {α : Type} : LoopSpec α := ⟨6, 71, [true, false, true, true], draymanref31_Same_l0_t, draymanref31_Same_l0_s, draymanref31_Same_l0_h, fun ds k => draymanref31_Same_l0_run (fun y1 => k .ret (encSt [.dead, .dead, .dead, .dead, .bool, .dead, .dead, .dead, .dead, .dead, .dead, .dead, .dead, .dead, .dead, .dead, .dead, .dead, .dead, .dead, .dead, .dead, .dead, .dead, .dead, .dead] [] [] [.b y1])) (k (.exit 0) (encSt [.dead, .dead, .dead, .dead, .dead, .dead, .dead, .dead, .dead, .dead, .dead, .dead, .dead, .dead, .dead, .dead, .dead, .dead, .dead, .dead, .dead, .dead, .dead, .dead, .dead, .dead] [] [] [])) 1000 (hdQ (.int .i64 (.int .i64 (.int .i64 (.int .i64 (.int .i64 (.int .i64 (.nil))))))) ds) (hdQ (.int .i64 (.int .i64 (.int .i64 (.int .i64 (.int .i64 (.int .i64 (.nil))))))) ds.tail) (hdI ds.tail.tail)⟩

noncomputable def draymanref31_Same_loops {α : Type} : List (LoopSpec α) := [draymanref31_Same_l0_spec]

noncomputable def draymanref31_Same_l0_ev {α : Type} (n : Nat) (st : St) (k : X → St → Option α) : Option α := loopN (evCode Go.Proofs.Try.prog (callD Go.Proofs.Try.prog (envOf (draymanref31_Same_C) draymanref31_Same_q draymanref31_Same_inl 1000 draymanref31_Same_ann false (draymanref31_Same_loops) (fun _ => none)) 6) (((envOf (draymanref31_Same_C) draymanref31_Same_q draymanref31_Same_inl 1000 draymanref31_Same_ann false (draymanref31_Same_loops) (fun _ => none)) : Env α).L 6 71) 1000 (draymanref31_Same_ann 71) (false :: [true, false, true, true]) (loopC Go.Proofs.Try.prog 71 [true, false, true, true])) ((draymanref31_Same_ann 71 [true, false, true, true]).head 0) ((draymanref31_Same_ann 71 [true, false, true, true]).leave 0) n st k

theorem draymanref31_Same_l0_eq {α : Type} : ∀ (n : Nat) (a3 : Seq Z1) (b4 : Seq Z1) (i5 : Int) (k : X → St → Option α), draymanref31_Same_l0_ev n (encSt draymanref31_Same_l0_t draymanref31_Same_l0_s draymanref31_Same_l0_h [.q (.int .i64 (.int .i64 (.int .i64 (.int .i64 (.int .i64 (.int .i64 (.nil))))))) a3, .q (.int .i64 (.int .i64 (.int .i64 (.int .i64 (.int .i64 (.int .i64 (.nil))))))) b4, .i i5]) k = draymanref31_Same_l0_run (fun y1 => k .ret (encSt [.dead, .dead, .dead, .dead, .bool, .dead, .dead, .dead, .dead, .dead, .dead, .dead, .dead, .dead, .dead, .dead, .dead, .dead, .dead, .dead, .dead, .dead, .dead, .dead, .dead, .dead] [] [] [.b y1])) (k (.exit 0) (encSt [.dead, .dead, .dead, .dead, .dead, .dead, .dead, .dead, .dead, .dead, .dead, .dead, .dead, .dead, .dead, .dead, .dead, .dead, .dead, .dead, .dead, .dead, .dead, .dead, .dead, .dead] [] [] [])) n a3 b4 i5 := by
  intro n
  induction n with
  | zero => intros; kernel_rfl
  | succ n ih =>
    intro a3 b4 i5 k
    have e : (fun (a3 : Seq Z1) (b4 : Seq Z1) (i5 : Int) => draymanref31_Same_l0_ev n (encSt draymanref31_Same_l0_t draymanref31_Same_l0_s draymanref31_Same_l0_h [.q (.int .i64 (.int .i64 (.int .i64 (.int .i64 (.int .i64 (.int .i64 (.nil))))))) a3, .q (.int .i64 (.int .i64 (.int .i64 (.int .i64 (.int .i64 (.int .i64 (.nil))))))) b4, .i i5]) k) = (fun (a3 : Seq Z1) (b4 : Seq Z1) (i5 : Int) => draymanref31_Same_l0_run (fun y1 => k .ret (encSt [.dead, .dead, .dead, .dead, .bool, .dead, .dead, .dead, .dead, .dead, .dead, .dead, .dead, .dead, .dead, .dead, .dead, .dead, .dead, .dead, .dead, .dead, .dead, .dead, .dead, .dead] [] [] [.b y1])) (k (.exit 0) (encSt [.dead, .dead, .dead, .dead, .dead, .dead, .dead, .dead, .dead, .dead, .dead, .dead, .dead, .dead, .dead, .dead, .dead, .dead, .dead, .dead, .dead, .dead, .dead, .dead, .dead, .dead] [] [] [])) n a3 b4 i5) := by
      funext a3 b4 i5
      exact ih a3 b4 i5 k
    have h1 : draymanref31_Same_l0_ev (n + 1) (encSt draymanref31_Same_l0_t draymanref31_Same_l0_s draymanref31_Same_l0_h [.q (.int .i64 (.int .i64 (.int .i64 (.int .i64 (.int .i64 (.int .i64 (.nil))))))) a3, .q (.int .i64 (.int .i64 (.int .i64 (.int .i64 (.int .i64 (.int .i64 (.nil))))))) b4, .i i5]) k = draymanref31_Same_l0_step (fun y1 => k .ret (encSt [.dead, .dead, .dead, .dead, .bool, .dead, .dead, .dead, .dead, .dead, .dead, .dead, .dead, .dead, .dead, .dead, .dead, .dead, .dead, .dead, .dead, .dead, .dead, .dead, .dead, .dead] [] [] [.b y1])) (k (.exit 0) (encSt [.dead, .dead, .dead, .dead, .dead, .dead, .dead, .dead, .dead, .dead, .dead, .dead, .dead, .dead, .dead, .dead, .dead, .dead, .dead, .dead, .dead, .dead, .dead, .dead, .dead, .dead] [] [] [])) (fun (a3 : Seq Z1) (b4 : Seq Z1) (i5 : Int) => draymanref31_Same_l0_ev n (encSt draymanref31_Same_l0_t draymanref31_Same_l0_s draymanref31_Same_l0_h [.q (.int .i64 (.int .i64 (.int .i64 (.int .i64 (.int .i64 (.int .i64 (.nil))))))) a3, .q (.int .i64 (.int .i64 (.int .i64 (.int .i64 (.int .i64 (.int .i64 (.nil))))))) b4, .i i5]) k) a3 b4 i5 := by kernel_rfl
    have h2 := congrArg (fun r => draymanref31_Same_l0_step (fun y1 => k .ret (encSt [.dead, .dead, .dead, .dead, .bool, .dead, .dead, .dead, .dead, .dead, .dead, .dead, .dead, .dead, .dead, .dead, .dead, .dead, .dead, .dead, .dead, .dead, .dead, .dead, .dead, .dead] [] [] [.b y1])) (k (.exit 0) (encSt [.dead, .dead, .dead, .dead, .dead, .dead, .dead, .dead, .dead, .dead, .dead, .dead, .dead, .dead, .dead, .dead, .dead, .dead, .dead, .dead, .dead, .dead, .dead, .dead, .dead, .dead] [] [] [])) r a3 b4 i5) e
    have h3 : draymanref31_Same_l0_step (fun y1 => k .ret (encSt [.dead, .dead, .dead, .dead, .bool, .dead, .dead, .dead, .dead, .dead, .dead, .dead, .dead, .dead, .dead, .dead, .dead, .dead, .dead, .dead, .dead, .dead, .dead, .dead, .dead, .dead] [] [] [.b y1])) (k (.exit 0) (encSt [.dead, .dead, .dead, .dead, .dead, .dead, .dead, .dead, .dead, .dead, .dead, .dead, .dead, .dead, .dead, .dead, .dead, .dead, .dead, .dead, .dead, .dead, .dead, .dead, .dead, .dead] [] [] [])) (fun (a3 : Seq Z1) (b4 : Seq Z1) (i5 : Int) => draymanref31_Same_l0_run (fun y1 => k .ret (encSt [.dead, .dead, .dead, .dead, .bool, .dead, .dead, .dead, .dead, .dead, .dead, .dead, .dead, .dead, .dead, .dead, .dead, .dead, .dead, .dead, .dead, .dead, .dead, .dead, .dead, .dead] [] [] [.b y1])) (k (.exit 0) (encSt [.dead, .dead, .dead, .dead, .dead, .dead, .dead, .dead, .dead, .dead, .dead, .dead, .dead, .dead, .dead, .dead, .dead, .dead, .dead, .dead, .dead, .dead, .dead, .dead, .dead, .dead] [] [] [])) n a3 b4 i5) a3 b4 i5 = draymanref31_Same_l0_run (fun y1 => k .ret (encSt [.dead, .dead, .dead, .dead, .bool, .dead, .dead, .dead, .dead, .dead, .dead, .dead, .dead, .dead, .dead, .dead, .dead, .dead, .dead, .dead, .dead, .dead, .dead, .dead, .dead, .dead] [] [] [.b y1])) (k (.exit 0) (encSt [.dead, .dead, .dead, .dead, .dead, .dead, .dead, .dead, .dead, .dead, .dead, .dead, .dead, .dead, .dead, .dead, .dead, .dead, .dead, .dead, .dead, .dead, .dead, .dead, .dead, .dead] [] [] [])) (n + 1) a3 b4 i5 := by kernel_rfl
    exact h1.trans (h2.trans h3)

theorem draymanref31_Same_l0_ok {α : Type} : (draymanref31_Same_l0_spec : LoopSpec α).ok Go.Proofs.Try.prog (envOf (draymanref31_Same_C) draymanref31_Same_q draymanref31_Same_inl 1000 draymanref31_Same_ann false (draymanref31_Same_loops) (fun _ => none)) := by
  intro ds k
  have h1 : draymanref31_Same_l0_ev 1000 (encSt draymanref31_Same_l0_t draymanref31_Same_l0_s draymanref31_Same_l0_h ds) k = draymanref31_Same_l0_ev 1000 (encSt draymanref31_Same_l0_t draymanref31_Same_l0_s draymanref31_Same_l0_h [.q (.int .i64 (.int .i64 (.int .i64 (.int .i64 (.int .i64 (.int .i64 (.nil))))))) (hdQ (.int .i64 (.int .i64 (.int .i64 (.int .i64 (.int .i64 (.int .i64 (.nil))))))) ds), .q (.int .i64 (.int .i64 (.int .i64 (.int .i64 (.int .i64 (.int .i64 (.nil))))))) (hdQ (.int .i64 (.int .i64 (.int .i64 (.int .i64 (.int .i64 (.int .i64 (.nil))))))) ds.tail), .i (hdI ds.tail.tail)]) k := by kernel_rfl
  have h2 := draymanref31_Same_l0_eq 1000 (hdQ (.int .i64 (.int .i64 (.int .i64 (.int .i64 (.int .i64 (.int .i64 (.nil))))))) ds) (hdQ (.int .i64 (.int .i64 (.int .i64 (.int .i64 (.int .i64 (.int .i64 (.nil))))))) ds.tail) (hdI ds.tail.tail) k
  exact h1.trans h2

theorem draymanref31_Same_ev {α : Type} : EvOk (α := α) Go.Proofs.Try.prog (envOf (draymanref31_Same_C) draymanref31_Same_q draymanref31_Same_inl 1000 draymanref31_Same_ann false (draymanref31_Same_loops) (fun _ => none)) 6 (draymanref31_Same_sp (draymanref31_Same)) := by intro ds k; kernel_rfl

theorem draymanref31_Same_ok {α : Type} : (draymanref31_Same_spec : FunSpec α).ok Go.Proofs.Try.prog :=
  FunSpec.ok_of (sp := draymanref31_Same_spec) (C := draymanref31_Same_C) (q := draymanref31_Same_q) (inl := draymanref31_Same_inl) (N := 1000) (ann := draymanref31_Same_ann) (fr := false) (D := 6) (l := (draymanref31_Same_loops)) (hk := (fun _ => none)) okNil (lokCons (draymanref31_Same_l0_ok) lokNil) noHooks (draymanref31_Same_ev)

end
end Go.Rv.Try

set_option linter.unusedVariables false
set_option maxRecDepth 100000
set_option maxHeartbeats 4000000
namespace Go.Rv.Try
open Go Go.Rv Go.RowKit
noncomputable section

-- drayman/draymanlaw31.KeyedCome

abbrev draymanlaw31_KeyedCome_T (α : Type) : Type := (Seq Z1) → Z0 → Int → (Bool → Option α) → Option α

noncomputable def draymanlaw31_KeyedCome_g {α : Type} (draymanlaw31_awake : draymanlaw31_awake_T α) (keyed_Come : keyed_Come_T α) (draymanref31_Come : draymanref31_Come_T α) (keyed_Find : keyed_Find_T α) (draymanref31_Find : draymanref31_Find_T α) (keyed_Effects : keyed_Effects_T α) (draymanref31_Effects : draymanref31_Effects_T α) (draymanref31_Same : draymanref31_Same_T α) (keyed_Fit : keyed_Fit_T α) (draymanref31_Fit : draymanref31_Fit_T α) (x1 : Seq Z1) (x2 : Int × Int × Int × Bool × Int × Int × Bool × Unit) (x3 : Int) (k : Bool → Option α) : Option α :=
  (cond (decide ((x1.n : Int) > 30))
    (draymanlaw31_awake fun r4 =>
      (k r4))
    (keyed_Come x1 x2 x3 fun r5 r6 r7 r8 =>
      (draymanref31_Come x1 x2 x3 fun r9 r10 r11 r12 =>
        (keyed_Find x1 x2.2.1 x2.2.2.1 fun r13 r14 =>
          (draymanref31_Find x1 x2.2.1 x2.2.2.1 fun r15 r16 =>
            (keyed_Effects x1 fun r17 r18 =>
              (draymanref31_Effects x1 fun r19 r20 =>
                (draymanref31_Same r8 r9 fun r21 =>
                  (cond r21
                    (cond (r5 == r10)
                      (cond (r6 == r11)
                        (cond (r7 == r12)
                          (cond ((r13.1 == r15.1) && ((r13.2.1 == r15.2.1) && ((r13.2.2.1 == r15.2.2.1) && ((r13.2.2.2.1 == r15.2.2.2.1) && ((r13.2.2.2.2.1 == r15.2.2.2.2.1) && ((r13.2.2.2.2.2.1 == r15.2.2.2.2.2.1) && true))))))
                            (cond (r14 == r16)
                              (cond (r17 == r19)
                                (cond (r18 == r20)
                                  (keyed_Fit x1 fun r22 =>
                                    (draymanref31_Fit x1 fun r23 =>
                                      (cond (r22 == r23)
                                        (draymanlaw31_awake fun r24 =>
                                          (k r24))
                                        (k false))))
                                  (k false))
                                (k false))
                              (k false))
                            (k false))
                          (k false))
                        (k false))
                      (k false))
                    (k false))))))))))

noncomputable def draymanlaw31_KeyedCome {α : Type} : draymanlaw31_KeyedCome_T α := draymanlaw31_KeyedCome_g draymanlaw31_awake keyed_Come draymanref31_Come keyed_Find draymanref31_Find keyed_Effects draymanref31_Effects draymanref31_Same keyed_Fit draymanref31_Fit

noncomputable def draymanlaw31_KeyedCome_sp {α : Type} (draymanlaw31_KeyedCome : draymanlaw31_KeyedCome_T α) : FunSpec α := ⟨12, [.sl (.int .i64 (.int .i64 (.int .i64 (.int .i64 (.int .i64 (.int .i64 (.nil))))))), .agg [.int .i64, .int .i64, .int .i64, .bool, .int .i64, .int .i64, .bool], .int .i64], [], fun ds k => draymanlaw31_KeyedCome (hdQ (.int .i64 (.int .i64 (.int .i64 (.int .i64 (.int .i64 (.int .i64 (.nil))))))) ds) (hdI ds.tail, hdI ds.tail.tail, hdI ds.tail.tail.tail, hdB ds.tail.tail.tail.tail, hdI ds.tail.tail.tail.tail.tail, hdI ds.tail.tail.tail.tail.tail.tail, hdB ds.tail.tail.tail.tail.tail.tail.tail, ()) (hdI ds.tail.tail.tail.tail.tail.tail.tail.tail) (fun r1 => k (enc dep (.bool) [.b r1]).1 [])⟩

noncomputable def draymanlaw31_KeyedCome_spec {α : Type} : FunSpec α := draymanlaw31_KeyedCome_sp draymanlaw31_KeyedCome

noncomputable def draymanlaw31_KeyedCome_C {α : Type} (draymanlaw31_awake : draymanlaw31_awake_T α) (keyed_Come : keyed_Come_T α) (draymanref31_Come : draymanref31_Come_T α) (keyed_Find : keyed_Find_T α) (draymanref31_Find : draymanref31_Find_T α) (keyed_Effects : keyed_Effects_T α) (draymanref31_Effects : draymanref31_Effects_T α) (draymanref31_Same : draymanref31_Same_T α) (keyed_Fit : keyed_Fit_T α) (draymanref31_Fit : draymanref31_Fit_T α) : List (FunSpec α) := [draymanlaw31_awake_sp draymanlaw31_awake, keyed_Come_sp keyed_Come, draymanref31_Come_sp draymanref31_Come, keyed_Find_sp keyed_Find, draymanref31_Find_sp draymanref31_Find, keyed_Effects_sp keyed_Effects, draymanref31_Effects_sp draymanref31_Effects, draymanref31_Same_sp draymanref31_Same, keyed_Fit_sp keyed_Fit, draymanref31_Fit_sp draymanref31_Fit]

noncomputable def draymanlaw31_KeyedCome_q : FuncId → Bool := fun f => Nat.beq f 69 || Nat.beq f 71 || Nat.beq f 73 || Nat.beq f 74 || Nat.beq f 75 || Nat.beq f 76 || Nat.beq f 77 || Nat.beq f 78

noncomputable def draymanlaw31_KeyedCome_inl : FuncId → Bool := fun f => false

noncomputable def draymanlaw31_KeyedCome_ann : FuncId → AnnT := fun f p => ⟨[], [], [], [], 0, [], []⟩

noncomputable def draymanlaw31_KeyedCome_loops {α : Type} (draymanlaw31_awake : draymanlaw31_awake_T α) (keyed_Come : keyed_Come_T α) (draymanref31_Come : draymanref31_Come_T α) (keyed_Find : keyed_Find_T α) (draymanref31_Find : draymanref31_Find_T α) (keyed_Effects : keyed_Effects_T α) (draymanref31_Effects : draymanref31_Effects_T α) (draymanref31_Same : draymanref31_Same_T α) (keyed_Fit : keyed_Fit_T α) (draymanref31_Fit : draymanref31_Fit_T α) : List (LoopSpec α) := []

theorem draymanlaw31_KeyedCome_ev {α : Type} (draymanlaw31_awake : draymanlaw31_awake_T α) (keyed_Come : keyed_Come_T α) (draymanref31_Come : draymanref31_Come_T α) (keyed_Find : keyed_Find_T α) (draymanref31_Find : draymanref31_Find_T α) (keyed_Effects : keyed_Effects_T α) (draymanref31_Effects : draymanref31_Effects_T α) (draymanref31_Same : draymanref31_Same_T α) (keyed_Fit : keyed_Fit_T α) (draymanref31_Fit : draymanref31_Fit_T α) : EvOk (α := α) Go.Proofs.Try.prog (envOf (draymanlaw31_KeyedCome_C draymanlaw31_awake keyed_Come draymanref31_Come keyed_Find draymanref31_Find keyed_Effects draymanref31_Effects draymanref31_Same keyed_Fit draymanref31_Fit) draymanlaw31_KeyedCome_q draymanlaw31_KeyedCome_inl 1000 draymanlaw31_KeyedCome_ann false (draymanlaw31_KeyedCome_loops draymanlaw31_awake keyed_Come draymanref31_Come keyed_Find draymanref31_Find keyed_Effects draymanref31_Effects draymanref31_Same keyed_Fit draymanref31_Fit) (fun _ => none)) 6 (draymanlaw31_KeyedCome_sp (draymanlaw31_KeyedCome_g draymanlaw31_awake keyed_Come draymanref31_Come keyed_Find draymanref31_Find keyed_Effects draymanref31_Effects draymanref31_Same keyed_Fit draymanref31_Fit)) := by intro ds k; kernel_rfl

theorem draymanlaw31_KeyedCome_ok {α : Type} : (draymanlaw31_KeyedCome_spec : FunSpec α).ok Go.Proofs.Try.prog :=
  FunSpec.ok_of (sp := draymanlaw31_KeyedCome_spec) (C := draymanlaw31_KeyedCome_C draymanlaw31_awake keyed_Come draymanref31_Come keyed_Find draymanref31_Find keyed_Effects draymanref31_Effects draymanref31_Same keyed_Fit draymanref31_Fit) (q := draymanlaw31_KeyedCome_q) (inl := draymanlaw31_KeyedCome_inl) (N := 1000) (ann := draymanlaw31_KeyedCome_ann) (fr := false) (D := 6) (l := (draymanlaw31_KeyedCome_loops draymanlaw31_awake keyed_Come draymanref31_Come keyed_Find draymanref31_Find keyed_Effects draymanref31_Effects draymanref31_Same keyed_Fit draymanref31_Fit)) (hk := (fun _ => none)) (okCons draymanlaw31_awake_ok (okCons keyed_Come_ok (okCons draymanref31_Come_ok (okCons keyed_Find_ok (okCons draymanref31_Find_ok (okCons keyed_Effects_ok (okCons draymanref31_Effects_ok (okCons draymanref31_Same_ok (okCons keyed_Fit_ok (okCons draymanref31_Fit_ok okNil)))))))))) lokNil noHooks (draymanlaw31_KeyedCome_ev draymanlaw31_awake keyed_Come draymanref31_Come keyed_Find draymanref31_Find keyed_Effects draymanref31_Effects draymanref31_Same keyed_Fit draymanref31_Fit)

end
end Go.Rv.Try
