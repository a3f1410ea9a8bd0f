/- What the functions of the program compute, each with the proof that its code computes it. Written by a program (rvp2.py). -/
import Derived.Test.YtkcdjgmialniiaaProg
import Derived.Test.YtkcdjgmialniiaaRvP
import Derived.Test.YtkcdjgmialniiaaE1

set_option linter.unusedVariables false
set_option maxRecDepth 100000
set_option maxHeartbeats 4000000
namespace Go.Rv.Try
open Go Go.Rv Go.RowKit
noncomputable section

-- drayman/draymanref31.Effects

abbrev draymanref31_Effects_T (α : Type) : Type := (Seq Z1) → (Int → Int → Option α) → Option α

noncomputable def draymanref31_Effects_l0_step {α : Type} (draymanref31_Fit : draymanref31_Fit_T α) (k0 : (Int) → (Int) → Option α) (rec : (Seq Z1) → (Int) → (Int) → (Int) → Option α) (l2 : Seq Z1) (n3 : Int) (m4 : Int) (i5 : Int) : Option α :=
  (cond (decide (i5 < (l2.n : Int)))
    (draymanref31_Fit l2 fun r6 =>
      (cond r6
        (cond ((decide ((0 : Int) ≤ i5)) && (decide (i5 < (l2.n : Int))))
          (cond ((decide ((0 : Int) ≤ i5)) && (decide (i5 < (l2.n : Int))))
            (rec l2 (IntKind.i64.wrap (n3 + (l2.g i5.toNat).2.2.2.1)) (IntKind.i64.wrap (m4 + (l2.g i5.toNat).2.2.2.2.1)) (IntKind.i64.wrap (i5 + 1)))
            none)
          none)
        (k0 n3 m4)))
    (k0 n3 m4))

noncomputable def draymanref31_Effects_l0_run {α : Type} (draymanref31_Fit : draymanref31_Fit_T α) (k0 : (Int) → (Int) → Option α) : Nat → (Seq Z1) → (Int) → (Int) → (Int) → Option α
  | 0, _, _, _, _ => none
  | n + 1, l2, n3, m4, i5 => draymanref31_Effects_l0_step draymanref31_Fit k0 (fun l2 n3 m4 i5 => draymanref31_Effects_l0_run draymanref31_Fit k0 n l2 n3 m4 i5) l2 n3 m4 i5

noncomputable def draymanref31_Effects_g {α : Type} (draymanref31_Fit : draymanref31_Fit_T α) (l1 : Seq Z1) (k : Int → Int → Option α) : Option α :=
  (draymanref31_Effects_l0_run draymanref31_Fit
    (fun x7 x8 =>
      (k x7 x8))
    1000 l1 0 0 0)

noncomputable def draymanref31_Effects {α : Type} : draymanref31_Effects_T α := draymanref31_Effects_g draymanref31_Fit

noncomputable def draymanref31_Effects_sp {α : Type} (draymanref31_Effects : draymanref31_Effects_T α) : FunSpec α := ⟨76, [.sl (.int .i64 (.int .i64 (.int .i64 (.int .i64 (.int .i64 (.int .i64 (.nil)))))))], [], fun ds k => draymanref31_Effects (hdQ (.int .i64 (.int .i64 (.int .i64 (.int .i64 (.int .i64 (.int .i64 (.nil))))))) ds) (fun r1 r2 => k (enc dep (.tup [.int .i64, .int .i64]) [.i r1, .i r2]).1 [])⟩

noncomputable def draymanref31_Effects_spec {α : Type} : FunSpec α := draymanref31_Effects_sp draymanref31_Effects

noncomputable def draymanref31_Effects_C {α : Type} (draymanref31_Fit : draymanref31_Fit_T α) : List (FunSpec α) := [draymanref31_Fit_sp draymanref31_Fit]

noncomputable def draymanref31_Effects_q : FuncId → Bool := fun f => Nat.beq f 78

noncomputable def draymanref31_Effects_inl : FuncId → Bool := fun f => false

noncomputable def draymanref31_Effects_ann : FuncId → AnnT := fun f p => if f = 76 then (if p = [true, false, true, true] then ⟨[0, 4, 5, 6], [], [4, 5], [2, 3], 0, [], []⟩ else ⟨[], [], [], [], 0, [], []⟩) else ⟨[], [], [], [], 0, [], []⟩

noncomputable def draymanref31_Effects_l0_t : List Sh := [.sl (.int .i64 (.int .i64 (.int .i64 (.int .i64 (.int .i64 (.int .i64 (.nil))))))), .dead, .dead, .dead, .int .i64, .int .i64, .int .i64, .dead, .dead, .dead, .dead, .dead, .dead, .dead, .dead, .dead, .dead, .dead, .dead, .dead, .dead, .dead, .dead, .dead, .dead, .dead, .dead, .dead, .dead, .dead, .dead, .dead, .dead]
noncomputable def draymanref31_Effects_l0_s : List (List Sh) := []
noncomputable def draymanref31_Effects_l0_h : List BSh := []

noncomputable def draymanref31_Effects_l0_spec {α : Type} (draymanref31_Fit : draymanref31_Fit_T α) : LoopSpec α := ⟨6, 76, [true, false, true, true], draymanref31_Effects_l0_t, draymanref31_Effects_l0_s, draymanref31_Effects_l0_h, fun ds k => draymanref31_Effects_l0_run draymanref31_Fit (fun y1 y2 => k (.exit 0) (encSt [.dead, .dead, .dead, .dead, .int .i64, .int .i64, .dead, .dead, .dead, .dead, .dead, .dead, .dead, .dead, .dead, .dead, .dead, .dead, .dead, .dead, .dead, .dead, .dead, .dead, .dead, .dead, .dead, .dead, .dead, .dead, .dead, .dead, .dead] [] [] [.i y1, .i y2])) 1000 (hdQ (.int .i64 (.int .i64 (.int .i64 (.int .i64 (.int .i64 (.int .i64 (.nil))))))) ds) (hdI ds.tail) (hdI ds.tail.tail) (hdI ds.tail.tail.tail)⟩

noncomputable def draymanref31_Effects_loops {α : Type} (draymanref31_Fit : draymanref31_Fit_T α) : List (LoopSpec α) := [draymanref31_Effects_l0_spec draymanref31_Fit]

noncomputable def draymanref31_Effects_l0_ev {α : Type} (draymanref31_Fit : draymanref31_Fit_T α) (n : Nat) (st : St) (k : X → St → Option α) : Option α := loopN (evCode Go.Proofs.Try.prog (callD Go.Proofs.Try.prog (envOf (draymanref31_Effects_C draymanref31_Fit) draymanref31_Effects_q draymanref31_Effects_inl 1000 draymanref31_Effects_ann false (draymanref31_Effects_loops draymanref31_Fit) (fun _ => none)) 6) (((envOf (draymanref31_Effects_C draymanref31_Fit) draymanref31_Effects_q draymanref31_Effects_inl 1000 draymanref31_Effects_ann false (draymanref31_Effects_loops draymanref31_Fit) (fun _ => none)) : Env α).L 6 76) 1000 (draymanref31_Effects_ann 76) (false :: [true, false, true, true]) (loopC Go.Proofs.Try.prog 76 [true, false, true, true])) ((draymanref31_Effects_ann 76 [true, false, true, true]).head 0) ((draymanref31_Effects_ann 76 [true, false, true, true]).leave 0) n st k

theorem draymanref31_Effects_l0_eq {α : Type} (draymanref31_Fit : draymanref31_Fit_T α) : ∀ (n : Nat) (l2 : Seq Z1) (n3 : Int) (m4 : Int) (i5 : Int) (k : X → St → Option α), draymanref31_Effects_l0_ev draymanref31_Fit n (encSt draymanref31_Effects_l0_t draymanref31_Effects_l0_s draymanref31_Effects_l0_h [.q (.int .i64 (.int .i64 (.int .i64 (.int .i64 (.int .i64 (.int .i64 (.nil))))))) l2, .i n3, .i m4, .i i5]) k = draymanref31_Effects_l0_run draymanref31_Fit (fun y1 y2 => k (.exit 0) (encSt [.dead, .dead, .dead, .dead, .int .i64, .int .i64, .dead, .dead, .dead, .dead, .dead, .dead, .dead, .dead, .dead, .dead, .dead, .dead, .dead, .dead, .dead, .dead, .dead, .dead, .dead, .dead, .dead, .dead, .dead, .dead, .dead, .dead, .dead] [] [] [.i y1, .i y2])) n l2 n3 m4 i5 := by
  intro n
  induction n with
  | zero => intros; kernel_rfl
  | succ n ih =>
    intro l2 n3 m4 i5 k
    have e : (fun (l2 : Seq Z1) (n3 : Int) (m4 : Int) (i5 : Int) => draymanref31_Effects_l0_ev draymanref31_Fit n (encSt draymanref31_Effects_l0_t draymanref31_Effects_l0_s draymanref31_Effects_l0_h [.q (.int .i64 (.int .i64 (.int .i64 (.int .i64 (.int .i64 (.int .i64 (.nil))))))) l2, .i n3, .i m4, .i i5]) k) = (fun (l2 : Seq Z1) (n3 : Int) (m4 : Int) (i5 : Int) => draymanref31_Effects_l0_run draymanref31_Fit (fun y1 y2 => k (.exit 0) (encSt [.dead, .dead, .dead, .dead, .int .i64, .int .i64, .dead, .dead, .dead, .dead, .dead, .dead, .dead, .dead, .dead, .dead, .dead, .dead, .dead, .dead, .dead, .dead, .dead, .dead, .dead, .dead, .dead, .dead, .dead, .dead, .dead, .dead, .dead] [] [] [.i y1, .i y2])) n l2 n3 m4 i5) := by
      funext l2 n3 m4 i5
      exact ih l2 n3 m4 i5 k
    have h1 : draymanref31_Effects_l0_ev draymanref31_Fit (n + 1) (encSt draymanref31_Effects_l0_t draymanref31_Effects_l0_s draymanref31_Effects_l0_h [.q (.int .i64 (.int .i64 (.int .i64 (.int .i64 (.int .i64 (.int .i64 (.nil))))))) l2, .i n3, .i m4, .i i5]) k = draymanref31_Effects_l0_step draymanref31_Fit (fun y1 y2 => k (.exit 0) (encSt [.dead, .dead, .dead, .dead, .int .i64, .int .i64, .dead, .dead, .dead, .dead, .dead, .dead, .dead, .dead, .dead, .dead, .dead, .dead, .dead, .dead, .dead, .dead, .dead, .dead, .dead, .dead, .dead, .dead, .dead, .dead, .dead, .dead, .dead] [] [] [.i y1, .i y2])) (fun (l2 : Seq Z1) (n3 : Int) (m4 : Int) (i5 : Int) => draymanref31_Effects_l0_ev draymanref31_Fit n (encSt draymanref31_Effects_l0_t draymanref31_Effects_l0_s draymanref31_Effects_l0_h [.q (.int .i64 (.int .i64 (.int .i64 (.int .i64 (.int .i64 (.int .i64 (.nil))))))) l2, .i n3, .i m4, .i i5]) k) l2 n3 m4 i5 := by kernel_rfl
    have h2 := congrArg (fun r => draymanref31_Effects_l0_step draymanref31_Fit (fun y1 y2 => k (.exit 0) (encSt [.dead, .dead, .dead, .dead, .int .i64, .int .i64, .dead, .dead, .dead, .dead, .dead, .dead, .dead, .dead, .dead, .dead, .dead, .dead, .dead, .dead, .dead, .dead, .dead, .dead, .dead, .dead, .dead, .dead, .dead, .dead, .dead, .dead, .dead] [] [] [.i y1, .i y2])) r l2 n3 m4 i5) e
    have h3 : draymanref31_Effects_l0_step draymanref31_Fit (fun y1 y2 => k (.exit 0) (encSt [.dead, .dead, .dead, .dead, .int .i64, .int .i64, .dead, .dead, .dead, .dead, .dead, .dead, .dead, .dead, .dead, .dead, .dead, .dead, .dead, .dead, .dead, .dead, .dead, .dead, .dead, .dead, .dead, .dead, .dead, .dead, .dead, .dead, .dead] [] [] [.i y1, .i y2])) (fun (l2 : Seq Z1) (n3 : Int) (m4 : Int) (i5 : Int) => draymanref31_Effects_l0_run draymanref31_Fit (fun y1 y2 => k (.exit 0) (encSt [.dead, .dead, .dead, .dead, .int .i64, .int .i64, .dead, .dead, .dead, .dead, .dead, .dead, .dead, .dead, .dead, .dead, .dead, .dead, .dead, .dead, .dead, .dead, .dead, .dead, .dead, .dead, .dead, .dead, .dead, .dead, .dead, .dead, .dead] [] [] [.i y1, .i y2])) n l2 n3 m4 i5) l2 n3 m4 i5 = draymanref31_Effects_l0_run draymanref31_Fit (fun y1 y2 => k (.exit 0) (encSt [.dead, .dead, .dead, .dead, .int .i64, .int .i64, .dead, .dead, .dead, .dead, .dead, .dead, .dead, .dead, .dead, .dead, .dead, .dead, .dead, .dead, .dead, .dead, .dead, .dead, .dead, .dead, .dead, .dead, .dead, .dead, .dead, .dead, .dead] [] [] [.i y1, .i y2])) (n + 1) l2 n3 m4 i5 := by kernel_rfl
    exact h1.trans (h2.trans h3)

theorem draymanref31_Effects_l0_ok {α : Type} (draymanref31_Fit : draymanref31_Fit_T α) : (draymanref31_Effects_l0_spec draymanref31_Fit : LoopSpec α).ok Go.Proofs.Try.prog (envOf (draymanref31_Effects_C draymanref31_Fit) draymanref31_Effects_q draymanref31_Effects_inl 1000 draymanref31_Effects_ann false (draymanref31_Effects_loops draymanref31_Fit) (fun _ => none)) := by
  intro ds k
  have h1 : draymanref31_Effects_l0_ev draymanref31_Fit 1000 (encSt draymanref31_Effects_l0_t draymanref31_Effects_l0_s draymanref31_Effects_l0_h ds) k = draymanref31_Effects_l0_ev draymanref31_Fit 1000 (encSt draymanref31_Effects_l0_t draymanref31_Effects_l0_s draymanref31_Effects_l0_h [.q (.int .i64 (.int .i64 (.int .i64 (.int .i64 (.int .i64 (.int .i64 (.nil))))))) (hdQ (.int .i64 (.int .i64 (.int .i64 (.int .i64 (.int .i64 (.int .i64 (.nil))))))) ds), .i (hdI ds.tail), .i (hdI ds.tail.tail), .i (hdI ds.tail.tail.tail)]) k := by kernel_rfl
  have h2 := draymanref31_Effects_l0_eq draymanref31_Fit 1000 (hdQ (.int .i64 (.int .i64 (.int .i64 (.int .i64 (.int .i64 (.int .i64 (.nil))))))) ds) (hdI ds.tail) (hdI ds.tail.tail) (hdI ds.tail.tail.tail) k
  exact h1.trans h2

theorem draymanref31_Effects_ev {α : Type} (draymanref31_Fit : draymanref31_Fit_T α) : EvOk (α := α) Go.Proofs.Try.prog (envOf (draymanref31_Effects_C draymanref31_Fit) draymanref31_Effects_q draymanref31_Effects_inl 1000 draymanref31_Effects_ann false (draymanref31_Effects_loops draymanref31_Fit) (fun _ => none)) 6 (draymanref31_Effects_sp (draymanref31_Effects_g draymanref31_Fit)) := by intro ds k; kernel_rfl

theorem draymanref31_Effects_ok {α : Type} : (draymanref31_Effects_spec : FunSpec α).ok Go.Proofs.Try.prog :=
  FunSpec.ok_of (sp := draymanref31_Effects_spec) (C := draymanref31_Effects_C draymanref31_Fit) (q := draymanref31_Effects_q) (inl := draymanref31_Effects_inl) (N := 1000) (ann := draymanref31_Effects_ann) (fr := false) (D := 6) (l := (draymanref31_Effects_loops draymanref31_Fit)) (hk := (fun _ => none)) (okCons draymanref31_Fit_ok okNil) (lokCons (draymanref31_Effects_l0_ok draymanref31_Fit) lokNil) noHooks (draymanref31_Effects_ev draymanref31_Fit)

end
end Go.Rv.Try

set_option linter.unusedVariables false
set_option maxRecDepth 100000
set_option maxHeartbeats 4000000
namespace Go.Rv.Try
open Go Go.Rv Go.RowKit
noncomputable section

-- drayman/draymanlaw31.KeyedCome

abbrev draymanlaw31_KeyedCome_T (α : Type) : Type := (Seq Z1) → Z0 → Int → (Bool → Option α) → Option α

noncomputable def draymanlaw31_KeyedCome_g {α : Type} (draymanlaw31_awake : draymanlaw31_awake_T α) (keyed_Come : keyed_Come_T α) (draymanref31_Come : draymanref31_Come_T α) (keyed_Find : keyed_Find_T α) (draymanref31_Find : draymanref31_Find_T α) (keyed_Effects : keyed_Effects_T α) (draymanref31_Effects : draymanref31_Effects_T α) (draymanref31_Same : draymanref31_Same_T α) (keyed_Fit : keyed_Fit_T α) (draymanref31_Fit : draymanref31_Fit_T α) (x1 : Seq Z1) (x2 : Int × Int × Int × Bool × Int × Int × Bool × Unit) (x3 : Int) (k : Bool → Option α) : Option α :=
  (cond (decide ((x1.n : Int) > 30))
    (draymanlaw31_awake fun r4 =>
      (k r4))
    (keyed_Come x1 x2 x3 fun r5 r6 r7 r8 =>
      (draymanref31_Come x1 x2 x3 fun r9 r10 r11 r12 =>
        (keyed_Find x1 x2.2.1 x2.2.2.1 fun r13 r14 =>
          (draymanref31_Find x1 x2.2.1 x2.2.2.1 fun r15 r16 =>
            (keyed_Effects x1 fun r17 r18 =>
              (draymanref31_Effects x1 fun r19 r20 =>
                (draymanref31_Same r8 r9 fun r21 =>
                  (cond r21
                    (cond (r5 == r10)
                      (cond (r6 == r11)
                        (cond (r7 == r12)
                          (cond ((r13.1 == r15.1) && ((r13.2.1 == r15.2.1) && ((r13.2.2.1 == r15.2.2.1) && ((r13.2.2.2.1 == r15.2.2.2.1) && ((r13.2.2.2.2.1 == r15.2.2.2.2.1) && ((r13.2.2.2.2.2.1 == r15.2.2.2.2.2.1) && true))))))
                            (cond (r14 == r16)
                              (cond (r17 == r19)
                                (cond (r18 == r20)
                                  (keyed_Fit x1 fun r22 =>
                                    (draymanref31_Fit x1 fun r23 =>
                                      (cond (r22 == r23)
                                        (draymanlaw31_awake fun r24 =>
                                          (k r24))
                                        (k false))))
                                  (k false))
                                (k false))
                              (k false))
                            (k false))
                          (k false))
                        (k false))
                      (k false))
                    (k false))))))))))

noncomputable def draymanlaw31_KeyedCome {α : Type} : draymanlaw31_KeyedCome_T α := draymanlaw31_KeyedCome_g draymanlaw31_awake keyed_Come draymanref31_Come keyed_Find draymanref31_Find keyed_Effects draymanref31_Effects draymanref31_Same keyed_Fit draymanref31_Fit

noncomputable def draymanlaw31_KeyedCome_sp {α : Type} (draymanlaw31_KeyedCome : draymanlaw31_KeyedCome_T α) : FunSpec α := ⟨12, [.sl (.int .i64 (.int .i64 (.int .i64 (.int .i64 (.int .i64 (.int .i64 (.nil))))))), .agg [.int .i64, .int .i64, .int .i64, .bool, .int .i64, .int .i64, .bool], .int .i64], [], fun ds k => draymanlaw31_KeyedCome (hdQ (.int .i64 (.int .i64 (.int .i64 (.int .i64 (.int .i64 (.int .i64 (.nil))))))) ds) (hdI ds.tail, hdI ds.tail.tail, hdI ds.tail.tail.tail, hdB ds.tail.tail.tail.tail, hdI ds.tail.tail.tail.tail.tail, hdI ds.tail.tail.tail.tail.tail.tail, hdB ds.tail.tail.tail.tail.tail.tail.tail, ()) (hdI ds.tail.tail.tail.tail.tail.tail.tail.tail) (fun r1 => k (enc dep (.bool) [.b r1]).1 [])⟩

noncomputable def draymanlaw31_KeyedCome_spec {α : Type} : FunSpec α := draymanlaw31_KeyedCome_sp draymanlaw31_KeyedCome

noncomputable def draymanlaw31_KeyedCome_C {α : Type} (draymanlaw31_awake : draymanlaw31_awake_T α) (keyed_Come : keyed_Come_T α) (draymanref31_Come : draymanref31_Come_T α) (keyed_Find : keyed_Find_T α) (draymanref31_Find : draymanref31_Find_T α) (keyed_Effects : keyed_Effects_T α) (draymanref31_Effects : draymanref31_Effects_T α) (draymanref31_Same : draymanref31_Same_T α) (keyed_Fit : keyed_Fit_T α) (draymanref31_Fit : draymanref31_Fit_T α) : List (FunSpec α) := [draymanlaw31_awake_sp draymanlaw31_awake, keyed_Come_sp keyed_Come, draymanref31_Come_sp draymanref31_Come, keyed_Find_sp keyed_Find, draymanref31_Find_sp draymanref31_Find, keyed_Effects_sp keyed_Effects, draymanref31_Effects_sp draymanref31_Effects, draymanref31_Same_sp draymanref31_Same, keyed_Fit_sp keyed_Fit, draymanref31_Fit_sp draymanref31_Fit]

noncomputable def draymanlaw31_KeyedCome_q : FuncId → Bool := fun f => Nat.beq f 69 || Nat.beq f 71 || Nat.beq f 73 || Nat.beq f 74 || Nat.beq f 75 || Nat.beq f 76 || Nat.beq f 77 || Nat.beq f 78

noncomputable def draymanlaw31_KeyedCome_inl : FuncId → Bool := fun f => false

noncomputable def draymanlaw31_KeyedCome_ann : FuncId → AnnT := fun f p => ⟨[], [], [], [], 0, [], []⟩

noncomputable def draymanlaw31_KeyedCome_loops {α : Type} (draymanlaw31_awake : draymanlaw31_awake_T α) (keyed_Come : keyed_Come_T α) (draymanref31_Come : draymanref31_Come_T α) (keyed_Find : keyed_Find_T α) (draymanref31_Find : draymanref31_Find_T α) (keyed_Effects : keyed_Effects_T α) (draymanref31_Effects : draymanref31_Effects_T α) (draymanref31_Same : draymanref31_Same_T α) (keyed_Fit : keyed_Fit_T α) (draymanref31_Fit : draymanref31_Fit_T α) : List (LoopSpec α) := []

theorem draymanlaw31_KeyedCome_ev {α : Type} (draymanlaw31_awake : draymanlaw31_awake_T α) (keyed_Come : keyed_Come_T α) (draymanref31_Come : draymanref31_Come_T α) (keyed_Find : keyed_Find_T α) (draymanref31_Find : draymanref31_Find_T α) (keyed_Effects : keyed_Effects_T α) (draymanref31_Effects : draymanref31_Effects_T α) (draymanref31_Same : draymanref31_Same_T α) (keyed_Fit : keyed_Fit_T α) (draymanref31_Fit : draymanref31_Fit_T α) : EvOk (α := α) Go.Proofs.Try.prog (envOf (draymanlaw31_KeyedCome_C draymanlaw31_awake keyed_Come draymanref31_Come keyed_Find draymanref31_Find keyed_Effects draymanref31_Effects draymanref31_Same keyed_Fit draymanref31_Fit) draymanlaw31_KeyedCome_q draymanlaw31_KeyedCome_inl 1000 draymanlaw31_KeyedCome_ann false (draymanlaw31_KeyedCome_loops draymanlaw31_awake keyed_Come draymanref31_Come keyed_Find draymanref31_Find keyed_Effects draymanref31_Effects draymanref31_Same keyed_Fit draymanref31_Fit) (fun _ => none)) 6 (draymanlaw31_KeyedCome_sp (draymanlaw31_KeyedCome_g draymanlaw31_awake keyed_Come draymanref31_Come keyed_Find draymanref31_Find keyed_Effects draymanref31_Effects draymanref31_Same keyed_Fit draymanref31_Fit)) := by intro ds k; kernel_rfl

theorem draymanlaw31_KeyedCome_ok {α : Type} : (draymanlaw31_KeyedCome_spec : FunSpec α).ok Go.Proofs.Try.prog :=
  FunSpec.ok_of (sp := draymanlaw31_KeyedCome_spec) (C := draymanlaw31_KeyedCome_C draymanlaw31_awake keyed_Come draymanref31_Come keyed_Find draymanref31_Find keyed_Effects draymanref31_Effects draymanref31_Same keyed_Fit draymanref31_Fit) (q := draymanlaw31_KeyedCome_q) (inl := draymanlaw31_KeyedCome_inl) (N := 1000) (ann := draymanlaw31_KeyedCome_ann) (fr := false) (D := 6) (l := (draymanlaw31_KeyedCome_loops draymanlaw31_awake keyed_Come draymanref31_Come keyed_Find draymanref31_Find keyed_Effects draymanref31_Effects draymanref31_Same keyed_Fit draymanref31_Fit)) (hk := (fun _ => none)) (okCons draymanlaw31_awake_ok (okCons keyed_Come_ok (okCons draymanref31_Come_ok (okCons keyed_Find_ok (okCons draymanref31_Find_ok (okCons keyed_Effects_ok (okCons draymanref31_Effects_ok (okCons draymanref31_Same_ok (okCons keyed_Fit_ok (okCons draymanref31_Fit_ok okNil)))))))))) lokNil noHooks (draymanlaw31_KeyedCome_ev draymanlaw31_awake keyed_Come draymanref31_Come keyed_Find draymanref31_Find keyed_Effects draymanref31_Effects draymanref31_Same keyed_Fit draymanref31_Fit)

end
end Go.Rv.Try
