/- What the functions of the program compute, each with the proof that its code computes it. Written by a program (rvp2.py). -/
import Derived.Test.YtmoeohjaafpmgaaDoorProg
import Derived.Test.YtmoeohjaafpmgaaDoorRvP
import Derived.Test.YtmoeohjaafpmgaaDoorFx
import Derived.Test.YtmoeohjaafpmgaaDoorUtf8

set_option linter.unusedVariables false
set_option maxRecDepth 100000
set_option maxHeartbeats 4000000
namespace Go.Rv.Tryd
open Go Go.Rv Go.RowKit
noncomputable section

-- drayman/draymanref11.Few

abbrev draymanref11_Few_T (α : Type) : Type := (Seq (ByteArray × Int × Unit)) → (Bool → Option α) → Option α

noncomputable def draymanref11_Few_l0_step {α : Type} (kr : (Bool) → Option α) (k0 : (Seq (ByteArray × Int × Unit)) → Option α) (rec : (Seq (ByteArray × Int × Unit)) → (Int) → Option α) (l2 : Seq (ByteArray × Int × Unit)) (i3 : Int) : Option α :=
  (cond (decide (i3 < (l2.n : Int)))
    (cond (decide (i3 < 8))
      (cond ((decide ((0 : Int) ≤ i3)) && (decide (i3 < (l2.n : Int))))
        (cond (decide (((l2.g i3.toNat).1.size : Int) > 60))
          (kr false)
          (rec l2 (IntKind.i64.wrap (i3 + 1))))
        none)
      (k0 l2))
    (k0 l2))

noncomputable def draymanref11_Few_l0_run {α : Type} (kr : (Bool) → Option α) (k0 : (Seq (ByteArray × Int × Unit)) → Option α) : Nat → (Seq (ByteArray × Int × Unit)) → (Int) → Option α
  | 0, _, _ => none
  | n + 1, l2, i3 => draymanref11_Few_l0_step kr k0 (fun l2 i3 => draymanref11_Few_l0_run kr k0 n l2 i3) l2 i3

noncomputable def draymanref11_Few {α : Type} (l1 : Seq (ByteArray × Int × Unit)) (k : Bool → Option α) : Option α :=
  (draymanref11_Few_l0_run
    (fun x4 =>
      (k x4))
    (fun x5 =>
      (k (decide ((x5.n : Int) ≤ 8))))
    1000 l1 0)

noncomputable def draymanref11_Few_sp {α : Type} (draymanref11_Few : draymanref11_Few_T α) : FunSpec α := ⟨23, [.sl (.str (.int .i64 (.nil)))], [], fun ds k => draymanref11_Few (hdQ (.str (.int .i64 (.nil))) ds) (fun r1 => k (enc dep (.bool) [.b r1]).1 [])⟩

noncomputable def draymanref11_Few_spec {α : Type} : FunSpec α := draymanref11_Few_sp draymanref11_Few

noncomputable def draymanref11_Few_C {α : Type} : List (FunSpec α) := []

noncomputable def draymanref11_Few_q : FuncId → Bool := fun f => false

noncomputable def draymanref11_Few_inl : FuncId → Bool := fun f => false

noncomputable def draymanref11_Few_ann : FuncId → AnnT := fun f p => if f = 23 then (if p = [true, false, true] then ⟨[0, 3], [], [0], [2], 0, [], [], none⟩ else ⟨[], [], [], [], 0, [], [], none⟩) else ⟨[], [], [], [], 0, [], [], none⟩

noncomputable def draymanref11_Few_l0_t : List Sh := [.sl (.str (.int .i64 (.nil))), .dead, .dead, .int .i64, .dead, .dead, .dead, .dead, .dead, .dead, .dead, .dead, .dead, .dead, .dead, .dead, .dead, .dead, .dead, .dead, .dead, .dead, .dead, .dead]
noncomputable def draymanref11_Few_l0_s : List (List Sh) := []
noncomputable def draymanref11_Few_l0_h : List BSh := []

noncomputable def draymanref11_Few_l0_spec {α : Type} : LoopSpec α := ⟨6, 23, [true, false, true], draymanref11_Few_l0_t, draymanref11_Few_l0_s, draymanref11_Few_l0_h, fun ds k => draymanref11_Few_l0_run (fun y1 => k .ret (encSt [.dead, .dead, .bool, .dead, .dead, .dead, .dead, .dead, .dead, .dead, .dead, .dead, .dead, .dead, .dead, .dead, .dead, .dead, .dead, .dead, .dead, .dead, .dead, .dead] [] [] [.b y1])) (fun y1 => k (.exit 0) (encSt [.sl (.str (.int .i64 (.nil))), .dead, .dead, .dead, .dead, .dead, .dead, .dead, .dead, .dead, .dead, .dead, .dead, .dead, .dead, .dead, .dead, .dead, .dead, .dead, .dead, .dead, .dead, .dead] [] [] [.q (.str (.int .i64 (.nil))) y1])) 1000 (hdQ (.str (.int .i64 (.nil))) ds) (hdI ds.tail)⟩

noncomputable def draymanref11_Few_loops {α : Type} : List (LoopSpec α) := [draymanref11_Few_l0_spec]

noncomputable def draymanref11_Few_l0_ev {α : Type} (n : Nat) (st : St) (k : X → St → Option α) : Option α := loopN (evCode Go.Proofs.Tryd.prog (callD Go.Proofs.Tryd.prog (envOf (draymanref11_Few_C) draymanref11_Few_q draymanref11_Few_inl 1000 draymanref11_Few_ann false (draymanref11_Few_loops) (fun _ => none)) 6) (((envOf (draymanref11_Few_C) draymanref11_Few_q draymanref11_Few_inl 1000 draymanref11_Few_ann false (draymanref11_Few_loops) (fun _ => none)) : Env α).L 6 23) 1000 (draymanref11_Few_ann 23) (false :: [true, false, true]) (loopC Go.Proofs.Tryd.prog 23 [true, false, true])) ((draymanref11_Few_ann 23 [true, false, true]).head 0) ((draymanref11_Few_ann 23 [true, false, true]).leave 0) n st k

theorem draymanref11_Few_l0_eq {α : Type} : ∀ (n : Nat) (l2 : Seq (ByteArray × Int × Unit)) (i3 : Int) (k : X → St → Option α), draymanref11_Few_l0_ev n (encSt draymanref11_Few_l0_t draymanref11_Few_l0_s draymanref11_Few_l0_h [.q (.str (.int .i64 (.nil))) l2, .i i3]) k = draymanref11_Few_l0_run (fun y1 => k .ret (encSt [.dead, .dead, .bool, .dead, .dead, .dead, .dead, .dead, .dead, .dead, .dead, .dead, .dead, .dead, .dead, .dead, .dead, .dead, .dead, .dead, .dead, .dead, .dead, .dead] [] [] [.b y1])) (fun y1 => k (.exit 0) (encSt [.sl (.str (.int .i64 (.nil))), .dead, .dead, .dead, .dead, .dead, .dead, .dead, .dead, .dead, .dead, .dead, .dead, .dead, .dead, .dead, .dead, .dead, .dead, .dead, .dead, .dead, .dead, .dead] [] [] [.q (.str (.int .i64 (.nil))) y1])) n l2 i3 := by
  intro n
  induction n with
  | zero => intros; kernel_rfl
  | succ n ih =>
    intro l2 i3 k
    have e : (fun (l2 : Seq (ByteArray × Int × Unit)) (i3 : Int) => draymanref11_Few_l0_ev n (encSt draymanref11_Few_l0_t draymanref11_Few_l0_s draymanref11_Few_l0_h [.q (.str (.int .i64 (.nil))) l2, .i i3]) k) = (fun (l2 : Seq (ByteArray × Int × Unit)) (i3 : Int) => draymanref11_Few_l0_run (fun y1 => k .ret (encSt [.dead, .dead, .bool, .dead, .dead, .dead, .dead, .dead, .dead, .dead, .dead, .dead, .dead, .dead, .dead, .dead, .dead, .dead, .dead, .dead, .dead, .dead, .dead, .dead] [] [] [.b y1])) (fun y1 => k (.exit 0) (encSt [.sl (.str (.int .i64 (.nil))), .dead, .dead, .dead, .dead, .dead, .dead, .dead, .dead, .dead, .dead, .dead, .dead, .dead, .dead, .dead, .dead, .dead, .dead, .dead, .dead, .dead, .dead, .dead] [] [] [.q (.str (.int .i64 (.nil))) y1])) n l2 i3) := by
      funext l2 i3
      exact ih l2 i3 k
    have h1 : draymanref11_Few_l0_ev (n + 1) (encSt draymanref11_Few_l0_t draymanref11_Few_l0_s draymanref11_Few_l0_h [.q (.str (.int .i64 (.nil))) l2, .i i3]) k = draymanref11_Few_l0_step (fun y1 => k .ret (encSt [.dead, .dead, .bool, .dead, .dead, .dead, .dead, .dead, .dead, .dead, .dead, .dead, .dead, .dead, .dead, .dead, .dead, .dead, .dead, .dead, .dead, .dead, .dead, .dead] [] [] [.b y1])) (fun y1 => k (.exit 0) (encSt [.sl (.str (.int .i64 (.nil))), .dead, .dead, .dead, .dead, .dead, .dead, .dead, .dead, .dead, .dead, .dead, .dead, .dead, .dead, .dead, .dead, .dead, .dead, .dead, .dead, .dead, .dead, .dead] [] [] [.q (.str (.int .i64 (.nil))) y1])) (fun (l2 : Seq (ByteArray × Int × Unit)) (i3 : Int) => draymanref11_Few_l0_ev n (encSt draymanref11_Few_l0_t draymanref11_Few_l0_s draymanref11_Few_l0_h [.q (.str (.int .i64 (.nil))) l2, .i i3]) k) l2 i3 := by kernel_rfl
    have h2 := congrArg (fun r => draymanref11_Few_l0_step (fun y1 => k .ret (encSt [.dead, .dead, .bool, .dead, .dead, .dead, .dead, .dead, .dead, .dead, .dead, .dead, .dead, .dead, .dead, .dead, .dead, .dead, .dead, .dead, .dead, .dead, .dead, .dead] [] [] [.b y1])) (fun y1 => k (.exit 0) (encSt [.sl (.str (.int .i64 (.nil))), .dead, .dead, .dead, .dead, .dead, .dead, .dead, .dead, .dead, .dead, .dead, .dead, .dead, .dead, .dead, .dead, .dead, .dead, .dead, .dead, .dead, .dead, .dead] [] [] [.q (.str (.int .i64 (.nil))) y1])) r l2 i3) e
    have h3 : draymanref11_Few_l0_step (fun y1 => k .ret (encSt [.dead, .dead, .bool, .dead, .dead, .dead, .dead, .dead, .dead, .dead, .dead, .dead, .dead, .dead, .dead, .dead, .dead, .dead, .dead, .dead, .dead, .dead, .dead, .dead] [] [] [.b y1])) (fun y1 => k (.exit 0) (encSt [.sl (.str (.int .i64 (.nil))), .dead, .dead, .dead, .dead, .dead, .dead, .dead, .dead, .dead, .dead, .dead, .dead, .dead, .dead, .dead, .dead, .dead, .dead, .dead, .dead, .dead, .dead, .dead] [] [] [.q (.str (.int .i64 (.nil))) y1])) (fun (l2 : Seq (ByteArray × Int × Unit)) (i3 : Int) => draymanref11_Few_l0_run (fun y1 => k .ret (encSt [.dead, .dead, .bool, .dead, .dead, .dead, .dead, .dead, .dead, .dead, .dead, .dead, .dead, .dead, .dead, .dead, .dead, .dead, .dead, .dead, .dead, .dead, .dead, .dead] [] [] [.b y1])) (fun y1 => k (.exit 0) (encSt [.sl (.str (.int .i64 (.nil))), .dead, .dead, .dead, .dead, .dead, .dead, .dead, .dead, .dead, .dead, .dead, .dead, .dead, .dead, .dead, .dead, .dead, .dead, .dead, .dead, .dead, .dead, .dead] [] [] [.q (.str (.int .i64 (.nil))) y1])) n l2 i3) l2 i3 = draymanref11_Few_l0_run (fun y1 => k .ret (encSt [.dead, .dead, .bool, .dead, .dead, .dead, .dead, .dead, .dead, .dead, .dead, .dead, .dead, .dead, .dead, .dead, .dead, .dead, .dead, .dead, .dead, .dead, .dead, .dead] [] [] [.b y1])) (fun y1 => k (.exit 0) (encSt [.sl (.str (.int .i64 (.nil))), .dead, .dead, .dead, .dead, .dead, .dead, .dead, .dead, .dead, .dead, .dead, .dead, .dead, .dead, .dead, .dead, .dead, .dead, .dead, .dead, .dead, .dead, .dead] [] [] [.q (.str (.int .i64 (.nil))) y1])) (n + 1) l2 i3 := by kernel_rfl
    exact h1.trans (h2.trans h3)

theorem draymanref11_Few_l0_ok {α : Type} : (draymanref11_Few_l0_spec : LoopSpec α).ok Go.Proofs.Tryd.prog (envOf (draymanref11_Few_C) draymanref11_Few_q draymanref11_Few_inl 1000 draymanref11_Few_ann false (draymanref11_Few_loops) (fun _ => none)) := by
  intro ds k
  have h1 : draymanref11_Few_l0_ev 1000 (encSt draymanref11_Few_l0_t draymanref11_Few_l0_s draymanref11_Few_l0_h ds) k = draymanref11_Few_l0_ev 1000 (encSt draymanref11_Few_l0_t draymanref11_Few_l0_s draymanref11_Few_l0_h [.q (.str (.int .i64 (.nil))) (hdQ (.str (.int .i64 (.nil))) ds), .i (hdI ds.tail)]) k := by kernel_rfl
  have h2 := draymanref11_Few_l0_eq 1000 (hdQ (.str (.int .i64 (.nil))) ds) (hdI ds.tail) k
  exact h1.trans h2

theorem draymanref11_Few_ev {α : Type} : EvOk (α := α) Go.Proofs.Tryd.prog (envOf (draymanref11_Few_C) draymanref11_Few_q draymanref11_Few_inl 1000 draymanref11_Few_ann false (draymanref11_Few_loops) (fun _ => none)) 6 (draymanref11_Few_sp (draymanref11_Few)) := by intro ds k; kernel_rfl

theorem draymanref11_Few_ok {α : Type} : (draymanref11_Few_spec : FunSpec α).ok Go.Proofs.Tryd.prog :=
  FunSpec.ok_of (sp := draymanref11_Few_spec) (C := draymanref11_Few_C) (q := draymanref11_Few_q) (inl := draymanref11_Few_inl) (N := 1000) (ann := draymanref11_Few_ann) (fr := false) (D := 6) (l := (draymanref11_Few_loops)) (hk := (fun _ => none)) okNil (lokCons (draymanref11_Few_l0_ok) lokNil) noHooks (draymanref11_Few_ev)

end
end Go.Rv.Tryd

set_option linter.unusedVariables false
set_option maxRecDepth 100000
set_option maxHeartbeats 4000000
namespace Go.Rv.Tryd
open Go Go.Rv Go.RowKit
noncomputable section

-- drayman/draymanref13.Few

abbrev draymanref13_Few_T (α : Type) : Type := (Seq (Int × (Seq (ByteArray × Int × Unit)) × Int × Unit)) → (Bool → Option α) → Option α

noncomputable def draymanref13_Few_l0_step {α : Type} (draymanref11_Few : draymanref11_Few_T α) (kr : (Bool) → Option α) (k0 : (Seq (Int × (Seq (ByteArray × Int × Unit)) × Int × Unit)) → Option α) (rec : (Seq (Int × (Seq (ByteArray × Int × Unit)) × Int × Unit)) → (Int) → Option α) (l2 : Seq (Int × (Seq (ByteArray × Int × Unit)) × Int × Unit)) (i3 : Int) : Option α :=
  (cond (decide (i3 < (l2.n : Int)))
    (cond (decide (i3 < 20))
      (cond ((decide ((0 : Int) ≤ i3)) && (decide (i3 < (l2.n : Int))))
        (draymanref11_Few ((l2.g i3.toNat).2.1) fun r4 =>
          (cond (!r4)
            (kr false)
            (rec l2 (IntKind.i64.wrap (i3 + 1)))))
        none)
      (k0 l2))
    (k0 l2))

noncomputable def draymanref13_Few_l0_run {α : Type} (draymanref11_Few : draymanref11_Few_T α) (kr : (Bool) → Option α) (k0 : (Seq (Int × (Seq (ByteArray × Int × Unit)) × Int × Unit)) → Option α) : Nat → (Seq (Int × (Seq (ByteArray × Int × Unit)) × Int × Unit)) → (Int) → Option α
  | 0, _, _ => none
  | n + 1, l2, i3 => draymanref13_Few_l0_step draymanref11_Few kr k0 (fun l2 i3 => draymanref13_Few_l0_run draymanref11_Few kr k0 n l2 i3) l2 i3

noncomputable def draymanref13_Few_g {α : Type} (draymanref11_Few : draymanref11_Few_T α) (l1 : Seq (Int × (Seq (ByteArray × Int × Unit)) × Int × Unit)) (k : Bool → Option α) : Option α :=
  (draymanref13_Few_l0_run draymanref11_Few
    (fun x5 =>
      (k x5))
    (fun x6 =>
      (k (decide ((x6.n : Int) ≤ 20))))
    1000 l1 0)

noncomputable def draymanref13_Few {α : Type} : draymanref13_Few_T α := draymanref13_Few_g draymanref11_Few

noncomputable def draymanref13_Few_sp {α : Type} (draymanref13_Few : draymanref13_Few_T α) : FunSpec α := ⟨22, [.sl (.int .i64 (.sl (.str (.int .i64 (.nil))) (.int .i64 (.nil))))], [], fun ds k => draymanref13_Few (hdQ (.int .i64 (.sl (.str (.int .i64 (.nil))) (.int .i64 (.nil)))) ds) (fun r1 => k (enc dep (.bool) [.b r1]).1 [])⟩

noncomputable def draymanref13_Few_spec {α : Type} : FunSpec α := draymanref13_Few_sp draymanref13_Few

noncomputable def draymanref13_Few_C {α : Type} (draymanref11_Few : draymanref11_Few_T α) : List (FunSpec α) := [draymanref11_Few_sp draymanref11_Few]

noncomputable def draymanref13_Few_q : FuncId → Bool := fun f => Nat.beq f 23

noncomputable def draymanref13_Few_inl : FuncId → Bool := fun f => false

noncomputable def draymanref13_Few_ann : FuncId → AnnT := fun f p => if f = 22 then (if p = [true, false, true] then ⟨[0, 3], [], [0], [2], 0, [], [], none⟩ else ⟨[], [], [], [], 0, [], [], none⟩) else ⟨[], [], [], [], 0, [], [], none⟩

noncomputable def draymanref13_Few_l0_t : List Sh := [.sl (.int .i64 (.sl (.str (.int .i64 (.nil))) (.int .i64 (.nil)))), .dead, .dead, .int .i64, .dead, .dead, .dead, .dead, .dead, .dead, .dead, .dead, .dead, .dead, .dead, .dead, .dead, .dead, .dead, .dead, .dead, .dead, .dead, .dead]
noncomputable def draymanref13_Few_l0_s : List (List Sh) := []
noncomputable def draymanref13_Few_l0_h : List BSh := []

noncomputable def draymanref13_Few_l0_spec {α : Type} (draymanref11_Few : draymanref11_Few_T α) : LoopSpec α := ⟨6, 22, [true, false, true], draymanref13_Few_l0_t, draymanref13_Few_l0_s, draymanref13_Few_l0_h, fun ds k => draymanref13_Few_l0_run draymanref11_Few (fun y1 => k .ret (encSt [.dead, .dead, .bool, .dead, .dead, .dead, .dead, .dead, .dead, .dead, .dead, .dead, .dead, .dead, .dead, .dead, .dead, .dead, .dead, .dead, .dead, .dead, .dead, .dead] [] [] [.b y1])) (fun y1 => k (.exit 0) (encSt [.sl (.int .i64 (.sl (.str (.int .i64 (.nil))) (.int .i64 (.nil)))), .dead, .dead, .dead, .dead, .dead, .dead, .dead, .dead, .dead, .dead, .dead, .dead, .dead, .dead, .dead, .dead, .dead, .dead, .dead, .dead, .dead, .dead, .dead] [] [] [.q (.int .i64 (.sl (.str (.int .i64 (.nil))) (.int .i64 (.nil)))) y1])) 1000 (hdQ (.int .i64 (.sl (.str (.int .i64 (.nil))) (.int .i64 (.nil)))) ds) (hdI ds.tail)⟩

noncomputable def draymanref13_Few_loops {α : Type} (draymanref11_Few : draymanref11_Few_T α) : List (LoopSpec α) := [draymanref13_Few_l0_spec draymanref11_Few]

noncomputable def draymanref13_Few_l0_ev {α : Type} (draymanref11_Few : draymanref11_Few_T α) (n : Nat) (st : St) (k : X → St → Option α) : Option α := loopN (evCode Go.Proofs.Tryd.prog (callD Go.Proofs.Tryd.prog (envOf (draymanref13_Few_C draymanref11_Few) draymanref13_Few_q draymanref13_Few_inl 1000 draymanref13_Few_ann false (draymanref13_Few_loops draymanref11_Few) (fun _ => none)) 6) (((envOf (draymanref13_Few_C draymanref11_Few) draymanref13_Few_q draymanref13_Few_inl 1000 draymanref13_Few_ann false (draymanref13_Few_loops draymanref11_Few) (fun _ => none)) : Env α).L 6 22) 1000 (draymanref13_Few_ann 22) (false :: [true, false, true]) (loopC Go.Proofs.Tryd.prog 22 [true, false, true])) ((draymanref13_Few_ann 22 [true, false, true]).head 0) ((draymanref13_Few_ann 22 [true, false, true]).leave 0) n st k

theorem draymanref13_Few_l0_eq {α : Type} (draymanref11_Few : draymanref11_Few_T α) : ∀ (n : Nat) (l2 : Seq (Int × (Seq (ByteArray × Int × Unit)) × Int × Unit)) (i3 : Int) (k : X → St → Option α), draymanref13_Few_l0_ev draymanref11_Few n (encSt draymanref13_Few_l0_t draymanref13_Few_l0_s draymanref13_Few_l0_h [.q (.int .i64 (.sl (.str (.int .i64 (.nil))) (.int .i64 (.nil)))) l2, .i i3]) k = draymanref13_Few_l0_run draymanref11_Few (fun y1 => k .ret (encSt [.dead, .dead, .bool, .dead, .dead, .dead, .dead, .dead, .dead, .dead, .dead, .dead, .dead, .dead, .dead, .dead, .dead, .dead, .dead, .dead, .dead, .dead, .dead, .dead] [] [] [.b y1])) (fun y1 => k (.exit 0) (encSt [.sl (.int .i64 (.sl (.str (.int .i64 (.nil))) (.int .i64 (.nil)))), .dead, .dead, .dead, .dead, .dead, .dead, .dead, .dead, .dead, .dead, .dead, .dead, .dead, .dead, .dead, .dead, .dead, .dead, .dead, .dead, .dead, .dead, .dead] [] [] [.q (.int .i64 (.sl (.str (.int .i64 (.nil))) (.int .i64 (.nil)))) y1])) n l2 i3 := by
  intro n
  induction n with
  | zero => intros; kernel_rfl
  | succ n ih =>
    intro l2 i3 k
    have e : (fun (l2 : Seq (Int × (Seq (ByteArray × Int × Unit)) × Int × Unit)) (i3 : Int) => draymanref13_Few_l0_ev draymanref11_Few n (encSt draymanref13_Few_l0_t draymanref13_Few_l0_s draymanref13_Few_l0_h [.q (.int .i64 (.sl (.str (.int .i64 (.nil))) (.int .i64 (.nil)))) l2, .i i3]) k) = (fun (l2 : Seq (Int × (Seq (ByteArray × Int × Unit)) × Int × Unit)) (i3 : Int) => draymanref13_Few_l0_run draymanref11_Few (fun y1 => k .ret (encSt [.dead, .dead, .bool, .dead, .dead, .dead, .dead, .dead, .dead, .dead, .dead, .dead, .dead, .dead, .dead, .dead, .dead, .dead, .dead, .dead, .dead, .dead, .dead, .dead] [] [] [.b y1])) (fun y1 => k (.exit 0) (encSt [.sl (.int .i64 (.sl (.str (.int .i64 (.nil))) (.int .i64 (.nil)))), .dead, .dead, .dead, .dead, .dead, .dead, .dead, .dead, .dead, .dead, .dead, .dead, .dead, .dead, .dead, .dead, .dead, .dead, .dead, .dead, .dead, .dead, .dead] [] [] [.q (.int .i64 (.sl (.str (.int .i64 (.nil))) (.int .i64 (.nil)))) y1])) n l2 i3) := by
      funext l2 i3
      exact ih l2 i3 k
    have h1 : draymanref13_Few_l0_ev draymanref11_Few (n + 1) (encSt draymanref13_Few_l0_t draymanref13_Few_l0_s draymanref13_Few_l0_h [.q (.int .i64 (.sl (.str (.int .i64 (.nil))) (.int .i64 (.nil)))) l2, .i i3]) k = draymanref13_Few_l0_step draymanref11_Few (fun y1 => k .ret (encSt [.dead, .dead, .bool, .dead, .dead, .dead, .dead, .dead, .dead, .dead, .dead, .dead, .dead, .dead, .dead, .dead, .dead, .dead, .dead, .dead, .dead, .dead, .dead, .dead] [] [] [.b y1])) (fun y1 => k (.exit 0) (encSt [.sl (.int .i64 (.sl (.str (.int .i64 (.nil))) (.int .i64 (.nil)))), .dead, .dead, .dead, .dead, .dead, .dead, .dead, .dead, .dead, .dead, .dead, .dead, .dead, .dead, .dead, .dead, .dead, .dead, .dead, .dead, .dead, .dead, .dead] [] [] [.q (.int .i64 (.sl (.str (.int .i64 (.nil))) (.int .i64 (.nil)))) y1])) (fun (l2 : Seq (Int × (Seq (ByteArray × Int × Unit)) × Int × Unit)) (i3 : Int) => draymanref13_Few_l0_ev draymanref11_Few n (encSt draymanref13_Few_l0_t draymanref13_Few_l0_s draymanref13_Few_l0_h [.q (.int .i64 (.sl (.str (.int .i64 (.nil))) (.int .i64 (.nil)))) l2, .i i3]) k) l2 i3 := by kernel_rfl
    have h2 := congrArg (fun r => draymanref13_Few_l0_step draymanref11_Few (fun y1 => k .ret (encSt [.dead, .dead, .bool, .dead, .dead, .dead, .dead, .dead, .dead, .dead, .dead, .dead, .dead, .dead, .dead, .dead, .dead, .dead, .dead, .dead, .dead, .dead, .dead, .dead] [] [] [.b y1])) (fun y1 => k (.exit 0) (encSt [.sl (.int .i64 (.sl (.str (.int .i64 (.nil))) (.int .i64 (.nil)))), .dead, .dead, .dead, .dead, .dead, .dead, .dead, .dead, .dead, .dead, .dead, .dead, .dead, .dead, .dead, .dead, .dead, .dead, .dead, .dead, .dead, .dead, .dead] [] [] [.q (.int .i64 (.sl (.str (.int .i64 (.nil))) (.int .i64 (.nil)))) y1])) r l2 i3) e
    have h3 : draymanref13_Few_l0_step draymanref11_Few (fun y1 => k .ret (encSt [.dead, .dead, .bool, .dead, .dead, .dead, .dead, .dead, .dead, .dead, .dead, .dead, .dead, .dead, .dead, .dead, .dead, .dead, .dead, .dead, .dead, .dead, .dead, .dead] [] [] [.b y1])) (fun y1 => k (.exit 0) (encSt [.sl (.int .i64 (.sl (.str (.int .i64 (.nil))) (.int .i64 (.nil)))), .dead, .dead, .dead, .dead, .dead, .dead, .dead, .dead, .dead, .dead, .dead, .dead, .dead, .dead, .dead, .dead, .dead, .dead, .dead, .dead, .dead, .dead, .dead] [] [] [.q (.int .i64 (.sl (.str (.int .i64 (.nil))) (.int .i64 (.nil)))) y1])) (fun (l2 : Seq (Int × (Seq (ByteArray × Int × Unit)) × Int × Unit)) (i3 : Int) => draymanref13_Few_l0_run draymanref11_Few (fun y1 => k .ret (encSt [.dead, .dead, .bool, .dead, .dead, .dead, .dead, .dead, .dead, .dead, .dead, .dead, .dead, .dead, .dead, .dead, .dead, .dead, .dead, .dead, .dead, .dead, .dead, .dead] [] [] [.b y1])) (fun y1 => k (.exit 0) (encSt [.sl (.int .i64 (.sl (.str (.int .i64 (.nil))) (.int .i64 (.nil)))), .dead, .dead, .dead, .dead, .dead, .dead, .dead, .dead, .dead, .dead, .dead, .dead, .dead, .dead, .dead, .dead, .dead, .dead, .dead, .dead, .dead, .dead, .dead] [] [] [.q (.int .i64 (.sl (.str (.int .i64 (.nil))) (.int .i64 (.nil)))) y1])) n l2 i3) l2 i3 = draymanref13_Few_l0_run draymanref11_Few (fun y1 => k .ret (encSt [.dead, .dead, .bool, .dead, .dead, .dead, .dead, .dead, .dead, .dead, .dead, .dead, .dead, .dead, .dead, .dead, .dead, .dead, .dead, .dead, .dead, .dead, .dead, .dead] [] [] [.b y1])) (fun y1 => k (.exit 0) (encSt [.sl (.int .i64 (.sl (.str (.int .i64 (.nil))) (.int .i64 (.nil)))), .dead, .dead, .dead, .dead, .dead, .dead, .dead, .dead, .dead, .dead, .dead, .dead, .dead, .dead, .dead, .dead, .dead, .dead, .dead, .dead, .dead, .dead, .dead] [] [] [.q (.int .i64 (.sl (.str (.int .i64 (.nil))) (.int .i64 (.nil)))) y1])) (n + 1) l2 i3 := by kernel_rfl
    exact h1.trans (h2.trans h3)

theorem draymanref13_Few_l0_ok {α : Type} (draymanref11_Few : draymanref11_Few_T α) : (draymanref13_Few_l0_spec draymanref11_Few : LoopSpec α).ok Go.Proofs.Tryd.prog (envOf (draymanref13_Few_C draymanref11_Few) draymanref13_Few_q draymanref13_Few_inl 1000 draymanref13_Few_ann false (draymanref13_Few_loops draymanref11_Few) (fun _ => none)) := by
  intro ds k
  have h1 : draymanref13_Few_l0_ev draymanref11_Few 1000 (encSt draymanref13_Few_l0_t draymanref13_Few_l0_s draymanref13_Few_l0_h ds) k = draymanref13_Few_l0_ev draymanref11_Few 1000 (encSt draymanref13_Few_l0_t draymanref13_Few_l0_s draymanref13_Few_l0_h [.q (.int .i64 (.sl (.str (.int .i64 (.nil))) (.int .i64 (.nil)))) (hdQ (.int .i64 (.sl (.str (.int .i64 (.nil))) (.int .i64 (.nil)))) ds), .i (hdI ds.tail)]) k := by kernel_rfl
  have h2 := draymanref13_Few_l0_eq draymanref11_Few 1000 (hdQ (.int .i64 (.sl (.str (.int .i64 (.nil))) (.int .i64 (.nil)))) ds) (hdI ds.tail) k
  exact h1.trans h2

theorem draymanref13_Few_ev {α : Type} (draymanref11_Few : draymanref11_Few_T α) : EvOk (α := α) Go.Proofs.Tryd.prog (envOf (draymanref13_Few_C draymanref11_Few) draymanref13_Few_q draymanref13_Few_inl 1000 draymanref13_Few_ann false (draymanref13_Few_loops draymanref11_Few) (fun _ => none)) 6 (draymanref13_Few_sp (draymanref13_Few_g draymanref11_Few)) := by intro ds k; kernel_rfl

theorem draymanref13_Few_ok {α : Type} : (draymanref13_Few_spec : FunSpec α).ok Go.Proofs.Tryd.prog :=
  FunSpec.ok_of (sp := draymanref13_Few_spec) (C := draymanref13_Few_C draymanref11_Few) (q := draymanref13_Few_q) (inl := draymanref13_Few_inl) (N := 1000) (ann := draymanref13_Few_ann) (fr := false) (D := 6) (l := (draymanref13_Few_loops draymanref11_Few)) (hk := (fun _ => none)) (okCons draymanref11_Few_ok okNil) (lokCons (draymanref13_Few_l0_ok draymanref11_Few) lokNil) noHooks (draymanref13_Few_ev draymanref11_Few)

end
end Go.Rv.Tryd

set_option linter.unusedVariables false
set_option maxRecDepth 100000
set_option maxHeartbeats 4000000
namespace Go.Rv.Tryd
open Go Go.Rv Go.RowKit
noncomputable section

-- drayman/name.Count

abbrev name_Count_T (α : Type) : Type := ByteArray → (Int → Option α) → Option α

noncomputable def name_Count_g {α : Type} (unicode_utf8_ValidString : unicode_utf8_ValidString_T α) (unicode_utf8_RuneCountInString : unicode_utf8_RuneCountInString_T α) (s1 : ByteArray) (k : Int → Option α) : Option α :=
  (unicode_utf8_ValidString s1 fun r2 =>
    (cond (!r2)
      (k (-1))
      (unicode_utf8_RuneCountInString s1 fun r3 =>
        (k r3))))

noncomputable def name_Count {α : Type} : name_Count_T α := name_Count_g unicode_utf8_ValidString unicode_utf8_RuneCountInString

noncomputable def name_Count_sp {α : Type} (name_Count : name_Count_T α) : FunSpec α := ⟨91, [.str], [], fun ds k => name_Count (hdS ds) (fun r1 => k (enc dep (.int .i64) [.i r1]).1 [])⟩

noncomputable def name_Count_spec {α : Type} : FunSpec α := name_Count_sp name_Count

noncomputable def name_Count_C {α : Type} (unicode_utf8_ValidString : unicode_utf8_ValidString_T α) (unicode_utf8_RuneCountInString : unicode_utf8_RuneCountInString_T α) : List (FunSpec α) := [unicode_utf8_ValidString_sp unicode_utf8_ValidString, unicode_utf8_RuneCountInString_sp unicode_utf8_RuneCountInString]

noncomputable def name_Count_q : FuncId → Bool := fun f => Nat.beq f 116 || Nat.beq f 117

noncomputable def name_Count_inl : FuncId → Bool := fun f => false

noncomputable def name_Count_ann : FuncId → AnnT := fun f p => ⟨[], [], [], [], 0, [], [], none⟩

noncomputable def name_Count_loops {α : Type} (unicode_utf8_ValidString : unicode_utf8_ValidString_T α) (unicode_utf8_RuneCountInString : unicode_utf8_RuneCountInString_T α) : List (LoopSpec α) := []

theorem name_Count_ev {α : Type} (unicode_utf8_ValidString : unicode_utf8_ValidString_T α) (unicode_utf8_RuneCountInString : unicode_utf8_RuneCountInString_T α) : EvOk (α := α) Go.Proofs.Tryd.prog (envOf (name_Count_C unicode_utf8_ValidString unicode_utf8_RuneCountInString) name_Count_q name_Count_inl 1000 name_Count_ann false (name_Count_loops unicode_utf8_ValidString unicode_utf8_RuneCountInString) (fun _ => none)) 6 (name_Count_sp (name_Count_g unicode_utf8_ValidString unicode_utf8_RuneCountInString)) := by intro ds k; kernel_rfl

theorem name_Count_ok {α : Type} : (name_Count_spec : FunSpec α).ok Go.Proofs.Tryd.prog :=
  FunSpec.ok_of (sp := name_Count_spec) (C := name_Count_C unicode_utf8_ValidString unicode_utf8_RuneCountInString) (q := name_Count_q) (inl := name_Count_inl) (N := 1000) (ann := name_Count_ann) (fr := false) (D := 6) (l := (name_Count_loops unicode_utf8_ValidString unicode_utf8_RuneCountInString)) (hk := (fun _ => none)) (okCons unicode_utf8_ValidString_ok (okCons unicode_utf8_RuneCountInString_ok okNil)) lokNil noHooks (name_Count_ev unicode_utf8_ValidString unicode_utf8_RuneCountInString)

end
end Go.Rv.Tryd

set_option linter.unusedVariables false
set_option maxRecDepth 100000
set_option maxHeartbeats 4000000
namespace Go.Rv.Tryd
open Go Go.Rv Go.RowKit
noncomputable section

-- drayman/name.Rune

abbrev name_Rune_T (α : Type) : Type := Int → (Bool → Option α) → Option α

noncomputable def name_Rune {α : Type} (r1 : Int) (k : Bool → Option α) : Option α :=
  (cond (decide ((97 : Int) ≤ r1))
    (cond (decide (r1 ≤ 122))
      (cond (decide (r1 ≤ 122))
        (k true)
        (cond (decide ((223 : Int) ≤ r1))
          (cond (decide (r1 ≤ 255))
            (k (r1 != 247))
            (k false))
          (k false)))
      (cond (decide ((48 : Int) ≤ r1))
        (cond (decide (r1 ≤ 57))
          (cond (decide (r1 ≤ 57))
            (k true)
            (cond (decide ((223 : Int) ≤ r1))
              (cond (decide (r1 ≤ 255))
                (k (r1 != 247))
                (k false))
              (k false)))
          (cond (r1 == 45)
            (k true)
            (cond (decide ((223 : Int) ≤ r1))
              (cond (decide (r1 ≤ 255))
                (k (r1 != 247))
                (k false))
              (k false))))
        (cond (r1 == 45)
          (k true)
          (cond (decide ((223 : Int) ≤ r1))
            (cond (decide (r1 ≤ 255))
              (k (r1 != 247))
              (k false))
            (k false)))))
    (cond (decide ((48 : Int) ≤ r1))
      (cond (decide (r1 ≤ 57))
        (cond (decide (r1 ≤ 57))
          (k true)
          (cond (decide ((223 : Int) ≤ r1))
            (cond (decide (r1 ≤ 255))
              (k (r1 != 247))
              (k false))
            (k false)))
        (cond (r1 == 45)
          (k true)
          (cond (decide ((223 : Int) ≤ r1))
            (cond (decide (r1 ≤ 255))
              (k (r1 != 247))
              (k false))
            (k false))))
      (cond (r1 == 45)
        (k true)
        (cond (decide ((223 : Int) ≤ r1))
          (cond (decide (r1 ≤ 255))
            (k (r1 != 247))
            (k false))
          (k false)))))

noncomputable def name_Rune_sp {α : Type} (name_Rune : name_Rune_T α) : FunSpec α := ⟨92, [.int .i32], [], fun ds k => name_Rune (hdI ds) (fun r1 => k (enc dep (.bool) [.b r1]).1 [])⟩

noncomputable def name_Rune_spec {α : Type} : FunSpec α := name_Rune_sp name_Rune

noncomputable def name_Rune_C {α : Type} : List (FunSpec α) := []

noncomputable def name_Rune_q : FuncId → Bool := fun f => false

noncomputable def name_Rune_inl : FuncId → Bool := fun f => false

noncomputable def name_Rune_ann : FuncId → AnnT := fun f p => ⟨[], [], [], [], 0, [], [], none⟩

noncomputable def name_Rune_loops {α : Type} : List (LoopSpec α) := []

theorem name_Rune_ev {α : Type} : EvOk (α := α) Go.Proofs.Tryd.prog (envOf (name_Rune_C) name_Rune_q name_Rune_inl 1000 name_Rune_ann false (name_Rune_loops) (fun _ => none)) 6 (name_Rune_sp (name_Rune)) := by intro ds k; kernel_rfl

theorem name_Rune_ok {α : Type} : (name_Rune_spec : FunSpec α).ok Go.Proofs.Tryd.prog :=
  FunSpec.ok_of (sp := name_Rune_spec) (C := name_Rune_C) (q := name_Rune_q) (inl := name_Rune_inl) (N := 1000) (ann := name_Rune_ann) (fr := false) (D := 6) (l := (name_Rune_loops)) (hk := (fun _ => none)) okNil lokNil noHooks (name_Rune_ev)

end
end Go.Rv.Tryd

set_option linter.unusedVariables false
set_option maxRecDepth 100000
set_option maxHeartbeats 4000000
namespace Go.Rv.Tryd
open Go Go.Rv Go.RowKit
noncomputable section

-- drayman/name.Fit

abbrev name_Fit_T (α : Type) : Type := ByteArray → (Bool → Option α) → Option α

noncomputable def name_Fit_l0_step {α : Type} (name_Count : name_Count_T α) (name_Rune : name_Rune_T α) (kr : (Bool) → (ByteArray) → (Int) → Option α) (k0 : (ByteArray) → (Int) → Option α) (rec : (ByteArray) → (Int) → Option α) (s3 : ByteArray) (p4 : Int) : Option α :=
  (cond (Nat.blt p4.toNat s3.size)
    (name_Rune (((Utf8.decode s3 p4.toNat).1 : Nat) : Int) fun r5 =>
      (cond (!(!r5))
        (cond ((p4.toNat : Int) == 0)
          (cond ((((Utf8.decode s3 p4.toNat).1 : Nat) : Int) == 45)
            (kr false s3 (((p4.toNat + (Utf8.decode s3 p4.toNat).2) : Nat) : Int))
            (rec s3 (((p4.toNat + (Utf8.decode s3 p4.toNat).2) : Nat) : Int)))
          (rec s3 (((p4.toNat + (Utf8.decode s3 p4.toNat).2) : Nat) : Int)))
        (kr false s3 (((p4.toNat + (Utf8.decode s3 p4.toNat).2) : Nat) : Int))))
    (k0 s3 (p4.toNat : Int)))

noncomputable def name_Fit_l0_run {α : Type} (name_Count : name_Count_T α) (name_Rune : name_Rune_T α) (kr : (Bool) → (ByteArray) → (Int) → Option α) (k0 : (ByteArray) → (Int) → Option α) : Nat → (ByteArray) → (Int) → Option α
  | 0, _, _ => none
  | n + 1, s3, p4 => name_Fit_l0_step name_Count name_Rune kr k0 (fun s3 p4 => name_Fit_l0_run name_Count name_Rune kr k0 n s3 p4) s3 p4

noncomputable def name_Fit_g {α : Type} (name_Count : name_Count_T α) (name_Rune : name_Rune_T α) (s1 : ByteArray) (k : Bool → Option α) : Option α :=
  (name_Count s1 fun r2 =>
    (cond (!(decide (r2 < 1)))
      (cond (decide (r2 > 12))
        (k false)
        (name_Fit_l0_run name_Count name_Rune
          (fun x6 s7 p8 =>
            (k x6))
          (fun s9 p10 =>
            (k true))
          1000 s1 0))
      (k false)))

noncomputable def name_Fit {α : Type} : name_Fit_T α := name_Fit_g name_Count name_Rune

noncomputable def name_Fit_sp {α : Type} (name_Fit : name_Fit_T α) : FunSpec α := ⟨52, [.str], [], fun ds k => name_Fit (hdS ds) (fun r1 => k (enc dep (.bool) [.b r1]).1 [])⟩

noncomputable def name_Fit_spec {α : Type} : FunSpec α := name_Fit_sp name_Fit

noncomputable def name_Fit_C {α : Type} (name_Count : name_Count_T α) (name_Rune : name_Rune_T α) : List (FunSpec α) := [name_Count_sp name_Count, name_Rune_sp name_Rune]

noncomputable def name_Fit_q : FuncId → Bool := fun f => Nat.beq f 91 || Nat.beq f 92

noncomputable def name_Fit_inl : FuncId → Bool := fun f => false

noncomputable def name_Fit_ann : FuncId → AnnT := fun f p => if f = 52 then (if p = [true, false, true, true, true] then ⟨[15], [], [], [2], 0, [], [], none⟩ else ⟨[], [], [], [], 0, [], [], none⟩) else ⟨[], [], [], [], 0, [], [], none⟩

noncomputable def name_Fit_l0_t : List Sh := [.dead, .dead, .dead, .dead, .dead, .dead, .dead, .dead, .dead, .dead, .dead, .dead, .dead, .dead, .dead, .ref 0 0, .dead, .dead, .dead, .dead, .dead, .dead, .dead, .dead, .dead, .dead, .dead, .dead, .dead, .dead, .dead]
noncomputable def name_Fit_l0_s : List (List Sh) := []
noncomputable def name_Fit_l0_h : List BSh := [.it]

noncomputable def name_Fit_l0_spec {α : Type} (name_Count : name_Count_T α) (name_Rune : name_Rune_T α) : LoopSpec α := ⟨6, 52, [true, false, true, true, true], name_Fit_l0_t, name_Fit_l0_s, name_Fit_l0_h, fun ds k => name_Fit_l0_run name_Count name_Rune (fun y1 y2 y3 => k .ret (encSt [.dead, .dead, .bool, .dead, .dead, .dead, .dead, .dead, .dead, .dead, .dead, .dead, .dead, .dead, .dead, .dead, .dead, .dead, .dead, .dead, .dead, .dead, .dead, .dead, .dead, .dead, .dead, .dead, .dead, .dead, .dead] [] [.it] [.b y1, .s y2, .i y3])) (fun y1 y2 => k (.exit 0) (encSt [.dead, .dead, .dead, .dead, .dead, .dead, .dead, .dead, .dead, .dead, .dead, .dead, .dead, .dead, .dead, .dead, .dead, .dead, .dead, .dead, .dead, .dead, .dead, .dead, .dead, .dead, .dead, .dead, .dead, .dead, .dead] [] [.it] [.s y1, .i y2])) 1000 (hdS ds) (hdI ds.tail)⟩

noncomputable def name_Fit_loops {α : Type} (name_Count : name_Count_T α) (name_Rune : name_Rune_T α) : List (LoopSpec α) := [name_Fit_l0_spec name_Count name_Rune]

noncomputable def name_Fit_l0_ev {α : Type} (name_Count : name_Count_T α) (name_Rune : name_Rune_T α) (n : Nat) (st : St) (k : X → St → Option α) : Option α := loopN (evCode Go.Proofs.Tryd.prog (callD Go.Proofs.Tryd.prog (envOf (name_Fit_C name_Count name_Rune) name_Fit_q name_Fit_inl 1000 name_Fit_ann false (name_Fit_loops name_Count name_Rune) (fun _ => none)) 6) (((envOf (name_Fit_C name_Count name_Rune) name_Fit_q name_Fit_inl 1000 name_Fit_ann false (name_Fit_loops name_Count name_Rune) (fun _ => none)) : Env α).L 6 52) 1000 (name_Fit_ann 52) (false :: [true, false, true, true, true]) (loopC Go.Proofs.Tryd.prog 52 [true, false, true, true, true])) ((name_Fit_ann 52 [true, false, true, true, true]).head 1) ((name_Fit_ann 52 [true, false, true, true, true]).leave 1) n st k

theorem name_Fit_l0_eq {α : Type} (name_Count : name_Count_T α) (name_Rune : name_Rune_T α) : ∀ (n : Nat) (s3 : ByteArray) (p4 : Int) (k : X → St → Option α), name_Fit_l0_ev name_Count name_Rune n (encSt name_Fit_l0_t name_Fit_l0_s name_Fit_l0_h [.s s3, .i p4]) k = name_Fit_l0_run name_Count name_Rune (fun y1 y2 y3 => k .ret (encSt [.dead, .dead, .bool, .dead, .dead, .dead, .dead, .dead, .dead, .dead, .dead, .dead, .dead, .dead, .dead, .dead, .dead, .dead, .dead, .dead, .dead, .dead, .dead, .dead, .dead, .dead, .dead, .dead, .dead, .dead, .dead] [] [.it] [.b y1, .s y2, .i y3])) (fun y1 y2 => k (.exit 0) (encSt [.dead, .dead, .dead, .dead, .dead, .dead, .dead, .dead, .dead, .dead, .dead, .dead, .dead, .dead, .dead, .dead, .dead, .dead, .dead, .dead, .dead, .dead, .dead, .dead, .dead, .dead, .dead, .dead, .dead, .dead, .dead] [] [.it] [.s y1, .i y2])) n s3 p4 := by
  intro n
  induction n with
  | zero => intros; kernel_rfl
  | succ n ih =>
    intro s3 p4 k
    have e : (fun (s3 : ByteArray) (p4 : Int) => name_Fit_l0_ev name_Count name_Rune n (encSt name_Fit_l0_t name_Fit_l0_s name_Fit_l0_h [.s s3, .i p4]) k) = (fun (s3 : ByteArray) (p4 : Int) => name_Fit_l0_run name_Count name_Rune (fun y1 y2 y3 => k .ret (encSt [.dead, .dead, .bool, .dead, .dead, .dead, .dead, .dead, .dead, .dead, .dead, .dead, .dead, .dead, .dead, .dead, .dead, .dead, .dead, .dead, .dead, .dead, .dead, .dead, .dead, .dead, .dead, .dead, .dead, .dead, .dead] [] [.it] [.b y1, .s y2, .i y3])) (fun y1 y2 => k (.exit 0) (encSt [.dead, .dead, .dead, .dead, .dead, .dead, .dead, .dead, .dead, .dead, .dead, .dead, .dead, .dead, .dead, .dead, .dead, .dead, .dead, .dead, .dead, .dead, .dead, .dead, .dead, .dead, .dead, .dead, .dead, .dead, .dead] [] [.it] [.s y1, .i y2])) n s3 p4) := by
      funext s3 p4
      exact ih s3 p4 k
    have h1 : name_Fit_l0_ev name_Count name_Rune (n + 1) (encSt name_Fit_l0_t name_Fit_l0_s name_Fit_l0_h [.s s3, .i p4]) k = name_Fit_l0_step name_Count name_Rune (fun y1 y2 y3 => k .ret (encSt [.dead, .dead, .bool, .dead, .dead, .dead, .dead, .dead, .dead, .dead, .dead, .dead, .dead, .dead, .dead, .dead, .dead, .dead, .dead, .dead, .dead, .dead, .dead, .dead, .dead, .dead, .dead, .dead, .dead, .dead, .dead] [] [.it] [.b y1, .s y2, .i y3])) (fun y1 y2 => k (.exit 0) (encSt [.dead, .dead, .dead, .dead, .dead, .dead, .dead, .dead, .dead, .dead, .dead, .dead, .dead, .dead, .dead, .dead, .dead, .dead, .dead, .dead, .dead, .dead, .dead, .dead, .dead, .dead, .dead, .dead, .dead, .dead, .dead] [] [.it] [.s y1, .i y2])) (fun (s3 : ByteArray) (p4 : Int) => name_Fit_l0_ev name_Count name_Rune n (encSt name_Fit_l0_t name_Fit_l0_s name_Fit_l0_h [.s s3, .i p4]) k) s3 p4 := by kernel_rfl
    have h2 := congrArg (fun r => name_Fit_l0_step name_Count name_Rune (fun y1 y2 y3 => k .ret (encSt [.dead, .dead, .bool, .dead, .dead, .dead, .dead, .dead, .dead, .dead, .dead, .dead, .dead, .dead, .dead, .dead, .dead, .dead, .dead, .dead, .dead, .dead, .dead, .dead, .dead, .dead, .dead, .dead, .dead, .dead, .dead] [] [.it] [.b y1, .s y2, .i y3])) (fun y1 y2 => k (.exit 0) (encSt [.dead, .dead, .dead, .dead, .dead, .dead, .dead, .dead, .dead, .dead, .dead, .dead, .dead, .dead, .dead, .dead, .dead, .dead, .dead, .dead, .dead, .dead, .dead, .dead, .dead, .dead, .dead, .dead, .dead, .dead, .dead] [] [.it] [.s y1, .i y2])) r s3 p4) e
    have h3 : name_Fit_l0_step name_Count name_Rune (fun y1 y2 y3 => k .ret (encSt [.dead, .dead, .bool, .dead, .dead, .dead, .dead, .dead, .dead, .dead, .dead, .dead, .dead, .dead, .dead, .dead, .dead, .dead, .dead, .dead, .dead, .dead, .dead, .dead, .dead, .dead, .dead, .dead, .dead, .dead, .dead] [] [.it] [.b y1, .s y2, .i y3])) (fun y1 y2 => k (.exit 0) (encSt [.dead, .dead, .dead, .dead, .dead, .dead, .dead, .dead, .dead, .dead, .dead, .dead, .dead, .dead, .dead, .dead, .dead, .dead, .dead, .dead, .dead, .dead, .dead, .dead, .dead, .dead, .dead, .dead, .dead, .dead, .dead] [] [.it] [.s y1, .i y2])) (fun (s3 : ByteArray) (p4 : Int) => name_Fit_l0_run name_Count name_Rune (fun y1 y2 y3 => k .ret (encSt [.dead, .dead, .bool, .dead, .dead, .dead, .dead, .dead, .dead, .dead, .dead, .dead, .dead, .dead, .dead, .dead, .dead, .dead, .dead, .dead, .dead, .dead, .dead, .dead, .dead, .dead, .dead, .dead, .dead, .dead, .dead] [] [.it] [.b y1, .s y2, .i y3])) (fun y1 y2 => k (.exit 0) (encSt [.dead, .dead, .dead, .dead, .dead, .dead, .dead, .dead, .dead, .dead, .dead, .dead, .dead, .dead, .dead, .dead, .dead, .dead, .dead, .dead, .dead, .dead, .dead, .dead, .dead, .dead, .dead, .dead, .dead, .dead, .dead] [] [.it] [.s y1, .i y2])) n s3 p4) s3 p4 = name_Fit_l0_run name_Count name_Rune (fun y1 y2 y3 => k .ret (encSt [.dead, .dead, .bool, .dead, .dead, .dead, .dead, .dead, .dead, .dead, .dead, .dead, .dead, .dead, .dead, .dead, .dead, .dead, .dead, .dead, .dead, .dead, .dead, .dead, .dead, .dead, .dead, .dead, .dead, .dead, .dead] [] [.it] [.b y1, .s y2, .i y3])) (fun y1 y2 => k (.exit 0) (encSt [.dead, .dead, .dead, .dead, .dead, .dead, .dead, .dead, .dead, .dead, .dead, .dead, .dead, .dead, .dead, .dead, .dead, .dead, .dead, .dead, .dead, .dead, .dead, .dead, .dead, .dead, .dead, .dead, .dead, .dead, .dead] [] [.it] [.s y1, .i y2])) (n + 1) s3 p4 := by kernel_rfl
    exact h1.trans (h2.trans h3)

theorem name_Fit_l0_ok {α : Type} (name_Count : name_Count_T α) (name_Rune : name_Rune_T α) : (name_Fit_l0_spec name_Count name_Rune : LoopSpec α).ok Go.Proofs.Tryd.prog (envOf (name_Fit_C name_Count name_Rune) name_Fit_q name_Fit_inl 1000 name_Fit_ann false (name_Fit_loops name_Count name_Rune) (fun _ => none)) := by
  intro ds k
  have h1 : name_Fit_l0_ev name_Count name_Rune 1000 (encSt name_Fit_l0_t name_Fit_l0_s name_Fit_l0_h ds) k = name_Fit_l0_ev name_Count name_Rune 1000 (encSt name_Fit_l0_t name_Fit_l0_s name_Fit_l0_h [.s (hdS ds), .i (hdI ds.tail)]) k := by kernel_rfl
  have h2 := name_Fit_l0_eq name_Count name_Rune 1000 (hdS ds) (hdI ds.tail) k
  exact h1.trans h2

theorem name_Fit_ev {α : Type} (name_Count : name_Count_T α) (name_Rune : name_Rune_T α) : EvOk (α := α) Go.Proofs.Tryd.prog (envOf (name_Fit_C name_Count name_Rune) name_Fit_q name_Fit_inl 1000 name_Fit_ann false (name_Fit_loops name_Count name_Rune) (fun _ => none)) 6 (name_Fit_sp (name_Fit_g name_Count name_Rune)) := by intro ds k; kernel_rfl

theorem name_Fit_ok {α : Type} : (name_Fit_spec : FunSpec α).ok Go.Proofs.Tryd.prog :=
  FunSpec.ok_of (sp := name_Fit_spec) (C := name_Fit_C name_Count name_Rune) (q := name_Fit_q) (inl := name_Fit_inl) (N := 1000) (ann := name_Fit_ann) (fr := false) (D := 6) (l := (name_Fit_loops name_Count name_Rune)) (hk := (fun _ => none)) (okCons name_Count_ok (okCons name_Rune_ok okNil)) (lokCons (name_Fit_l0_ok name_Count name_Rune) lokNil) noHooks (name_Fit_ev name_Count name_Rune)

end
end Go.Rv.Tryd

set_option linter.unusedVariables false
set_option maxRecDepth 100000
set_option maxHeartbeats 4000000
namespace Go.Rv.Tryd
open Go Go.Rv Go.RowKit
noncomputable section

-- drayman/lines.Fit

abbrev lines_Fit_T (α : Type) : Type := (Seq (ByteArray × Int × Unit)) → (Bool → Option α) → Option α

noncomputable def lines_Fit_l0_step {α : Type} (name_Fit : name_Fit_T α) (kr : (Bool) → Option α) (k0 : (Seq (ByteArray × Int × Unit)) → Option α) (rec : (Seq (ByteArray × Int × Unit)) → (ByteArray) → (Seq (ByteArray × Int × Unit)) → (Int) → (Int) → Option α) (l2 : Seq (ByteArray × Int × Unit)) (last3 : ByteArray) (x4 : Seq (ByteArray × Int × Unit)) (x5 : Int) (x6 : Int) : Option α :=
  (cond (decide (x6 < x5))
    (cond ((decide ((0 : Int) ≤ x6)) && (decide (x6 < (x4.n : Int))))
      (name_Fit ((x4.g x6.toNat).1) fun r7 =>
        (cond (!(!r7))
          (cond (!((Op.bytesLess (x4.g x6.toNat).1.toList last3.toList) || ((x4.g x6.toNat).1.toList == last3.toList)))
            (cond (!(decide ((x4.g x6.toNat).2.1 < 1)))
              (cond (decide ((x4.g x6.toNat).2.1 > 1048576))
                (kr false)
                (rec l2 ((x4.g x6.toNat).1) x4 x5 (IntKind.i64.wrap (x6 + 1))))
              (kr false))
            (kr false))
          (kr false)))
      none)
    (k0 l2))

noncomputable def lines_Fit_l0_run {α : Type} (name_Fit : name_Fit_T α) (kr : (Bool) → Option α) (k0 : (Seq (ByteArray × Int × Unit)) → Option α) : Nat → (Seq (ByteArray × Int × Unit)) → (ByteArray) → (Seq (ByteArray × Int × Unit)) → (Int) → (Int) → Option α
  | 0, _, _, _, _, _ => none
  | n + 1, l2, last3, x4, x5, x6 => lines_Fit_l0_step name_Fit kr k0 (fun l2 last3 x4 x5 x6 => lines_Fit_l0_run name_Fit kr k0 n l2 last3 x4 x5 x6) l2 last3 x4 x5 x6

noncomputable def lines_Fit_g {α : Type} (name_Fit : name_Fit_T α) (l1 : Seq (ByteArray × Int × Unit)) (k : Bool → Option α) : Option α :=
  (lines_Fit_l0_run name_Fit
    (fun x8 =>
      (k x8))
    (fun x9 =>
      (k (decide ((x9.n : Int) ≤ 4))))
    1000 l1 (⟨#[]⟩ : ByteArray) l1 (l1.n : Int) 0)

noncomputable def lines_Fit {α : Type} : lines_Fit_T α := lines_Fit_g name_Fit

noncomputable def lines_Fit_sp {α : Type} (lines_Fit : lines_Fit_T α) : FunSpec α := ⟨73, [.sl (.str (.int .i64 (.nil)))], [], fun ds k => lines_Fit (hdQ (.str (.int .i64 (.nil))) ds) (fun r1 => k (enc dep (.bool) [.b r1]).1 [])⟩

noncomputable def lines_Fit_spec {α : Type} : FunSpec α := lines_Fit_sp lines_Fit

noncomputable def lines_Fit_C {α : Type} (name_Fit : name_Fit_T α) : List (FunSpec α) := [name_Fit_sp name_Fit]

noncomputable def lines_Fit_q : FuncId → Bool := fun f => Nat.beq f 52

noncomputable def lines_Fit_inl : FuncId → Bool := fun f => false

noncomputable def lines_Fit_ann : FuncId → AnnT := fun f p => if f = 73 then (if p = [true, false, true, true] then ⟨[0, 3, 6, 7, 8], [], [0], [2], 0, [], [], none⟩ else ⟨[], [], [], [], 0, [], [], none⟩) else ⟨[], [], [], [], 0, [], [], none⟩

noncomputable def lines_Fit_l0_t : List Sh := [.sl (.str (.int .i64 (.nil))), .dead, .dead, .str, .dead, .dead, .sl (.str (.int .i64 (.nil))), .int .i64, .int .i64, .dead, .dead, .dead, .dead, .dead, .dead, .dead, .dead, .dead, .dead, .dead, .dead, .dead, .dead, .dead, .dead, .dead, .dead, .dead, .dead, .dead, .dead, .dead, .dead, .dead, .dead, .dead, .dead, .dead]
noncomputable def lines_Fit_l0_s : List (List Sh) := []
noncomputable def lines_Fit_l0_h : List BSh := []

noncomputable def lines_Fit_l0_spec {α : Type} (name_Fit : name_Fit_T α) : LoopSpec α := ⟨6, 73, [true, false, true, true], lines_Fit_l0_t, lines_Fit_l0_s, lines_Fit_l0_h, fun ds k => lines_Fit_l0_run name_Fit (fun y1 => k .ret (encSt [.dead, .dead, .bool, .dead, .dead, .dead, .dead, .dead, .dead, .dead, .dead, .dead, .dead, .dead, .dead, .dead, .dead, .dead, .dead, .dead, .dead, .dead, .dead, .dead, .dead, .dead, .dead, .dead, .dead, .dead, .dead, .dead, .dead, .dead, .dead, .dead, .dead, .dead] [] [] [.b y1])) (fun y1 => k (.exit 0) (encSt [.sl (.str (.int .i64 (.nil))), .dead, .dead, .dead, .dead, .dead, .dead, .dead, .dead, .dead, .dead, .dead, .dead, .dead, .dead, .dead, .dead, .dead, .dead, .dead, .dead, .dead, .dead, .dead, .dead, .dead, .dead, .dead, .dead, .dead, .dead, .dead, .dead, .dead, .dead, .dead, .dead, .dead] [] [] [.q (.str (.int .i64 (.nil))) y1])) 1000 (hdQ (.str (.int .i64 (.nil))) ds) (hdS ds.tail) (hdQ (.str (.int .i64 (.nil))) ds.tail.tail) (hdI ds.tail.tail.tail) (hdI ds.tail.tail.tail.tail)⟩

noncomputable def lines_Fit_loops {α : Type} (name_Fit : name_Fit_T α) : List (LoopSpec α) := [lines_Fit_l0_spec name_Fit]

noncomputable def lines_Fit_l0_ev {α : Type} (name_Fit : name_Fit_T α) (n : Nat) (st : St) (k : X → St → Option α) : Option α := loopN (evCode Go.Proofs.Tryd.prog (callD Go.Proofs.Tryd.prog (envOf (lines_Fit_C name_Fit) lines_Fit_q lines_Fit_inl 1000 lines_Fit_ann false (lines_Fit_loops name_Fit) (fun _ => none)) 6) (((envOf (lines_Fit_C name_Fit) lines_Fit_q lines_Fit_inl 1000 lines_Fit_ann false (lines_Fit_loops name_Fit) (fun _ => none)) : Env α).L 6 73) 1000 (lines_Fit_ann 73) (false :: [true, false, true, true]) (loopC Go.Proofs.Tryd.prog 73 [true, false, true, true])) ((lines_Fit_ann 73 [true, false, true, true]).head 0) ((lines_Fit_ann 73 [true, false, true, true]).leave 0) n st k

theorem lines_Fit_l0_eq {α : Type} (name_Fit : name_Fit_T α) : ∀ (n : Nat) (l2 : Seq (ByteArray × Int × Unit)) (last3 : ByteArray) (x4 : Seq (ByteArray × Int × Unit)) (x5 : Int) (x6 : Int) (k : X → St → Option α), lines_Fit_l0_ev name_Fit n (encSt lines_Fit_l0_t lines_Fit_l0_s lines_Fit_l0_h [.q (.str (.int .i64 (.nil))) l2, .s last3, .q (.str (.int .i64 (.nil))) x4, .i x5, .i x6]) k = lines_Fit_l0_run name_Fit (fun y1 => k .ret (encSt [.dead, .dead, .bool, .dead, .dead, .dead, .dead, .dead, .dead, .dead, .dead, .dead, .dead, .dead, .dead, .dead, .dead, .dead, .dead, .dead, .dead, .dead, .dead, .dead, .dead, .dead, .dead, .dead, .dead, .dead, .dead, .dead, .dead, .dead, .dead, .dead, .dead, .dead] [] [] [.b y1])) (fun y1 => k (.exit 0) (encSt [.sl (.str (.int .i64 (.nil))), .dead, .dead, .dead, .dead, .dead, .dead, .dead, .dead, .dead, .dead, .dead, .dead, .dead, .dead, .dead, .dead, .dead, .dead, .dead, .dead, .dead, .dead, .dead, .dead, .dead, .dead, .dead, .dead, .dead, .dead, .dead, .dead, .dead, .dead, .dead, .dead, .dead] [] [] [.q (.str (.int .i64 (.nil))) y1])) n l2 last3 x4 x5 x6 := by
  intro n
  induction n with
  | zero => intros; kernel_rfl
  | succ n ih =>
    intro l2 last3 x4 x5 x6 k
    have e : (fun (l2 : Seq (ByteArray × Int × Unit)) (last3 : ByteArray) (x4 : Seq (ByteArray × Int × Unit)) (x5 : Int) (x6 : Int) => lines_Fit_l0_ev name_Fit n (encSt lines_Fit_l0_t lines_Fit_l0_s lines_Fit_l0_h [.q (.str (.int .i64 (.nil))) l2, .s last3, .q (.str (.int .i64 (.nil))) x4, .i x5, .i x6]) k) = (fun (l2 : Seq (ByteArray × Int × Unit)) (last3 : ByteArray) (x4 : Seq (ByteArray × Int × Unit)) (x5 : Int) (x6 : Int) => lines_Fit_l0_run name_Fit (fun y1 => k .ret (encSt [.dead, .dead, .bool, .dead, .dead, .dead, .dead, .dead, .dead, .dead, .dead, .dead, .dead, .dead, .dead, .dead, .dead, .dead, .dead, .dead, .dead, .dead, .dead, .dead, .dead, .dead, .dead, .dead, .dead, .dead, .dead, .dead, .dead, .dead, .dead, .dead, .dead, .dead] [] [] [.b y1])) (fun y1 => k (.exit 0) (encSt [.sl (.str (.int .i64 (.nil))), .dead, .dead, .dead, .dead, .dead, .dead, .dead, .dead, .dead, .dead, .dead, .dead, .dead, .dead, .dead, .dead, .dead, .dead, .dead, .dead, .dead, .dead, .dead, .dead, .dead, .dead, .dead, .dead, .dead, .dead, .dead, .dead, .dead, .dead, .dead, .dead, .dead] [] [] [.q (.str (.int .i64 (.nil))) y1])) n l2 last3 x4 x5 x6) := by
      funext l2 last3 x4 x5 x6
      exact ih l2 last3 x4 x5 x6 k
    have h1 : lines_Fit_l0_ev name_Fit (n + 1) (encSt lines_Fit_l0_t lines_Fit_l0_s lines_Fit_l0_h [.q (.str (.int .i64 (.nil))) l2, .s last3, .q (.str (.int .i64 (.nil))) x4, .i x5, .i x6]) k = lines_Fit_l0_step name_Fit (fun y1 => k .ret (encSt [.dead, .dead, .bool, .dead, .dead, .dead, .dead, .dead, .dead, .dead, .dead, .dead, .dead, .dead, .dead, .dead, .dead, .dead, .dead, .dead, .dead, .dead, .dead, .dead, .dead, .dead, .dead, .dead, .dead, .dead, .dead, .dead, .dead, .dead, .dead, .dead, .dead, .dead] [] [] [.b y1])) (fun y1 => k (.exit 0) (encSt [.sl (.str (.int .i64 (.nil))), .dead, .dead, .dead, .dead, .dead, .dead, .dead, .dead, .dead, .dead, .dead, .dead, .dead, .dead, .dead, .dead, .dead, .dead, .dead, .dead, .dead, .dead, .dead, .dead, .dead, .dead, .dead, .dead, .dead, .dead, .dead, .dead, .dead, .dead, .dead, .dead, .dead] [] [] [.q (.str (.int .i64 (.nil))) y1])) (fun (l2 : Seq (ByteArray × Int × Unit)) (last3 : ByteArray) (x4 : Seq (ByteArray × Int × Unit)) (x5 : Int) (x6 : Int) => lines_Fit_l0_ev name_Fit n (encSt lines_Fit_l0_t lines_Fit_l0_s lines_Fit_l0_h [.q (.str (.int .i64 (.nil))) l2, .s last3, .q (.str (.int .i64 (.nil))) x4, .i x5, .i x6]) k) l2 last3 x4 x5 x6 := by kernel_rfl
    have h2 := congrArg (fun r => lines_Fit_l0_step name_Fit (fun y1 => k .ret (encSt [.dead, .dead, .bool, .dead, .dead, .dead, .dead, .dead, .dead, .dead, .dead, .dead, .dead, .dead, .dead, .dead, .dead, .dead, .dead, .dead, .dead, .dead, .dead, .dead, .dead, .dead, .dead, .dead, .dead, .dead, .dead, .dead, .dead, .dead, .dead, .dead, .dead, .dead] [] [] [.b y1])) (fun y1 => k (.exit 0) (encSt [.sl (.str (.int .i64 (.nil))), .dead, .dead, .dead, .dead, .dead, .dead, .dead, .dead, .dead, .dead, .dead, .dead, .dead, .dead, .dead, .dead, .dead, .dead, .dead, .dead, .dead, .dead, .dead, .dead, .dead, .dead, .dead, .dead, .dead, .dead, .dead, .dead, .dead, .dead, .dead, .dead, .dead] [] [] [.q (.str (.int .i64 (.nil))) y1])) r l2 last3 x4 x5 x6) e
    have h3 : lines_Fit_l0_step name_Fit (fun y1 => k .ret (encSt [.dead, .dead, .bool, .dead, .dead, .dead, .dead, .dead, .dead, .dead, .dead, .dead, .dead, .dead, .dead, .dead, .dead, .dead, .dead, .dead, .dead, .dead, .dead, .dead, .dead, .dead, .dead, .dead, .dead, .dead, .dead, .dead, .dead, .dead, .dead, .dead, .dead, .dead] [] [] [.b y1])) (fun y1 => k (.exit 0) (encSt [.sl (.str (.int .i64 (.nil))), .dead, .dead, .dead, .dead, .dead, .dead, .dead, .dead, .dead, .dead, .dead, .dead, .dead, .dead, .dead, .dead, .dead, .dead, .dead, .dead, .dead, .dead, .dead, .dead, .dead, .dead, .dead, .dead, .dead, .dead, .dead, .dead, .dead, .dead, .dead, .dead, .dead] [] [] [.q (.str (.int .i64 (.nil))) y1])) (fun (l2 : Seq (ByteArray × Int × Unit)) (last3 : ByteArray) (x4 : Seq (ByteArray × Int × Unit)) (x5 : Int) (x6 : Int) => lines_Fit_l0_run name_Fit (fun y1 => k .ret (encSt [.dead, .dead, .bool, .dead, .dead, .dead, .dead, .dead, .dead, .dead, .dead, .dead, .dead, .dead, .dead, .dead, .dead, .dead, .dead, .dead, .dead, .dead, .dead, .dead, .dead, .dead, .dead, .dead, .dead, .dead, .dead, .dead, .dead, .dead, .dead, .dead, .dead, .dead] [] [] [.b y1])) (fun y1 => k (.exit 0) (encSt [.sl (.str (.int .i64 (.nil))), .dead, .dead, .dead, .dead, .dead, .dead, .dead, .dead, .dead, .dead, .dead, .dead, .dead, .dead, .dead, .dead, .dead, .dead, .dead, .dead, .dead, .dead, .dead, .dead, .dead, .dead, .dead, .dead, .dead, .dead, .dead, .dead, .dead, .dead, .dead, .dead, .dead] [] [] [.q (.str (.int .i64 (.nil))) y1])) n l2 last3 x4 x5 x6) l2 last3 x4 x5 x6 = lines_Fit_l0_run name_Fit (fun y1 => k .ret (encSt [.dead, .dead, .bool, .dead, .dead, .dead, .dead, .dead, .dead, .dead, .dead, .dead, .dead, .dead, .dead, .dead, .dead, .dead, .dead, .dead, .dead, .dead, .dead, .dead, .dead, .dead, .dead, .dead, .dead, .dead, .dead, .dead, .dead, .dead, .dead, .dead, .dead, .dead] [] [] [.b y1])) (fun y1 => k (.exit 0) (encSt [.sl (.str (.int .i64 (.nil))), .dead, .dead, .dead, .dead, .dead, .dead, .dead, .dead, .dead, .dead, .dead, .dead, .dead, .dead, .dead, .dead, .dead, .dead, .dead, .dead, .dead, .dead, .dead, .dead, .dead, .dead, .dead, .dead, .dead, .dead, .dead, .dead, .dead, .dead, .dead, .dead, .dead] [] [] [.q (.str (.int .i64 (.nil))) y1])) (n + 1) l2 last3 x4 x5 x6 := by kernel_rfl
    exact h1.trans (h2.trans h3)

theorem lines_Fit_l0_ok {α : Type} (name_Fit : name_Fit_T α) : (lines_Fit_l0_spec name_Fit : LoopSpec α).ok Go.Proofs.Tryd.prog (envOf (lines_Fit_C name_Fit) lines_Fit_q lines_Fit_inl 1000 lines_Fit_ann false (lines_Fit_loops name_Fit) (fun _ => none)) := by
  intro ds k
  have h1 : lines_Fit_l0_ev name_Fit 1000 (encSt lines_Fit_l0_t lines_Fit_l0_s lines_Fit_l0_h ds) k = lines_Fit_l0_ev name_Fit 1000 (encSt lines_Fit_l0_t lines_Fit_l0_s lines_Fit_l0_h [.q (.str (.int .i64 (.nil))) (hdQ (.str (.int .i64 (.nil))) ds), .s (hdS ds.tail), .q (.str (.int .i64 (.nil))) (hdQ (.str (.int .i64 (.nil))) ds.tail.tail), .i (hdI ds.tail.tail.tail), .i (hdI ds.tail.tail.tail.tail)]) k := by kernel_rfl
  have h2 := lines_Fit_l0_eq name_Fit 1000 (hdQ (.str (.int .i64 (.nil))) ds) (hdS ds.tail) (hdQ (.str (.int .i64 (.nil))) ds.tail.tail) (hdI ds.tail.tail.tail) (hdI ds.tail.tail.tail.tail) k
  exact h1.trans h2

theorem lines_Fit_ev {α : Type} (name_Fit : name_Fit_T α) : EvOk (α := α) Go.Proofs.Tryd.prog (envOf (lines_Fit_C name_Fit) lines_Fit_q lines_Fit_inl 1000 lines_Fit_ann false (lines_Fit_loops name_Fit) (fun _ => none)) 6 (lines_Fit_sp (lines_Fit_g name_Fit)) := by intro ds k; kernel_rfl

theorem lines_Fit_ok {α : Type} : (lines_Fit_spec : FunSpec α).ok Go.Proofs.Tryd.prog :=
  FunSpec.ok_of (sp := lines_Fit_spec) (C := lines_Fit_C name_Fit) (q := lines_Fit_q) (inl := lines_Fit_inl) (N := 1000) (ann := lines_Fit_ann) (fr := false) (D := 6) (l := (lines_Fit_loops name_Fit)) (hk := (fun _ => none)) (okCons name_Fit_ok okNil) (lokCons (lines_Fit_l0_ok name_Fit) lokNil) noHooks (lines_Fit_ev name_Fit)

end
end Go.Rv.Tryd

set_option linter.unusedVariables false
set_option maxRecDepth 100000
set_option maxHeartbeats 4000000
namespace Go.Rv.Tryd
open Go Go.Rv Go.RowKit
noncomputable section

-- drayman/num.Fit

abbrev num_Fit_T (α : Type) : Type := Int → (Bool → Option α) → Option α

noncomputable def num_Fit {α : Type} (n1 : Int) (k : Bool → Option α) : Option α :=
  (cond (decide (n1 ≥ 0))
    (k (decide (n1 ≤ 1099511627776)))
    (k false))

noncomputable def num_Fit_sp {α : Type} (num_Fit : num_Fit_T α) : FunSpec α := ⟨74, [.int .i64], [], fun ds k => num_Fit (hdI ds) (fun r1 => k (enc dep (.bool) [.b r1]).1 [])⟩

noncomputable def num_Fit_spec {α : Type} : FunSpec α := num_Fit_sp num_Fit

noncomputable def num_Fit_C {α : Type} : List (FunSpec α) := []

noncomputable def num_Fit_q : FuncId → Bool := fun f => false

noncomputable def num_Fit_inl : FuncId → Bool := fun f => false

noncomputable def num_Fit_ann : FuncId → AnnT := fun f p => ⟨[], [], [], [], 0, [], [], none⟩

noncomputable def num_Fit_loops {α : Type} : List (LoopSpec α) := []

theorem num_Fit_ev {α : Type} : EvOk (α := α) Go.Proofs.Tryd.prog (envOf (num_Fit_C) num_Fit_q num_Fit_inl 1000 num_Fit_ann false (num_Fit_loops) (fun _ => none)) 6 (num_Fit_sp (num_Fit)) := by intro ds k; kernel_rfl

theorem num_Fit_ok {α : Type} : (num_Fit_spec : FunSpec α).ok Go.Proofs.Tryd.prog :=
  FunSpec.ok_of (sp := num_Fit_spec) (C := num_Fit_C) (q := num_Fit_q) (inl := num_Fit_inl) (N := 1000) (ann := num_Fit_ann) (fr := false) (D := 6) (l := (num_Fit_loops)) (hk := (fun _ => none)) okNil lokNil noHooks (num_Fit_ev)

end
end Go.Rv.Tryd

set_option linter.unusedVariables false
set_option maxRecDepth 100000
set_option maxHeartbeats 4000000
namespace Go.Rv.Tryd
open Go Go.Rv Go.RowKit
noncomputable section

-- drayman/holds.one

abbrev holds_one_T (α : Type) : Type := (Int × (Seq (ByteArray × Int × Unit)) × Int × Unit) → (Bool → Option α) → Option α

noncomputable def holds_one_g {α : Type} (lines_Fit : lines_Fit_T α) (num_Fit : num_Fit_T α) (h1 : Int × (Seq (ByteArray × Int × Unit)) × Int × Unit) (k : Bool → Option α) : Option α :=
  (cond (decide ((1 : Int) ≤ h1.1))
    (cond (decide (h1.1 ≤ 1099511627776))
      (cond (decide ((h1.2.1.n : Int) > 0))
        (lines_Fit h1.2.1 fun r2 =>
          (cond r2
            (num_Fit h1.2.2.1 fun r3 =>
              (k r3))
            (k false)))
        (k false))
      (k false))
    (k false))

noncomputable def holds_one {α : Type} : holds_one_T α := holds_one_g lines_Fit num_Fit

noncomputable def holds_one_sp {α : Type} (holds_one : holds_one_T α) : FunSpec α := ⟨60, [.agg [.int .i64, .sl (.str (.int .i64 (.nil))), .int .i64]], [], fun ds k => holds_one (hdI ds, hdQ (.str (.int .i64 (.nil))) ds.tail, hdI ds.tail.tail, ()) (fun r1 => k (enc dep (.bool) [.b r1]).1 [])⟩

noncomputable def holds_one_spec {α : Type} : FunSpec α := holds_one_sp holds_one

noncomputable def holds_one_C {α : Type} (lines_Fit : lines_Fit_T α) (num_Fit : num_Fit_T α) : List (FunSpec α) := [lines_Fit_sp lines_Fit, num_Fit_sp num_Fit]

noncomputable def holds_one_q : FuncId → Bool := fun f => Nat.beq f 73 || Nat.beq f 74

noncomputable def holds_one_inl : FuncId → Bool := fun f => false

noncomputable def holds_one_ann : FuncId → AnnT := fun f p => ⟨[], [], [], [], 0, [], [], none⟩

noncomputable def holds_one_loops {α : Type} (lines_Fit : lines_Fit_T α) (num_Fit : num_Fit_T α) : List (LoopSpec α) := []

theorem holds_one_ev {α : Type} (lines_Fit : lines_Fit_T α) (num_Fit : num_Fit_T α) : EvOk (α := α) Go.Proofs.Tryd.prog (envOf (holds_one_C lines_Fit num_Fit) holds_one_q holds_one_inl 1000 holds_one_ann false (holds_one_loops lines_Fit num_Fit) (fun _ => none)) 6 (holds_one_sp (holds_one_g lines_Fit num_Fit)) := by intro ds k; kernel_rfl

theorem holds_one_ok {α : Type} : (holds_one_spec : FunSpec α).ok Go.Proofs.Tryd.prog :=
  FunSpec.ok_of (sp := holds_one_spec) (C := holds_one_C lines_Fit num_Fit) (q := holds_one_q) (inl := holds_one_inl) (N := 1000) (ann := holds_one_ann) (fr := false) (D := 6) (l := (holds_one_loops lines_Fit num_Fit)) (hk := (fun _ => none)) (okCons lines_Fit_ok (okCons num_Fit_ok okNil)) lokNil noHooks (holds_one_ev lines_Fit num_Fit)

end
end Go.Rv.Tryd

set_option linter.unusedVariables false
set_option maxRecDepth 100000
set_option maxHeartbeats 4000000
namespace Go.Rv.Tryd
open Go Go.Rv Go.RowKit
noncomputable section

-- drayman/holds.Fit

abbrev holds_Fit_T (α : Type) : Type := (Seq (Int × (Seq (ByteArray × Int × Unit)) × Int × Unit)) → (Bool → Option α) → Option α

noncomputable def holds_Fit_l0_step {α : Type} (holds_one : holds_one_T α) (kr : (Bool) → Option α) (k0 : (Seq (Int × (Seq (ByteArray × Int × Unit)) × Int × Unit)) → Option α) (rec : (Seq (Int × (Seq (ByteArray × Int × Unit)) × Int × Unit)) → (Int) → (Seq (Int × (Seq (ByteArray × Int × Unit)) × Int × Unit)) → (Int) → (Int) → Option α) (l2 : Seq (Int × (Seq (ByteArray × Int × Unit)) × Int × Unit)) (last3 : Int) (x4 : Seq (Int × (Seq (ByteArray × Int × Unit)) × Int × Unit)) (x5 : Int) (x6 : Int) : Option α :=
  (cond (decide (x6 < x5))
    (cond ((decide ((0 : Int) ≤ x6)) && (decide (x6 < (x4.n : Int))))
      (holds_one (x4.g x6.toNat) fun r7 =>
        (cond (!(!r7))
          (cond (decide ((x4.g x6.toNat).1 ≤ last3))
            (kr false)
            (rec l2 ((x4.g x6.toNat).1) x4 x5 (IntKind.i64.wrap (x6 + 1))))
          (kr false)))
      none)
    (k0 l2))

noncomputable def holds_Fit_l0_run {α : Type} (holds_one : holds_one_T α) (kr : (Bool) → Option α) (k0 : (Seq (Int × (Seq (ByteArray × Int × Unit)) × Int × Unit)) → Option α) : Nat → (Seq (Int × (Seq (ByteArray × Int × Unit)) × Int × Unit)) → (Int) → (Seq (Int × (Seq (ByteArray × Int × Unit)) × Int × Unit)) → (Int) → (Int) → Option α
  | 0, _, _, _, _, _ => none
  | n + 1, l2, last3, x4, x5, x6 => holds_Fit_l0_step holds_one kr k0 (fun l2 last3 x4 x5 x6 => holds_Fit_l0_run holds_one kr k0 n l2 last3 x4 x5 x6) l2 last3 x4 x5 x6

noncomputable def holds_Fit_g {α : Type} (holds_one : holds_one_T α) (l1 : Seq (Int × (Seq (ByteArray × Int × Unit)) × Int × Unit)) (k : Bool → Option α) : Option α :=
  (holds_Fit_l0_run holds_one
    (fun x8 =>
      (k x8))
    (fun x9 =>
      (k (decide ((x9.n : Int) ≤ 16))))
    1000 l1 0 l1 (l1.n : Int) 0)

noncomputable def holds_Fit {α : Type} : holds_Fit_T α := holds_Fit_g holds_one

noncomputable def holds_Fit_sp {α : Type} (holds_Fit : holds_Fit_T α) : FunSpec α := ⟨32, [.sl (.int .i64 (.sl (.str (.int .i64 (.nil))) (.int .i64 (.nil))))], [], fun ds k => holds_Fit (hdQ (.int .i64 (.sl (.str (.int .i64 (.nil))) (.int .i64 (.nil)))) ds) (fun r1 => k (enc dep (.bool) [.b r1]).1 [])⟩

noncomputable def holds_Fit_spec {α : Type} : FunSpec α := holds_Fit_sp holds_Fit

noncomputable def holds_Fit_C {α : Type} (holds_one : holds_one_T α) : List (FunSpec α) := [holds_one_sp holds_one]

noncomputable def holds_Fit_q : FuncId → Bool := fun f => Nat.beq f 60

noncomputable def holds_Fit_inl : FuncId → Bool := fun f => false

noncomputable def holds_Fit_ann : FuncId → AnnT := fun f p => if f = 32 then (if p = [true, false, true, true] then ⟨[0, 3, 6, 7, 8], [], [0], [2], 0, [], [], none⟩ else ⟨[], [], [], [], 0, [], [], none⟩) else ⟨[], [], [], [], 0, [], [], none⟩

noncomputable def holds_Fit_l0_t : List Sh := [.sl (.int .i64 (.sl (.str (.int .i64 (.nil))) (.int .i64 (.nil)))), .dead, .dead, .int .i64, .dead, .dead, .sl (.int .i64 (.sl (.str (.int .i64 (.nil))) (.int .i64 (.nil)))), .int .i64, .int .i64, .dead, .dead, .dead, .dead, .dead, .dead, .dead, .dead, .dead, .dead, .dead, .dead, .dead, .dead, .dead, .dead, .dead, .dead]
noncomputable def holds_Fit_l0_s : List (List Sh) := []
noncomputable def holds_Fit_l0_h : List BSh := []

noncomputable def holds_Fit_l0_spec {α : Type} (holds_one : holds_one_T α) : LoopSpec α := ⟨6, 32, [true, false, true, true], holds_Fit_l0_t, holds_Fit_l0_s, holds_Fit_l0_h, fun ds k => holds_Fit_l0_run holds_one (fun y1 => k .ret (encSt [.dead, .dead, .bool, .dead, .dead, .dead, .dead, .dead, .dead, .dead, .dead, .dead, .dead, .dead, .dead, .dead, .dead, .dead, .dead, .dead, .dead, .dead, .dead, .dead, .dead, .dead, .dead] [] [] [.b y1])) (fun y1 => k (.exit 0) (encSt [.sl (.int .i64 (.sl (.str (.int .i64 (.nil))) (.int .i64 (.nil)))), .dead, .dead, .dead, .dead, .dead, .dead, .dead, .dead, .dead, .dead, .dead, .dead, .dead, .dead, .dead, .dead, .dead, .dead, .dead, .dead, .dead, .dead, .dead, .dead, .dead, .dead] [] [] [.q (.int .i64 (.sl (.str (.int .i64 (.nil))) (.int .i64 (.nil)))) y1])) 1000 (hdQ (.int .i64 (.sl (.str (.int .i64 (.nil))) (.int .i64 (.nil)))) ds) (hdI ds.tail) (hdQ (.int .i64 (.sl (.str (.int .i64 (.nil))) (.int .i64 (.nil)))) ds.tail.tail) (hdI ds.tail.tail.tail) (hdI ds.tail.tail.tail.tail)⟩

noncomputable def holds_Fit_loops {α : Type} (holds_one : holds_one_T α) : List (LoopSpec α) := [holds_Fit_l0_spec holds_one]

noncomputable def holds_Fit_l0_ev {α : Type} (holds_one : holds_one_T α) (n : Nat) (st : St) (k : X → St → Option α) : Option α := loopN (evCode Go.Proofs.Tryd.prog (callD Go.Proofs.Tryd.prog (envOf (holds_Fit_C holds_one) holds_Fit_q holds_Fit_inl 1000 holds_Fit_ann false (holds_Fit_loops holds_one) (fun _ => none)) 6) (((envOf (holds_Fit_C holds_one) holds_Fit_q holds_Fit_inl 1000 holds_Fit_ann false (holds_Fit_loops holds_one) (fun _ => none)) : Env α).L 6 32) 1000 (holds_Fit_ann 32) (false :: [true, false, true, true]) (loopC Go.Proofs.Tryd.prog 32 [true, false, true, true])) ((holds_Fit_ann 32 [true, false, true, true]).head 0) ((holds_Fit_ann 32 [true, false, true, true]).leave 0) n st k

theorem holds_Fit_l0_eq {α : Type} (holds_one : holds_one_T α) : ∀ (n : Nat) (l2 : Seq (Int × (Seq (ByteArray × Int × Unit)) × Int × Unit)) (last3 : Int) (x4 : Seq (Int × (Seq (ByteArray × Int × Unit)) × Int × Unit)) (x5 : Int) (x6 : Int) (k : X → St → Option α), holds_Fit_l0_ev holds_one n (encSt holds_Fit_l0_t holds_Fit_l0_s holds_Fit_l0_h [.q (.int .i64 (.sl (.str (.int .i64 (.nil))) (.int .i64 (.nil)))) l2, .i last3, .q (.int .i64 (.sl (.str (.int .i64 (.nil))) (.int .i64 (.nil)))) x4, .i x5, .i x6]) k = holds_Fit_l0_run holds_one (fun y1 => k .ret (encSt [.dead, .dead, .bool, .dead, .dead, .dead, .dead, .dead, .dead, .dead, .dead, .dead, .dead, .dead, .dead, .dead, .dead, .dead, .dead, .dead, .dead, .dead, .dead, .dead, .dead, .dead, .dead] [] [] [.b y1])) (fun y1 => k (.exit 0) (encSt [.sl (.int .i64 (.sl (.str (.int .i64 (.nil))) (.int .i64 (.nil)))), .dead, .dead, .dead, .dead, .dead, .dead, .dead, .dead, .dead, .dead, .dead, .dead, .dead, .dead, .dead, .dead, .dead, .dead, .dead, .dead, .dead, .dead, .dead, .dead, .dead, .dead] [] [] [.q (.int .i64 (.sl (.str (.int .i64 (.nil))) (.int .i64 (.nil)))) y1])) n l2 last3 x4 x5 x6 := by
  intro n
  induction n with
  | zero => intros; kernel_rfl
  | succ n ih =>
    intro l2 last3 x4 x5 x6 k
    have e : (fun (l2 : Seq (Int × (Seq (ByteArray × Int × Unit)) × Int × Unit)) (last3 : Int) (x4 : Seq (Int × (Seq (ByteArray × Int × Unit)) × Int × Unit)) (x5 : Int) (x6 : Int) => holds_Fit_l0_ev holds_one n (encSt holds_Fit_l0_t holds_Fit_l0_s holds_Fit_l0_h [.q (.int .i64 (.sl (.str (.int .i64 (.nil))) (.int .i64 (.nil)))) l2, .i last3, .q (.int .i64 (.sl (.str (.int .i64 (.nil))) (.int .i64 (.nil)))) x4, .i x5, .i x6]) k) = (fun (l2 : Seq (Int × (Seq (ByteArray × Int × Unit)) × Int × Unit)) (last3 : Int) (x4 : Seq (Int × (Seq (ByteArray × Int × Unit)) × Int × Unit)) (x5 : Int) (x6 : Int) => holds_Fit_l0_run holds_one (fun y1 => k .ret (encSt [.dead, .dead, .bool, .dead, .dead, .dead, .dead, .dead, .dead, .dead, .dead, .dead, .dead, .dead, .dead, .dead, .dead, .dead, .dead, .dead, .dead, .dead, .dead, .dead, .dead, .dead, .dead] [] [] [.b y1])) (fun y1 => k (.exit 0) (encSt [.sl (.int .i64 (.sl (.str (.int .i64 (.nil))) (.int .i64 (.nil)))), .dead, .dead, .dead, .dead, .dead, .dead, .dead, .dead, .dead, .dead, .dead, .dead, .dead, .dead, .dead, .dead, .dead, .dead, .dead, .dead, .dead, .dead, .dead, .dead, .dead, .dead] [] [] [.q (.int .i64 (.sl (.str (.int .i64 (.nil))) (.int .i64 (.nil)))) y1])) n l2 last3 x4 x5 x6) := by
      funext l2 last3 x4 x5 x6
      exact ih l2 last3 x4 x5 x6 k
    have h1 : holds_Fit_l0_ev holds_one (n + 1) (encSt holds_Fit_l0_t holds_Fit_l0_s holds_Fit_l0_h [.q (.int .i64 (.sl (.str (.int .i64 (.nil))) (.int .i64 (.nil)))) l2, .i last3, .q (.int .i64 (.sl (.str (.int .i64 (.nil))) (.int .i64 (.nil)))) x4, .i x5, .i x6]) k = holds_Fit_l0_step holds_one (fun y1 => k .ret (encSt [.dead, .dead, .bool, .dead, .dead, .dead, .dead, .dead, .dead, .dead, .dead, .dead, .dead, .dead, .dead, .dead, .dead, .dead, .dead, .dead, .dead, .dead, .dead, .dead, .dead, .dead, .dead] [] [] [.b y1])) (fun y1 => k (.exit 0) (encSt [.sl (.int .i64 (.sl (.str (.int .i64 (.nil))) (.int .i64 (.nil)))), .dead, .dead, .dead, .dead, .dead, .dead, .dead, .dead, .dead, .dead, .dead, .dead, .dead, .dead, .dead, .dead, .dead, .dead, .dead, .dead, .dead, .dead, .dead, .dead, .dead, .dead] [] [] [.q (.int .i64 (.sl (.str (.int .i64 (.nil))) (.int .i64 (.nil)))) y1])) (fun (l2 : Seq (Int × (Seq (ByteArray × Int × Unit)) × Int × Unit)) (last3 : Int) (x4 : Seq (Int × (Seq (ByteArray × Int × Unit)) × Int × Unit)) (x5 : Int) (x6 : Int) => holds_Fit_l0_ev holds_one n (encSt holds_Fit_l0_t holds_Fit_l0_s holds_Fit_l0_h [.q (.int .i64 (.sl (.str (.int .i64 (.nil))) (.int .i64 (.nil)))) l2, .i last3, .q (.int .i64 (.sl (.str (.int .i64 (.nil))) (.int .i64 (.nil)))) x4, .i x5, .i x6]) k) l2 last3 x4 x5 x6 := by kernel_rfl
    have h2 := congrArg (fun r => holds_Fit_l0_step holds_one (fun y1 => k .ret (encSt [.dead, .dead, .bool, .dead, .dead, .dead, .dead, .dead, .dead, .dead, .dead, .dead, .dead, .dead, .dead, .dead, .dead, .dead, .dead, .dead, .dead, .dead, .dead, .dead, .dead, .dead, .dead] [] [] [.b y1])) (fun y1 => k (.exit 0) (encSt [.sl (.int .i64 (.sl (.str (.int .i64 (.nil))) (.int .i64 (.nil)))), .dead, .dead, .dead, .dead, .dead, .dead, .dead, .dead, .dead, .dead, .dead, .dead, .dead, .dead, .dead, .dead, .dead, .dead, .dead, .dead, .dead, .dead, .dead, .dead, .dead, .dead] [] [] [.q (.int .i64 (.sl (.str (.int .i64 (.nil))) (.int .i64 (.nil)))) y1])) r l2 last3 x4 x5 x6) e
    have h3 : holds_Fit_l0_step holds_one (fun y1 => k .ret (encSt [.dead, .dead, .bool, .dead, .dead, .dead, .dead, .dead, .dead, .dead, .dead, .dead, .dead, .dead, .dead, .dead, .dead, .dead, .dead, .dead, .dead, .dead, .dead, .dead, .dead, .dead, .dead] [] [] [.b y1])) (fun y1 => k (.exit 0) (encSt [.sl (.int .i64 (.sl (.str (.int .i64 (.nil))) (.int .i64 (.nil)))), .dead, .dead, .dead, .dead, .dead, .dead, .dead, .dead, .dead, .dead, .dead, .dead, .dead, .dead, .dead, .dead, .dead, .dead, .dead, .dead, .dead, .dead, .dead, .dead, .dead, .dead] [] [] [.q (.int .i64 (.sl (.str (.int .i64 (.nil))) (.int .i64 (.nil)))) y1])) (fun (l2 : Seq (Int × (Seq (ByteArray × Int × Unit)) × Int × Unit)) (last3 : Int) (x4 : Seq (Int × (Seq (ByteArray × Int × Unit)) × Int × Unit)) (x5 : Int) (x6 : Int) => holds_Fit_l0_run holds_one (fun y1 => k .ret (encSt [.dead, .dead, .bool, .dead, .dead, .dead, .dead, .dead, .dead, .dead, .dead, .dead, .dead, .dead, .dead, .dead, .dead, .dead, .dead, .dead, .dead, .dead, .dead, .dead, .dead, .dead, .dead] [] [] [.b y1])) (fun y1 => k (.exit 0) (encSt [.sl (.int .i64 (.sl (.str (.int .i64 (.nil))) (.int .i64 (.nil)))), .dead, .dead, .dead, .dead, .dead, .dead, .dead, .dead, .dead, .dead, .dead, .dead, .dead, .dead, .dead, .dead, .dead, .dead, .dead, .dead, .dead, .dead, .dead, .dead, .dead, .dead] [] [] [.q (.int .i64 (.sl (.str (.int .i64 (.nil))) (.int .i64 (.nil)))) y1])) n l2 last3 x4 x5 x6) l2 last3 x4 x5 x6 = holds_Fit_l0_run holds_one (fun y1 => k .ret (encSt [.dead, .dead, .bool, .dead, .dead, .dead, .dead, .dead, .dead, .dead, .dead, .dead, .dead, .dead, .dead, .dead, .dead, .dead, .dead, .dead, .dead, .dead, .dead, .dead, .dead, .dead, .dead] [] [] [.b y1])) (fun y1 => k (.exit 0) (encSt [.sl (.int .i64 (.sl (.str (.int .i64 (.nil))) (.int .i64 (.nil)))), .dead, .dead, .dead, .dead, .dead, .dead, .dead, .dead, .dead, .dead, .dead, .dead, .dead, .dead, .dead, .dead, .dead, .dead, .dead, .dead, .dead, .dead, .dead, .dead, .dead, .dead] [] [] [.q (.int .i64 (.sl (.str (.int .i64 (.nil))) (.int .i64 (.nil)))) y1])) (n + 1) l2 last3 x4 x5 x6 := by kernel_rfl
    exact h1.trans (h2.trans h3)

theorem holds_Fit_l0_ok {α : Type} (holds_one : holds_one_T α) : (holds_Fit_l0_spec holds_one : LoopSpec α).ok Go.Proofs.Tryd.prog (envOf (holds_Fit_C holds_one) holds_Fit_q holds_Fit_inl 1000 holds_Fit_ann false (holds_Fit_loops holds_one) (fun _ => none)) := by
  intro ds k
  have h1 : holds_Fit_l0_ev holds_one 1000 (encSt holds_Fit_l0_t holds_Fit_l0_s holds_Fit_l0_h ds) k = holds_Fit_l0_ev holds_one 1000 (encSt holds_Fit_l0_t holds_Fit_l0_s holds_Fit_l0_h [.q (.int .i64 (.sl (.str (.int .i64 (.nil))) (.int .i64 (.nil)))) (hdQ (.int .i64 (.sl (.str (.int .i64 (.nil))) (.int .i64 (.nil)))) ds), .i (hdI ds.tail), .q (.int .i64 (.sl (.str (.int .i64 (.nil))) (.int .i64 (.nil)))) (hdQ (.int .i64 (.sl (.str (.int .i64 (.nil))) (.int .i64 (.nil)))) ds.tail.tail), .i (hdI ds.tail.tail.tail), .i (hdI ds.tail.tail.tail.tail)]) k := by kernel_rfl
  have h2 := holds_Fit_l0_eq holds_one 1000 (hdQ (.int .i64 (.sl (.str (.int .i64 (.nil))) (.int .i64 (.nil)))) ds) (hdI ds.tail) (hdQ (.int .i64 (.sl (.str (.int .i64 (.nil))) (.int .i64 (.nil)))) ds.tail.tail) (hdI ds.tail.tail.tail) (hdI ds.tail.tail.tail.tail) k
  exact h1.trans h2

theorem holds_Fit_ev {α : Type} (holds_one : holds_one_T α) : EvOk (α := α) Go.Proofs.Tryd.prog (envOf (holds_Fit_C holds_one) holds_Fit_q holds_Fit_inl 1000 holds_Fit_ann false (holds_Fit_loops holds_one) (fun _ => none)) 6 (holds_Fit_sp (holds_Fit_g holds_one)) := by intro ds k; kernel_rfl

theorem holds_Fit_ok {α : Type} : (holds_Fit_spec : FunSpec α).ok Go.Proofs.Tryd.prog :=
  FunSpec.ok_of (sp := holds_Fit_spec) (C := holds_Fit_C holds_one) (q := holds_Fit_q) (inl := holds_Fit_inl) (N := 1000) (ann := holds_Fit_ann) (fr := false) (D := 6) (l := (holds_Fit_loops holds_one)) (hk := (fun _ => none)) (okCons holds_one_ok okNil) (lokCons (holds_Fit_l0_ok holds_one) lokNil) noHooks (holds_Fit_ev holds_one)

end
end Go.Rv.Tryd

set_option linter.unusedVariables false
set_option maxRecDepth 100000
set_option maxHeartbeats 4000000
namespace Go.Rv.Tryd
open Go Go.Rv Go.RowKit
noncomputable section

-- drayman/holds.of$1

abbrev holds_of_1_T (α : Type) : Type := (Int × (Seq (ByteArray × Int × Unit)) × Int × Unit) → Int → (Bool → Int → Option α) → Option α

noncomputable def holds_of_1 {α : Type} (h1 : Int × (Seq (ByteArray × Int × Unit)) × Int × Unit) (x2 : Int) (k : Bool → Int → Option α) : Option α :=
  (k (h1.1 == x2) x2)

noncomputable def holds_of_1_sp {α : Type} (holds_of_1 : holds_of_1_T α) : FunSpec α := ⟨100, [.agg [.int .i64, .sl (.str (.int .i64 (.nil))), .int .i64], .ref 0 0], [.box [.int .i64]], fun ds k => holds_of_1 (hdI ds, hdQ (.str (.int .i64 (.nil))) ds.tail, hdI ds.tail.tail, ()) (hdI ds.tail.tail.tail) (fun r1 r2 => k (enc dep (.bool) [.b r1]).1 (encBs [.box [.int .i64]] [.i r2]).1)⟩

noncomputable def holds_of_1_spec {α : Type} : FunSpec α := holds_of_1_sp holds_of_1

noncomputable def holds_of_1_C {α : Type} : List (FunSpec α) := []

noncomputable def holds_of_1_q : FuncId → Bool := fun f => false

noncomputable def holds_of_1_inl : FuncId → Bool := fun f => false

noncomputable def holds_of_1_ann : FuncId → AnnT := fun f p => ⟨[], [], [], [], 0, [], [], none⟩

noncomputable def holds_of_1_loops {α : Type} : List (LoopSpec α) := []

theorem holds_of_1_ev {α : Type} : EvOk (α := α) Go.Proofs.Tryd.prog (envOf (holds_of_1_C) holds_of_1_q holds_of_1_inl 1000 holds_of_1_ann false (holds_of_1_loops) (fun _ => none)) 6 (holds_of_1_sp (holds_of_1)) := by intro ds k; kernel_rfl

theorem holds_of_1_ok {α : Type} : (holds_of_1_spec : FunSpec α).ok Go.Proofs.Tryd.prog :=
  FunSpec.ok_of (sp := holds_of_1_spec) (C := holds_of_1_C) (q := holds_of_1_q) (inl := holds_of_1_inl) (N := 1000) (ann := holds_of_1_ann) (fr := false) (D := 6) (l := (holds_of_1_loops)) (hk := (fun _ => none)) okNil lokNil noHooks (holds_of_1_ev)

end
end Go.Rv.Tryd

set_option linter.unusedVariables false
set_option maxRecDepth 100000
set_option maxHeartbeats 4000000
namespace Go.Rv.Tryd
open Go Go.Rv Go.RowKit
noncomputable section

-- slices.IndexFunc[[]drayman/api.Hold,drayman/api.Hold]

abbrev slices_IndexFunc_api_Hold_api_Hold_T (α : Type) : Type := (Seq (Int × (Seq (ByteArray × Int × Unit)) × Int × Unit)) → Int → (Int → Int → Option α) → Option α

noncomputable def slices_IndexFunc_api_Hold_api_Hold_l0_step {α : Type} (holds_of_1 : holds_of_1_T α) (kr : (Int) → (Int) → Option α) (k0 : (Int) → Option α) (rec : (Seq (Int × (Seq (ByteArray × Int × Unit)) × Int × Unit)) → (Int) → (Int) → (Int) → Option α) (s3 : Seq (Int × (Seq (ByteArray × Int × Unit)) × Int × Unit)) (x4 : Int) (x5 : Int) (x6 : Int) : Option α :=
  (cond (decide (x5 < x4))
    (cond ((decide ((0 : Int) ≤ x5)) && (decide (x5 < (s3.n : Int))))
      (holds_of_1 (s3.g x5.toNat) x6 fun r7 x8 =>
        (cond r7
          (kr x5 x8)
          (rec s3 x4 (IntKind.i64.wrap (x5 + 1)) x8)))
      none)
    (k0 x6))

noncomputable def slices_IndexFunc_api_Hold_api_Hold_l0_run {α : Type} (holds_of_1 : holds_of_1_T α) (kr : (Int) → (Int) → Option α) (k0 : (Int) → Option α) : Nat → (Seq (Int × (Seq (ByteArray × Int × Unit)) × Int × Unit)) → (Int) → (Int) → (Int) → Option α
  | 0, _, _, _, _ => none
  | n + 1, s3, x4, x5, x6 => slices_IndexFunc_api_Hold_api_Hold_l0_step holds_of_1 kr k0 (fun s3 x4 x5 x6 => slices_IndexFunc_api_Hold_api_Hold_l0_run holds_of_1 kr k0 n s3 x4 x5 x6) s3 x4 x5 x6

noncomputable def slices_IndexFunc_api_Hold_api_Hold_g {α : Type} (holds_of_1 : holds_of_1_T α) (s1 : Seq (Int × (Seq (ByteArray × Int × Unit)) × Int × Unit)) (x2 : Int) (k : Int → Int → Option α) : Option α :=
  (slices_IndexFunc_api_Hold_api_Hold_l0_run holds_of_1
    (fun x9 x10 =>
      (k x9 x10))
    (fun x11 =>
      (k (-1) x11))
    1000 s1 (s1.n : Int) 0 x2)

noncomputable def slices_IndexFunc_api_Hold_api_Hold {α : Type} : slices_IndexFunc_api_Hold_api_Hold_T α := slices_IndexFunc_api_Hold_api_Hold_g holds_of_1

noncomputable def slices_IndexFunc_api_Hold_api_Hold_sp {α : Type} (slices_IndexFunc_api_Hold_api_Hold : slices_IndexFunc_api_Hold_api_Hold_T α) : FunSpec α := ⟨63, [.sl (.int .i64 (.sl (.str (.int .i64 (.nil))) (.int .i64 (.nil)))), .func (.func 100) [] [.ref 0 0]], [.box [.int .i64]], fun ds k => slices_IndexFunc_api_Hold_api_Hold (hdQ (.int .i64 (.sl (.str (.int .i64 (.nil))) (.int .i64 (.nil)))) ds) (hdI ds.tail) (fun r1 r2 => k (enc dep (.int .i64) [.i r1]).1 (encBs [.box [.int .i64]] [.i r2]).1)⟩

noncomputable def slices_IndexFunc_api_Hold_api_Hold_spec {α : Type} : FunSpec α := slices_IndexFunc_api_Hold_api_Hold_sp slices_IndexFunc_api_Hold_api_Hold

noncomputable def slices_IndexFunc_api_Hold_api_Hold_C {α : Type} (holds_of_1 : holds_of_1_T α) : List (FunSpec α) := [holds_of_1_sp holds_of_1]

noncomputable def slices_IndexFunc_api_Hold_api_Hold_q : FuncId → Bool := fun f => Nat.beq f 100

noncomputable def slices_IndexFunc_api_Hold_api_Hold_inl : FuncId → Bool := fun f => false

noncomputable def slices_IndexFunc_api_Hold_api_Hold_ann : FuncId → AnnT := fun f p => if f = 63 then (if p = [true, false, true] then ⟨[0, 1, 7, 8], [], [], [4], 0, [], [], none⟩ else ⟨[], [], [], [], 0, [], [], none⟩) else ⟨[], [], [], [], 0, [], [], none⟩

noncomputable def slices_IndexFunc_api_Hold_api_Hold_l0_t : List Sh := [.sl (.int .i64 (.sl (.str (.int .i64 (.nil))) (.int .i64 (.nil)))), .func (.func 100) [] [.ref 0 0], .dead, .dead, .dead, .dead, .dead, .int .i64, .int .i64, .dead, .dead, .dead, .dead, .dead, .dead, .dead, .dead, .dead, .dead]
noncomputable def slices_IndexFunc_api_Hold_api_Hold_l0_s : List (List Sh) := []
noncomputable def slices_IndexFunc_api_Hold_api_Hold_l0_h : List BSh := [.box [.int .i64]]

noncomputable def slices_IndexFunc_api_Hold_api_Hold_l0_spec {α : Type} (holds_of_1 : holds_of_1_T α) : LoopSpec α := ⟨6, 63, [true, false, true], slices_IndexFunc_api_Hold_api_Hold_l0_t, slices_IndexFunc_api_Hold_api_Hold_l0_s, slices_IndexFunc_api_Hold_api_Hold_l0_h, fun ds k => slices_IndexFunc_api_Hold_api_Hold_l0_run holds_of_1 (fun y1 y2 => k .ret (encSt [.dead, .dead, .dead, .dead, .int .i64, .dead, .dead, .dead, .dead, .dead, .dead, .dead, .dead, .dead, .dead, .dead, .dead, .dead, .dead] [] [.box [.int .i64]] [.i y1, .i y2])) (fun y1 => k (.exit 0) (encSt [.dead, .dead, .dead, .dead, .dead, .dead, .dead, .dead, .dead, .dead, .dead, .dead, .dead, .dead, .dead, .dead, .dead, .dead, .dead] [] [.box [.int .i64]] [.i y1])) 1000 (hdQ (.int .i64 (.sl (.str (.int .i64 (.nil))) (.int .i64 (.nil)))) ds) (hdI ds.tail) (hdI ds.tail.tail) (hdI ds.tail.tail.tail)⟩

noncomputable def slices_IndexFunc_api_Hold_api_Hold_loops {α : Type} (holds_of_1 : holds_of_1_T α) : List (LoopSpec α) := [slices_IndexFunc_api_Hold_api_Hold_l0_spec holds_of_1]

noncomputable def slices_IndexFunc_api_Hold_api_Hold_l0_ev {α : Type} (holds_of_1 : holds_of_1_T α) (n : Nat) (st : St) (k : X → St → Option α) : Option α := loopN (evCode Go.Proofs.Tryd.prog (callD Go.Proofs.Tryd.prog (envOf (slices_IndexFunc_api_Hold_api_Hold_C holds_of_1) slices_IndexFunc_api_Hold_api_Hold_q slices_IndexFunc_api_Hold_api_Hold_inl 1000 slices_IndexFunc_api_Hold_api_Hold_ann false (slices_IndexFunc_api_Hold_api_Hold_loops holds_of_1) (fun _ => none)) 6) (((envOf (slices_IndexFunc_api_Hold_api_Hold_C holds_of_1) slices_IndexFunc_api_Hold_api_Hold_q slices_IndexFunc_api_Hold_api_Hold_inl 1000 slices_IndexFunc_api_Hold_api_Hold_ann false (slices_IndexFunc_api_Hold_api_Hold_loops holds_of_1) (fun _ => none)) : Env α).L 6 63) 1000 (slices_IndexFunc_api_Hold_api_Hold_ann 63) (false :: [true, false, true]) (loopC Go.Proofs.Tryd.prog 63 [true, false, true])) ((slices_IndexFunc_api_Hold_api_Hold_ann 63 [true, false, true]).head 1) ((slices_IndexFunc_api_Hold_api_Hold_ann 63 [true, false, true]).leave 1) n st k

theorem slices_IndexFunc_api_Hold_api_Hold_l0_eq {α : Type} (holds_of_1 : holds_of_1_T α) : ∀ (n : Nat) (s3 : Seq (Int × (Seq (ByteArray × Int × Unit)) × Int × Unit)) (x4 : Int) (x5 : Int) (x6 : Int) (k : X → St → Option α), slices_IndexFunc_api_Hold_api_Hold_l0_ev holds_of_1 n (encSt slices_IndexFunc_api_Hold_api_Hold_l0_t slices_IndexFunc_api_Hold_api_Hold_l0_s slices_IndexFunc_api_Hold_api_Hold_l0_h [.q (.int .i64 (.sl (.str (.int .i64 (.nil))) (.int .i64 (.nil)))) s3, .i x4, .i x5, .i x6]) k = slices_IndexFunc_api_Hold_api_Hold_l0_run holds_of_1 (fun y1 y2 => k .ret (encSt [.dead, .dead, .dead, .dead, .int .i64, .dead, .dead, .dead, .dead, .dead, .dead, .dead, .dead, .dead, .dead, .dead, .dead, .dead, .dead] [] [.box [.int .i64]] [.i y1, .i y2])) (fun y1 => k (.exit 0) (encSt [.dead, .dead, .dead, .dead, .dead, .dead, .dead, .dead, .dead, .dead, .dead, .dead, .dead, .dead, .dead, .dead, .dead, .dead, .dead] [] [.box [.int .i64]] [.i y1])) n s3 x4 x5 x6 := by
  intro n
  induction n with
  | zero => intros; kernel_rfl
  | succ n ih =>
    intro s3 x4 x5 x6 k
    have e : (fun (s3 : Seq (Int × (Seq (ByteArray × Int × Unit)) × Int × Unit)) (x4 : Int) (x5 : Int) (x6 : Int) => slices_IndexFunc_api_Hold_api_Hold_l0_ev holds_of_1 n (encSt slices_IndexFunc_api_Hold_api_Hold_l0_t slices_IndexFunc_api_Hold_api_Hold_l0_s slices_IndexFunc_api_Hold_api_Hold_l0_h [.q (.int .i64 (.sl (.str (.int .i64 (.nil))) (.int .i64 (.nil)))) s3, .i x4, .i x5, .i x6]) k) = (fun (s3 : Seq (Int × (Seq (ByteArray × Int × Unit)) × Int × Unit)) (x4 : Int) (x5 : Int) (x6 : Int) => slices_IndexFunc_api_Hold_api_Hold_l0_run holds_of_1 (fun y1 y2 => k .ret (encSt [.dead, .dead, .dead, .dead, .int .i64, .dead, .dead, .dead, .dead, .dead, .dead, .dead, .dead, .dead, .dead, .dead, .dead, .dead, .dead] [] [.box [.int .i64]] [.i y1, .i y2])) (fun y1 => k (.exit 0) (encSt [.dead, .dead, .dead, .dead, .dead, .dead, .dead, .dead, .dead, .dead, .dead, .dead, .dead, .dead, .dead, .dead, .dead, .dead, .dead] [] [.box [.int .i64]] [.i y1])) n s3 x4 x5 x6) := by
      funext s3 x4 x5 x6
      exact ih s3 x4 x5 x6 k
    have h1 : slices_IndexFunc_api_Hold_api_Hold_l0_ev holds_of_1 (n + 1) (encSt slices_IndexFunc_api_Hold_api_Hold_l0_t slices_IndexFunc_api_Hold_api_Hold_l0_s slices_IndexFunc_api_Hold_api_Hold_l0_h [.q (.int .i64 (.sl (.str (.int .i64 (.nil))) (.int .i64 (.nil)))) s3, .i x4, .i x5, .i x6]) k = slices_IndexFunc_api_Hold_api_Hold_l0_step holds_of_1 (fun y1 y2 => k .ret (encSt [.dead, .dead, .dead, .dead, .int .i64, .dead, .dead, .dead, .dead, .dead, .dead, .dead, .dead, .dead, .dead, .dead, .dead, .dead, .dead] [] [.box [.int .i64]] [.i y1, .i y2])) (fun y1 => k (.exit 0) (encSt [.dead, .dead, .dead, .dead, .dead, .dead, .dead, .dead, .dead, .dead, .dead, .dead, .dead, .dead, .dead, .dead, .dead, .dead, .dead] [] [.box [.int .i64]] [.i y1])) (fun (s3 : Seq (Int × (Seq (ByteArray × Int × Unit)) × Int × Unit)) (x4 : Int) (x5 : Int) (x6 : Int) => slices_IndexFunc_api_Hold_api_Hold_l0_ev holds_of_1 n (encSt slices_IndexFunc_api_Hold_api_Hold_l0_t slices_IndexFunc_api_Hold_api_Hold_l0_s slices_IndexFunc_api_Hold_api_Hold_l0_h [.q (.int .i64 (.sl (.str (.int .i64 (.nil))) (.int .i64 (.nil)))) s3, .i x4, .i x5, .i x6]) k) s3 x4 x5 x6 := by kernel_rfl
    have h2 := congrArg (fun r => slices_IndexFunc_api_Hold_api_Hold_l0_step holds_of_1 (fun y1 y2 => k .ret (encSt [.dead, .dead, .dead, .dead, .int .i64, .dead, .dead, .dead, .dead, .dead, .dead, .dead, .dead, .dead, .dead, .dead, .dead, .dead, .dead] [] [.box [.int .i64]] [.i y1, .i y2])) (fun y1 => k (.exit 0) (encSt [.dead, .dead, .dead, .dead, .dead, .dead, .dead, .dead, .dead, .dead, .dead, .dead, .dead, .dead, .dead, .dead, .dead, .dead, .dead] [] [.box [.int .i64]] [.i y1])) r s3 x4 x5 x6) e
    have h3 : slices_IndexFunc_api_Hold_api_Hold_l0_step holds_of_1 (fun y1 y2 => k .ret (encSt [.dead, .dead, .dead, .dead, .int .i64, .dead, .dead, .dead, .dead, .dead, .dead, .dead, .dead, .dead, .dead, .dead, .dead, .dead, .dead] [] [.box [.int .i64]] [.i y1, .i y2])) (fun y1 => k (.exit 0) (encSt [.dead, .dead, .dead, .dead, .dead, .dead, .dead, .dead, .dead, .dead, .dead, .dead, .dead, .dead, .dead, .dead, .dead, .dead, .dead] [] [.box [.int .i64]] [.i y1])) (fun (s3 : Seq (Int × (Seq (ByteArray × Int × Unit)) × Int × Unit)) (x4 : Int) (x5 : Int) (x6 : Int) => slices_IndexFunc_api_Hold_api_Hold_l0_run holds_of_1 (fun y1 y2 => k .ret (encSt [.dead, .dead, .dead, .dead, .int .i64, .dead, .dead, .dead, .dead, .dead, .dead, .dead, .dead, .dead, .dead, .dead, .dead, .dead, .dead] [] [.box [.int .i64]] [.i y1, .i y2])) (fun y1 => k (.exit 0) (encSt [.dead, .dead, .dead, .dead, .dead, .dead, .dead, .dead, .dead, .dead, .dead, .dead, .dead, .dead, .dead, .dead, .dead, .dead, .dead] [] [.box [.int .i64]] [.i y1])) n s3 x4 x5 x6) s3 x4 x5 x6 = slices_IndexFunc_api_Hold_api_Hold_l0_run holds_of_1 (fun y1 y2 => k .ret (encSt [.dead, .dead, .dead, .dead, .int .i64, .dead, .dead, .dead, .dead, .dead, .dead, .dead, .dead, .dead, .dead, .dead, .dead, .dead, .dead] [] [.box [.int .i64]] [.i y1, .i y2])) (fun y1 => k (.exit 0) (encSt [.dead, .dead, .dead, .dead, .dead, .dead, .dead, .dead, .dead, .dead, .dead, .dead, .dead, .dead, .dead, .dead, .dead, .dead, .dead] [] [.box [.int .i64]] [.i y1])) (n + 1) s3 x4 x5 x6 := by kernel_rfl
    exact h1.trans (h2.trans h3)

theorem slices_IndexFunc_api_Hold_api_Hold_l0_ok {α : Type} (holds_of_1 : holds_of_1_T α) : (slices_IndexFunc_api_Hold_api_Hold_l0_spec holds_of_1 : LoopSpec α).ok Go.Proofs.Tryd.prog (envOf (slices_IndexFunc_api_Hold_api_Hold_C holds_of_1) slices_IndexFunc_api_Hold_api_Hold_q slices_IndexFunc_api_Hold_api_Hold_inl 1000 slices_IndexFunc_api_Hold_api_Hold_ann false (slices_IndexFunc_api_Hold_api_Hold_loops holds_of_1) (fun _ => none)) := by
  intro ds k
  have h1 : slices_IndexFunc_api_Hold_api_Hold_l0_ev holds_of_1 1000 (encSt slices_IndexFunc_api_Hold_api_Hold_l0_t slices_IndexFunc_api_Hold_api_Hold_l0_s slices_IndexFunc_api_Hold_api_Hold_l0_h ds) k = slices_IndexFunc_api_Hold_api_Hold_l0_ev holds_of_1 1000 (encSt slices_IndexFunc_api_Hold_api_Hold_l0_t slices_IndexFunc_api_Hold_api_Hold_l0_s slices_IndexFunc_api_Hold_api_Hold_l0_h [.q (.int .i64 (.sl (.str (.int .i64 (.nil))) (.int .i64 (.nil)))) (hdQ (.int .i64 (.sl (.str (.int .i64 (.nil))) (.int .i64 (.nil)))) ds), .i (hdI ds.tail), .i (hdI ds.tail.tail), .i (hdI ds.tail.tail.tail)]) k := by kernel_rfl
  have h2 := slices_IndexFunc_api_Hold_api_Hold_l0_eq holds_of_1 1000 (hdQ (.int .i64 (.sl (.str (.int .i64 (.nil))) (.int .i64 (.nil)))) ds) (hdI ds.tail) (hdI ds.tail.tail) (hdI ds.tail.tail.tail) k
  exact h1.trans h2

theorem slices_IndexFunc_api_Hold_api_Hold_ev {α : Type} (holds_of_1 : holds_of_1_T α) : EvOk (α := α) Go.Proofs.Tryd.prog (envOf (slices_IndexFunc_api_Hold_api_Hold_C holds_of_1) slices_IndexFunc_api_Hold_api_Hold_q slices_IndexFunc_api_Hold_api_Hold_inl 1000 slices_IndexFunc_api_Hold_api_Hold_ann false (slices_IndexFunc_api_Hold_api_Hold_loops holds_of_1) (fun _ => none)) 6 (slices_IndexFunc_api_Hold_api_Hold_sp (slices_IndexFunc_api_Hold_api_Hold_g holds_of_1)) := by intro ds k; kernel_rfl

theorem slices_IndexFunc_api_Hold_api_Hold_ok {α : Type} : (slices_IndexFunc_api_Hold_api_Hold_spec : FunSpec α).ok Go.Proofs.Tryd.prog :=
  FunSpec.ok_of (sp := slices_IndexFunc_api_Hold_api_Hold_spec) (C := slices_IndexFunc_api_Hold_api_Hold_C holds_of_1) (q := slices_IndexFunc_api_Hold_api_Hold_q) (inl := slices_IndexFunc_api_Hold_api_Hold_inl) (N := 1000) (ann := slices_IndexFunc_api_Hold_api_Hold_ann) (fr := false) (D := 6) (l := (slices_IndexFunc_api_Hold_api_Hold_loops holds_of_1)) (hk := (fun _ => none)) (okCons holds_of_1_ok okNil) (lokCons (slices_IndexFunc_api_Hold_api_Hold_l0_ok holds_of_1) lokNil) noHooks (slices_IndexFunc_api_Hold_api_Hold_ev holds_of_1)

end
end Go.Rv.Tryd

set_option linter.unusedVariables false
set_option maxRecDepth 100000
set_option maxHeartbeats 4000000
namespace Go.Rv.Tryd
open Go Go.Rv Go.RowKit
noncomputable section

-- slices.ContainsFunc[[]drayman/api.Hold,drayman/api.Hold]

abbrev slices_ContainsFunc_api_Hold_api_Hold_T (α : Type) : Type := (Seq (Int × (Seq (ByteArray × Int × Unit)) × Int × Unit)) → Int → (Bool → Int → Option α) → Option α

noncomputable def slices_ContainsFunc_api_Hold_api_Hold_g {α : Type} (slices_IndexFunc_api_Hold_api_Hold : slices_IndexFunc_api_Hold_api_Hold_T α) (s1 : Seq (Int × (Seq (ByteArray × Int × Unit)) × Int × Unit)) (x2 : Int) (k : Bool → Int → Option α) : Option α :=
  (slices_IndexFunc_api_Hold_api_Hold s1 x2 fun r3 x4 =>
    (k (decide (r3 ≥ 0)) x4))

noncomputable def slices_ContainsFunc_api_Hold_api_Hold {α : Type} : slices_ContainsFunc_api_Hold_api_Hold_T α := slices_ContainsFunc_api_Hold_api_Hold_g slices_IndexFunc_api_Hold_api_Hold

noncomputable def slices_ContainsFunc_api_Hold_api_Hold_sp {α : Type} (slices_ContainsFunc_api_Hold_api_Hold : slices_ContainsFunc_api_Hold_api_Hold_T α) : FunSpec α := ⟨61, [.sl (.int .i64 (.sl (.str (.int .i64 (.nil))) (.int .i64 (.nil)))), .func (.func 100) [] [.ref 0 0]], [.box [.int .i64]], fun ds k => slices_ContainsFunc_api_Hold_api_Hold (hdQ (.int .i64 (.sl (.str (.int .i64 (.nil))) (.int .i64 (.nil)))) ds) (hdI ds.tail) (fun r1 r2 => k (enc dep (.bool) [.b r1]).1 (encBs [.box [.int .i64]] [.i r2]).1)⟩

noncomputable def slices_ContainsFunc_api_Hold_api_Hold_spec {α : Type} : FunSpec α := slices_ContainsFunc_api_Hold_api_Hold_sp slices_ContainsFunc_api_Hold_api_Hold

noncomputable def slices_ContainsFunc_api_Hold_api_Hold_C {α : Type} (slices_IndexFunc_api_Hold_api_Hold : slices_IndexFunc_api_Hold_api_Hold_T α) : List (FunSpec α) := [slices_IndexFunc_api_Hold_api_Hold_sp slices_IndexFunc_api_Hold_api_Hold]

noncomputable def slices_ContainsFunc_api_Hold_api_Hold_q : FuncId → Bool := fun f => Nat.beq f 63

noncomputable def slices_ContainsFunc_api_Hold_api_Hold_inl : FuncId → Bool := fun f => false

noncomputable def slices_ContainsFunc_api_Hold_api_Hold_ann : FuncId → AnnT := fun f p => ⟨[], [], [], [], 0, [], [], none⟩

noncomputable def slices_ContainsFunc_api_Hold_api_Hold_loops {α : Type} (slices_IndexFunc_api_Hold_api_Hold : slices_IndexFunc_api_Hold_api_Hold_T α) : List (LoopSpec α) := []

theorem slices_ContainsFunc_api_Hold_api_Hold_ev {α : Type} (slices_IndexFunc_api_Hold_api_Hold : slices_IndexFunc_api_Hold_api_Hold_T α) : EvOk (α := α) Go.Proofs.Tryd.prog (envOf (slices_ContainsFunc_api_Hold_api_Hold_C slices_IndexFunc_api_Hold_api_Hold) slices_ContainsFunc_api_Hold_api_Hold_q slices_ContainsFunc_api_Hold_api_Hold_inl 1000 slices_ContainsFunc_api_Hold_api_Hold_ann false (slices_ContainsFunc_api_Hold_api_Hold_loops slices_IndexFunc_api_Hold_api_Hold) (fun _ => none)) 6 (slices_ContainsFunc_api_Hold_api_Hold_sp (slices_ContainsFunc_api_Hold_api_Hold_g slices_IndexFunc_api_Hold_api_Hold)) := by intro ds k; kernel_rfl

theorem slices_ContainsFunc_api_Hold_api_Hold_ok {α : Type} : (slices_ContainsFunc_api_Hold_api_Hold_spec : FunSpec α).ok Go.Proofs.Tryd.prog :=
  FunSpec.ok_of (sp := slices_ContainsFunc_api_Hold_api_Hold_spec) (C := slices_ContainsFunc_api_Hold_api_Hold_C slices_IndexFunc_api_Hold_api_Hold) (q := slices_ContainsFunc_api_Hold_api_Hold_q) (inl := slices_ContainsFunc_api_Hold_api_Hold_inl) (N := 1000) (ann := slices_ContainsFunc_api_Hold_api_Hold_ann) (fr := false) (D := 6) (l := (slices_ContainsFunc_api_Hold_api_Hold_loops slices_IndexFunc_api_Hold_api_Hold)) (hk := (fun _ => none)) (okCons slices_IndexFunc_api_Hold_api_Hold_ok okNil) lokNil noHooks (slices_ContainsFunc_api_Hold_api_Hold_ev slices_IndexFunc_api_Hold_api_Hold)

end
end Go.Rv.Tryd

set_option linter.unusedVariables false
set_option maxRecDepth 100000
set_option maxHeartbeats 4000000
namespace Go.Rv.Tryd
open Go Go.Rv Go.RowKit
noncomputable section

-- drayman/holds.Put$1

abbrev holds_Put_1_T (α : Type) : Type := (Int × (Seq (ByteArray × Int × Unit)) × Int × Unit) → (Int × (Seq (ByteArray × Int × Unit)) × Int × Unit) → (Bool → (Int × (Seq (ByteArray × Int × Unit)) × Int × Unit) → Option α) → Option α

noncomputable def holds_Put_1 {α : Type} (x1 : Int × (Seq (ByteArray × Int × Unit)) × Int × Unit) (x2 : Int × (Seq (ByteArray × Int × Unit)) × Int × Unit) (k : Bool → (Int × (Seq (ByteArray × Int × Unit)) × Int × Unit) → Option α) : Option α :=
  (k (decide (x1.1 > x2.1)) x2)

noncomputable def holds_Put_1_sp {α : Type} (holds_Put_1 : holds_Put_1_T α) : FunSpec α := ⟨64, [.agg [.int .i64, .sl (.str (.int .i64 (.nil))), .int .i64], .ref 0 0], [.box [.int .i64, .sl (.str (.int .i64 (.nil))), .int .i64]], fun ds k => holds_Put_1 (hdI ds, hdQ (.str (.int .i64 (.nil))) ds.tail, hdI ds.tail.tail, ()) (hdI ds.tail.tail.tail, hdQ (.str (.int .i64 (.nil))) ds.tail.tail.tail.tail, hdI ds.tail.tail.tail.tail.tail, ()) (fun r1 r2 => k (enc dep (.bool) [.b r1]).1 (encBs [.box [.int .i64, .sl (.str (.int .i64 (.nil))), .int .i64]] [.i r2.1, .q (.str (.int .i64 (.nil))) r2.2.1, .i r2.2.2.1]).1)⟩

noncomputable def holds_Put_1_spec {α : Type} : FunSpec α := holds_Put_1_sp holds_Put_1

noncomputable def holds_Put_1_C {α : Type} : List (FunSpec α) := []

noncomputable def holds_Put_1_q : FuncId → Bool := fun f => false

noncomputable def holds_Put_1_inl : FuncId → Bool := fun f => false

noncomputable def holds_Put_1_ann : FuncId → AnnT := fun f p => ⟨[], [], [], [], 0, [], [], none⟩

noncomputable def holds_Put_1_loops {α : Type} : List (LoopSpec α) := []

theorem holds_Put_1_ev {α : Type} : EvOk (α := α) Go.Proofs.Tryd.prog (envOf (holds_Put_1_C) holds_Put_1_q holds_Put_1_inl 1000 holds_Put_1_ann false (holds_Put_1_loops) (fun _ => none)) 6 (holds_Put_1_sp (holds_Put_1)) := by intro ds k; kernel_rfl

theorem holds_Put_1_ok {α : Type} : (holds_Put_1_spec : FunSpec α).ok Go.Proofs.Tryd.prog :=
  FunSpec.ok_of (sp := holds_Put_1_spec) (C := holds_Put_1_C) (q := holds_Put_1_q) (inl := holds_Put_1_inl) (N := 1000) (ann := holds_Put_1_ann) (fr := false) (D := 6) (l := (holds_Put_1_loops)) (hk := (fun _ => none)) okNil lokNil noHooks (holds_Put_1_ev)

end
end Go.Rv.Tryd

set_option linter.unusedVariables false
set_option maxRecDepth 100000
set_option maxHeartbeats 4000000
namespace Go.Rv.Tryd
open Go Go.Rv Go.RowKit
noncomputable section

-- slices.IndexFunc[[]drayman/api.Hold,drayman/api.Hold]

abbrev slices_IndexFunc_api_Hold_api_Hold_s1_T (α : Type) : Type := (Seq (Int × (Seq (ByteArray × Int × Unit)) × Int × Unit)) → (Int × (Seq (ByteArray × Int × Unit)) × Int × Unit) → (Int → (Int × (Seq (ByteArray × Int × Unit)) × Int × Unit) → Option α) → Option α

noncomputable def slices_IndexFunc_api_Hold_api_Hold_s1_l0_step {α : Type} (holds_Put_1 : holds_Put_1_T α) (kr : (Int) → (Int × (Seq (ByteArray × Int × Unit)) × Int × Unit) → Option α) (k0 : (Int × (Seq (ByteArray × Int × Unit)) × Int × Unit) → Option α) (rec : (Seq (Int × (Seq (ByteArray × Int × Unit)) × Int × Unit)) → (Int) → (Int) → (Int × (Seq (ByteArray × Int × Unit)) × Int × Unit) → Option α) (s3 : Seq (Int × (Seq (ByteArray × Int × Unit)) × Int × Unit)) (x4 : Int) (x5 : Int) (x6 : Int × (Seq (ByteArray × Int × Unit)) × Int × Unit) : Option α :=
  (cond (decide (x5 < x4))
    (cond ((decide ((0 : Int) ≤ x5)) && (decide (x5 < (s3.n : Int))))
      (holds_Put_1 (s3.g x5.toNat) x6 fun r7 r8 =>
        (cond r7
          (kr x5 r8)
          (rec s3 x4 (IntKind.i64.wrap (x5 + 1)) r8)))
      none)
    (k0 x6))

noncomputable def slices_IndexFunc_api_Hold_api_Hold_s1_l0_run {α : Type} (holds_Put_1 : holds_Put_1_T α) (kr : (Int) → (Int × (Seq (ByteArray × Int × Unit)) × Int × Unit) → Option α) (k0 : (Int × (Seq (ByteArray × Int × Unit)) × Int × Unit) → Option α) : Nat → (Seq (Int × (Seq (ByteArray × Int × Unit)) × Int × Unit)) → (Int) → (Int) → (Int × (Seq (ByteArray × Int × Unit)) × Int × Unit) → Option α
  | 0, _, _, _, _ => none
  | n + 1, s3, x4, x5, x6 => slices_IndexFunc_api_Hold_api_Hold_s1_l0_step holds_Put_1 kr k0 (fun s3 x4 x5 x6 => slices_IndexFunc_api_Hold_api_Hold_s1_l0_run holds_Put_1 kr k0 n s3 x4 x5 x6) s3 x4 x5 x6

noncomputable def slices_IndexFunc_api_Hold_api_Hold_s1_g {α : Type} (holds_Put_1 : holds_Put_1_T α) (s1 : Seq (Int × (Seq (ByteArray × Int × Unit)) × Int × Unit)) (x2 : Int × (Seq (ByteArray × Int × Unit)) × Int × Unit) (k : Int → (Int × (Seq (ByteArray × Int × Unit)) × Int × Unit) → Option α) : Option α :=
  (slices_IndexFunc_api_Hold_api_Hold_s1_l0_run holds_Put_1
    (fun x9 x10 =>
      (k x9 x10))
    (fun x11 =>
      (k (-1) x11))
    1000 s1 (s1.n : Int) 0 x2)

noncomputable def slices_IndexFunc_api_Hold_api_Hold_s1 {α : Type} : slices_IndexFunc_api_Hold_api_Hold_s1_T α := slices_IndexFunc_api_Hold_api_Hold_s1_g holds_Put_1

noncomputable def slices_IndexFunc_api_Hold_api_Hold_s1_sp {α : Type} (slices_IndexFunc_api_Hold_api_Hold_s1 : slices_IndexFunc_api_Hold_api_Hold_s1_T α) : FunSpec α := ⟨63, [.sl (.int .i64 (.sl (.str (.int .i64 (.nil))) (.int .i64 (.nil)))), .func (.func 64) [] [.ref 0 0]], [.box [.int .i64, .sl (.str (.int .i64 (.nil))), .int .i64]], fun ds k => slices_IndexFunc_api_Hold_api_Hold_s1 (hdQ (.int .i64 (.sl (.str (.int .i64 (.nil))) (.int .i64 (.nil)))) ds) (hdI ds.tail, hdQ (.str (.int .i64 (.nil))) ds.tail.tail, hdI ds.tail.tail.tail, ()) (fun r1 r2 => k (enc dep (.int .i64) [.i r1]).1 (encBs [.box [.int .i64, .sl (.str (.int .i64 (.nil))), .int .i64]] [.i r2.1, .q (.str (.int .i64 (.nil))) r2.2.1, .i r2.2.2.1]).1)⟩

noncomputable def slices_IndexFunc_api_Hold_api_Hold_s1_spec {α : Type} : FunSpec α := slices_IndexFunc_api_Hold_api_Hold_s1_sp slices_IndexFunc_api_Hold_api_Hold_s1

noncomputable def slices_IndexFunc_api_Hold_api_Hold_s1_C {α : Type} (holds_Put_1 : holds_Put_1_T α) : List (FunSpec α) := [holds_Put_1_sp holds_Put_1]

noncomputable def slices_IndexFunc_api_Hold_api_Hold_s1_q : FuncId → Bool := fun f => false

noncomputable def slices_IndexFunc_api_Hold_api_Hold_s1_inl : FuncId → Bool := fun f => false

noncomputable def slices_IndexFunc_api_Hold_api_Hold_s1_ann : FuncId → AnnT := fun f p => if f = 63 then (if p = [true, false, true] then ⟨[0, 1, 7, 8], [], [], [4], 0, [], [], none⟩ else ⟨[], [], [], [], 0, [], [], none⟩) else ⟨[], [], [], [], 0, [], [], none⟩

noncomputable def slices_IndexFunc_api_Hold_api_Hold_s1_l0_t : List Sh := [.sl (.int .i64 (.sl (.str (.int .i64 (.nil))) (.int .i64 (.nil)))), .func (.func 64) [] [.ref 0 0], .dead, .dead, .dead, .dead, .dead, .int .i64, .int .i64, .dead, .dead, .dead, .dead, .dead, .dead, .dead, .dead, .dead, .dead]
noncomputable def slices_IndexFunc_api_Hold_api_Hold_s1_l0_s : List (List Sh) := []
noncomputable def slices_IndexFunc_api_Hold_api_Hold_s1_l0_h : List BSh := [.box [.int .i64, .sl (.str (.int .i64 (.nil))), .int .i64]]

noncomputable def slices_IndexFunc_api_Hold_api_Hold_s1_l0_spec {α : Type} (holds_Put_1 : holds_Put_1_T α) : LoopSpec α := ⟨6, 63, [true, false, true], slices_IndexFunc_api_Hold_api_Hold_s1_l0_t, slices_IndexFunc_api_Hold_api_Hold_s1_l0_s, slices_IndexFunc_api_Hold_api_Hold_s1_l0_h, fun ds k => slices_IndexFunc_api_Hold_api_Hold_s1_l0_run holds_Put_1 (fun y1 y2 => k .ret (encSt [.dead, .dead, .dead, .dead, .int .i64, .dead, .dead, .dead, .dead, .dead, .dead, .dead, .dead, .dead, .dead, .dead, .dead, .dead, .dead] [] [.box [.int .i64, .sl (.str (.int .i64 (.nil))), .int .i64]] [.i y1, .i y2.1, .q (.str (.int .i64 (.nil))) y2.2.1, .i y2.2.2.1])) (fun y1 => k (.exit 0) (encSt [.dead, .dead, .dead, .dead, .dead, .dead, .dead, .dead, .dead, .dead, .dead, .dead, .dead, .dead, .dead, .dead, .dead, .dead, .dead] [] [.box [.int .i64, .sl (.str (.int .i64 (.nil))), .int .i64]] [.i y1.1, .q (.str (.int .i64 (.nil))) y1.2.1, .i y1.2.2.1])) 1000 (hdQ (.int .i64 (.sl (.str (.int .i64 (.nil))) (.int .i64 (.nil)))) ds) (hdI ds.tail) (hdI ds.tail.tail) (hdI ds.tail.tail.tail, hdQ (.str (.int .i64 (.nil))) ds.tail.tail.tail.tail, hdI ds.tail.tail.tail.tail.tail, ())⟩

noncomputable def slices_IndexFunc_api_Hold_api_Hold_s1_loops {α : Type} (holds_Put_1 : holds_Put_1_T α) : List (LoopSpec α) := [slices_IndexFunc_api_Hold_api_Hold_s1_l0_spec holds_Put_1]

noncomputable def slices_IndexFunc_api_Hold_api_Hold_s1_l0_ev {α : Type} (holds_Put_1 : holds_Put_1_T α) (n : Nat) (st : St) (k : X → St → Option α) : Option α := loopN (evCode Go.Proofs.Tryd.prog (callD Go.Proofs.Tryd.prog (envOf (slices_IndexFunc_api_Hold_api_Hold_s1_C holds_Put_1) slices_IndexFunc_api_Hold_api_Hold_s1_q slices_IndexFunc_api_Hold_api_Hold_s1_inl 1000 slices_IndexFunc_api_Hold_api_Hold_s1_ann false (slices_IndexFunc_api_Hold_api_Hold_s1_loops holds_Put_1) (fun _ => none)) 6) (((envOf (slices_IndexFunc_api_Hold_api_Hold_s1_C holds_Put_1) slices_IndexFunc_api_Hold_api_Hold_s1_q slices_IndexFunc_api_Hold_api_Hold_s1_inl 1000 slices_IndexFunc_api_Hold_api_Hold_s1_ann false (slices_IndexFunc_api_Hold_api_Hold_s1_loops holds_Put_1) (fun _ => none)) : Env α).L 6 63) 1000 (slices_IndexFunc_api_Hold_api_Hold_s1_ann 63) (false :: [true, false, true]) (loopC Go.Proofs.Tryd.prog 63 [true, false, true])) ((slices_IndexFunc_api_Hold_api_Hold_s1_ann 63 [true, false, true]).head 1) ((slices_IndexFunc_api_Hold_api_Hold_s1_ann 63 [true, false, true]).leave 1) n st k

theorem slices_IndexFunc_api_Hold_api_Hold_s1_l0_eq {α : Type} (holds_Put_1 : holds_Put_1_T α) : ∀ (n : Nat) (s3 : Seq (Int × (Seq (ByteArray × Int × Unit)) × Int × Unit)) (x4 : Int) (x5 : Int) (x6 : Int × (Seq (ByteArray × Int × Unit)) × Int × Unit) (k : X → St → Option α), slices_IndexFunc_api_Hold_api_Hold_s1_l0_ev holds_Put_1 n (encSt slices_IndexFunc_api_Hold_api_Hold_s1_l0_t slices_IndexFunc_api_Hold_api_Hold_s1_l0_s slices_IndexFunc_api_Hold_api_Hold_s1_l0_h [.q (.int .i64 (.sl (.str (.int .i64 (.nil))) (.int .i64 (.nil)))) s3, .i x4, .i x5, .i x6.1, .q (.str (.int .i64 (.nil))) x6.2.1, .i x6.2.2.1]) k = slices_IndexFunc_api_Hold_api_Hold_s1_l0_run holds_Put_1 (fun y1 y2 => k .ret (encSt [.dead, .dead, .dead, .dead, .int .i64, .dead, .dead, .dead, .dead, .dead, .dead, .dead, .dead, .dead, .dead, .dead, .dead, .dead, .dead] [] [.box [.int .i64, .sl (.str (.int .i64 (.nil))), .int .i64]] [.i y1, .i y2.1, .q (.str (.int .i64 (.nil))) y2.2.1, .i y2.2.2.1])) (fun y1 => k (.exit 0) (encSt [.dead, .dead, .dead, .dead, .dead, .dead, .dead, .dead, .dead, .dead, .dead, .dead, .dead, .dead, .dead, .dead, .dead, .dead, .dead] [] [.box [.int .i64, .sl (.str (.int .i64 (.nil))), .int .i64]] [.i y1.1, .q (.str (.int .i64 (.nil))) y1.2.1, .i y1.2.2.1])) n s3 x4 x5 x6 := by
  intro n
  induction n with
  | zero => intros; kernel_rfl
  | succ n ih =>
    intro s3 x4 x5 x6 k
    have e : (fun (s3 : Seq (Int × (Seq (ByteArray × Int × Unit)) × Int × Unit)) (x4 : Int) (x5 : Int) (x6 : Int × (Seq (ByteArray × Int × Unit)) × Int × Unit) => slices_IndexFunc_api_Hold_api_Hold_s1_l0_ev holds_Put_1 n (encSt slices_IndexFunc_api_Hold_api_Hold_s1_l0_t slices_IndexFunc_api_Hold_api_Hold_s1_l0_s slices_IndexFunc_api_Hold_api_Hold_s1_l0_h [.q (.int .i64 (.sl (.str (.int .i64 (.nil))) (.int .i64 (.nil)))) s3, .i x4, .i x5, .i x6.1, .q (.str (.int .i64 (.nil))) x6.2.1, .i x6.2.2.1]) k) = (fun (s3 : Seq (Int × (Seq (ByteArray × Int × Unit)) × Int × Unit)) (x4 : Int) (x5 : Int) (x6 : Int × (Seq (ByteArray × Int × Unit)) × Int × Unit) => slices_IndexFunc_api_Hold_api_Hold_s1_l0_run holds_Put_1 (fun y1 y2 => k .ret (encSt [.dead, .dead, .dead, .dead, .int .i64, .dead, .dead, .dead, .dead, .dead, .dead, .dead, .dead, .dead, .dead, .dead, .dead, .dead, .dead] [] [.box [.int .i64, .sl (.str (.int .i64 (.nil))), .int .i64]] [.i y1, .i y2.1, .q (.str (.int .i64 (.nil))) y2.2.1, .i y2.2.2.1])) (fun y1 => k (.exit 0) (encSt [.dead, .dead, .dead, .dead, .dead, .dead, .dead, .dead, .dead, .dead, .dead, .dead, .dead, .dead, .dead, .dead, .dead, .dead, .dead] [] [.box [.int .i64, .sl (.str (.int .i64 (.nil))), .int .i64]] [.i y1.1, .q (.str (.int .i64 (.nil))) y1.2.1, .i y1.2.2.1])) n s3 x4 x5 x6) := by
      funext s3 x4 x5 x6
      exact ih s3 x4 x5 x6 k
    have h1 : slices_IndexFunc_api_Hold_api_Hold_s1_l0_ev holds_Put_1 (n + 1) (encSt slices_IndexFunc_api_Hold_api_Hold_s1_l0_t slices_IndexFunc_api_Hold_api_Hold_s1_l0_s slices_IndexFunc_api_Hold_api_Hold_s1_l0_h [.q (.int .i64 (.sl (.str (.int .i64 (.nil))) (.int .i64 (.nil)))) s3, .i x4, .i x5, .i x6.1, .q (.str (.int .i64 (.nil))) x6.2.1, .i x6.2.2.1]) k = slices_IndexFunc_api_Hold_api_Hold_s1_l0_step holds_Put_1 (fun y1 y2 => k .ret (encSt [.dead, .dead, .dead, .dead, .int .i64, .dead, .dead, .dead, .dead, .dead, .dead, .dead, .dead, .dead, .dead, .dead, .dead, .dead, .dead] [] [.box [.int .i64, .sl (.str (.int .i64 (.nil))), .int .i64]] [.i y1, .i y2.1, .q (.str (.int .i64 (.nil))) y2.2.1, .i y2.2.2.1])) (fun y1 => k (.exit 0) (encSt [.dead, .dead, .dead, .dead, .dead, .dead, .dead, .dead, .dead, .dead, .dead, .dead, .dead, .dead, .dead, .dead, .dead, .dead, .dead] [] [.box [.int .i64, .sl (.str (.int .i64 (.nil))), .int .i64]] [.i y1.1, .q (.str (.int .i64 (.nil))) y1.2.1, .i y1.2.2.1])) (fun (s3 : Seq (Int × (Seq (ByteArray × Int × Unit)) × Int × Unit)) (x4 : Int) (x5 : Int) (x6 : Int × (Seq (ByteArray × Int × Unit)) × Int × Unit) => slices_IndexFunc_api_Hold_api_Hold_s1_l0_ev holds_Put_1 n (encSt slices_IndexFunc_api_Hold_api_Hold_s1_l0_t slices_IndexFunc_api_Hold_api_Hold_s1_l0_s slices_IndexFunc_api_Hold_api_Hold_s1_l0_h [.q (.int .i64 (.sl (.str (.int .i64 (.nil))) (.int .i64 (.nil)))) s3, .i x4, .i x5, .i x6.1, .q (.str (.int .i64 (.nil))) x6.2.1, .i x6.2.2.1]) k) s3 x4 x5 x6 := by kernel_rfl
    have h2 := congrArg (fun r => slices_IndexFunc_api_Hold_api_Hold_s1_l0_step holds_Put_1 (fun y1 y2 => k .ret (encSt [.dead, .dead, .dead, .dead, .int .i64, .dead, .dead, .dead, .dead, .dead, .dead, .dead, .dead, .dead, .dead, .dead, .dead, .dead, .dead] [] [.box [.int .i64, .sl (.str (.int .i64 (.nil))), .int .i64]] [.i y1, .i y2.1, .q (.str (.int .i64 (.nil))) y2.2.1, .i y2.2.2.1])) (fun y1 => k (.exit 0) (encSt [.dead, .dead, .dead, .dead, .dead, .dead, .dead, .dead, .dead, .dead, .dead, .dead, .dead, .dead, .dead, .dead, .dead, .dead, .dead] [] [.box [.int .i64, .sl (.str (.int .i64 (.nil))), .int .i64]] [.i y1.1, .q (.str (.int .i64 (.nil))) y1.2.1, .i y1.2.2.1])) r s3 x4 x5 x6) e
    have h3 : slices_IndexFunc_api_Hold_api_Hold_s1_l0_step holds_Put_1 (fun y1 y2 => k .ret (encSt [.dead, .dead, .dead, .dead, .int .i64, .dead, .dead, .dead, .dead, .dead, .dead, .dead, .dead, .dead, .dead, .dead, .dead, .dead, .dead] [] [.box [.int .i64, .sl (.str (.int .i64 (.nil))), .int .i64]] [.i y1, .i y2.1, .q (.str (.int .i64 (.nil))) y2.2.1, .i y2.2.2.1])) (fun y1 => k (.exit 0) (encSt [.dead, .dead, .dead, .dead, .dead, .dead, .dead, .dead, .dead, .dead, .dead, .dead, .dead, .dead, .dead, .dead, .dead, .dead, .dead] [] [.box [.int .i64, .sl (.str (.int .i64 (.nil))), .int .i64]] [.i y1.1, .q (.str (.int .i64 (.nil))) y1.2.1, .i y1.2.2.1])) (fun (s3 : Seq (Int × (Seq (ByteArray × Int × Unit)) × Int × Unit)) (x4 : Int) (x5 : Int) (x6 : Int × (Seq (ByteArray × Int × Unit)) × Int × Unit) => slices_IndexFunc_api_Hold_api_Hold_s1_l0_run holds_Put_1 (fun y1 y2 => k .ret (encSt [.dead, .dead, .dead, .dead, .int .i64, .dead, .dead, .dead, .dead, .dead, .dead, .dead, .dead, .dead, .dead, .dead, .dead, .dead, .dead] [] [.box [.int .i64, .sl (.str (.int .i64 (.nil))), .int .i64]] [.i y1, .i y2.1, .q (.str (.int .i64 (.nil))) y2.2.1, .i y2.2.2.1])) (fun y1 => k (.exit 0) (encSt [.dead, .dead, .dead, .dead, .dead, .dead, .dead, .dead, .dead, .dead, .dead, .dead, .dead, .dead, .dead, .dead, .dead, .dead, .dead] [] [.box [.int .i64, .sl (.str (.int .i64 (.nil))), .int .i64]] [.i y1.1, .q (.str (.int .i64 (.nil))) y1.2.1, .i y1.2.2.1])) n s3 x4 x5 x6) s3 x4 x5 x6 = slices_IndexFunc_api_Hold_api_Hold_s1_l0_run holds_Put_1 (fun y1 y2 => k .ret (encSt [.dead, .dead, .dead, .dead, .int .i64, .dead, .dead, .dead, .dead, .dead, .dead, .dead, .dead, .dead, .dead, .dead, .dead, .dead, .dead] [] [.box [.int .i64, .sl (.str (.int .i64 (.nil))), .int .i64]] [.i y1, .i y2.1, .q (.str (.int .i64 (.nil))) y2.2.1, .i y2.2.2.1])) (fun y1 => k (.exit 0) (encSt [.dead, .dead, .dead, .dead, .dead, .dead, .dead, .dead, .dead, .dead, .dead, .dead, .dead, .dead, .dead, .dead, .dead, .dead, .dead] [] [.box [.int .i64, .sl (.str (.int .i64 (.nil))), .int .i64]] [.i y1.1, .q (.str (.int .i64 (.nil))) y1.2.1, .i y1.2.2.1])) (n + 1) s3 x4 x5 x6 := by kernel_rfl
    exact h1.trans (h2.trans h3)

theorem slices_IndexFunc_api_Hold_api_Hold_s1_l0_ok {α : Type} (holds_Put_1 : holds_Put_1_T α) : (slices_IndexFunc_api_Hold_api_Hold_s1_l0_spec holds_Put_1 : LoopSpec α).ok Go.Proofs.Tryd.prog (envOf (slices_IndexFunc_api_Hold_api_Hold_s1_C holds_Put_1) slices_IndexFunc_api_Hold_api_Hold_s1_q slices_IndexFunc_api_Hold_api_Hold_s1_inl 1000 slices_IndexFunc_api_Hold_api_Hold_s1_ann false (slices_IndexFunc_api_Hold_api_Hold_s1_loops holds_Put_1) (fun _ => none)) := by
  intro ds k
  have h1 : slices_IndexFunc_api_Hold_api_Hold_s1_l0_ev holds_Put_1 1000 (encSt slices_IndexFunc_api_Hold_api_Hold_s1_l0_t slices_IndexFunc_api_Hold_api_Hold_s1_l0_s slices_IndexFunc_api_Hold_api_Hold_s1_l0_h ds) k = slices_IndexFunc_api_Hold_api_Hold_s1_l0_ev holds_Put_1 1000 (encSt slices_IndexFunc_api_Hold_api_Hold_s1_l0_t slices_IndexFunc_api_Hold_api_Hold_s1_l0_s slices_IndexFunc_api_Hold_api_Hold_s1_l0_h [.q (.int .i64 (.sl (.str (.int .i64 (.nil))) (.int .i64 (.nil)))) (hdQ (.int .i64 (.sl (.str (.int .i64 (.nil))) (.int .i64 (.nil)))) ds), .i (hdI ds.tail), .i (hdI ds.tail.tail), .i ((hdI ds.tail.tail.tail, hdQ (.str (.int .i64 (.nil))) ds.tail.tail.tail.tail, hdI ds.tail.tail.tail.tail.tail, ()).1), .q (.str (.int .i64 (.nil))) ((hdI ds.tail.tail.tail, hdQ (.str (.int .i64 (.nil))) ds.tail.tail.tail.tail, hdI ds.tail.tail.tail.tail.tail, ()).2.1), .i ((hdI ds.tail.tail.tail, hdQ (.str (.int .i64 (.nil))) ds.tail.tail.tail.tail, hdI ds.tail.tail.tail.tail.tail, ()).2.2.1)]) k := by kernel_rfl
  have h2 := slices_IndexFunc_api_Hold_api_Hold_s1_l0_eq holds_Put_1 1000 (hdQ (.int .i64 (.sl (.str (.int .i64 (.nil))) (.int .i64 (.nil)))) ds) (hdI ds.tail) (hdI ds.tail.tail) (hdI ds.tail.tail.tail, hdQ (.str (.int .i64 (.nil))) ds.tail.tail.tail.tail, hdI ds.tail.tail.tail.tail.tail, ()) k
  exact h1.trans h2

theorem slices_IndexFunc_api_Hold_api_Hold_s1_ev {α : Type} (holds_Put_1 : holds_Put_1_T α) : EvOk (α := α) Go.Proofs.Tryd.prog (envOf (slices_IndexFunc_api_Hold_api_Hold_s1_C holds_Put_1) slices_IndexFunc_api_Hold_api_Hold_s1_q slices_IndexFunc_api_Hold_api_Hold_s1_inl 1000 slices_IndexFunc_api_Hold_api_Hold_s1_ann false (slices_IndexFunc_api_Hold_api_Hold_s1_loops holds_Put_1) (fun _ => none)) 6 (slices_IndexFunc_api_Hold_api_Hold_s1_sp (slices_IndexFunc_api_Hold_api_Hold_s1_g holds_Put_1)) := by intro ds k; kernel_rfl

theorem slices_IndexFunc_api_Hold_api_Hold_s1_ok {α : Type} : (slices_IndexFunc_api_Hold_api_Hold_s1_spec : FunSpec α).ok Go.Proofs.Tryd.prog :=
  FunSpec.ok_of (sp := slices_IndexFunc_api_Hold_api_Hold_s1_spec) (C := slices_IndexFunc_api_Hold_api_Hold_s1_C holds_Put_1) (q := slices_IndexFunc_api_Hold_api_Hold_s1_q) (inl := slices_IndexFunc_api_Hold_api_Hold_s1_inl) (N := 1000) (ann := slices_IndexFunc_api_Hold_api_Hold_s1_ann) (fr := false) (D := 6) (l := (slices_IndexFunc_api_Hold_api_Hold_s1_loops holds_Put_1)) (hk := (fun _ => none)) (okCons holds_Put_1_ok okNil) (lokCons (slices_IndexFunc_api_Hold_api_Hold_s1_l0_ok holds_Put_1) lokNil) noHooks (slices_IndexFunc_api_Hold_api_Hold_s1_ev holds_Put_1)

end
end Go.Rv.Tryd

set_option linter.unusedVariables false
set_option maxRecDepth 100000
set_option maxHeartbeats 4000000
namespace Go.Rv.Tryd
open Go Go.Rv Go.RowKit
noncomputable section

-- slices.Clone[[]drayman/api.Line,drayman/api.Line]

abbrev slices_Clone_api_Line_api_Line_T (α : Type) : Type := (Seq (ByteArray × Int × Unit)) → ((Seq (ByteArray × Int × Unit)) → Option α) → Option α

noncomputable def slices_Clone_api_Line_api_Line {α : Type} (s1 : Seq (ByteArray × Int × Unit)) (k : (Seq (ByteArray × Int × Unit)) → Option α) : Option α :=
  (cond s1.nl
    (k (⟨true, 0, (fun _ => (ByteArray.empty, 0, ()))⟩ : Seq (ByteArray × Int × Unit)))
    (cond (decide (((0 + s1.n)) * 24 ≤ 140737488355328))
      (k (⟨false, (0 + s1.n), (tApp 0 (tSel [] (ByteArray.empty, 0, ())) s1.g)⟩ : Seq (ByteArray × Int × Unit)))
      none))

noncomputable def slices_Clone_api_Line_api_Line_sp {α : Type} (slices_Clone_api_Line_api_Line : slices_Clone_api_Line_api_Line_T α) : FunSpec α := ⟨102, [.sl (.str (.int .i64 (.nil)))], [], fun ds k => slices_Clone_api_Line_api_Line (hdQ (.str (.int .i64 (.nil))) ds) (fun q1 => k (enc dep (.own 0) []).1 (encBs [.row true (.str (.int .i64 (.nil)))] [.q (.str (.int .i64 (.nil))) q1]).1)⟩

noncomputable def slices_Clone_api_Line_api_Line_spec {α : Type} : FunSpec α := slices_Clone_api_Line_api_Line_sp slices_Clone_api_Line_api_Line

noncomputable def slices_Clone_api_Line_api_Line_C {α : Type} : List (FunSpec α) := []

noncomputable def slices_Clone_api_Line_api_Line_q : FuncId → Bool := fun f => false

noncomputable def slices_Clone_api_Line_api_Line_inl : FuncId → Bool := fun f => false

noncomputable def slices_Clone_api_Line_api_Line_ann : FuncId → AnnT := fun f p => ⟨[], [], [], [], 0, [], [], none⟩

noncomputable def slices_Clone_api_Line_api_Line_loops {α : Type} : List (LoopSpec α) := []

theorem slices_Clone_api_Line_api_Line_ev {α : Type} : EvOk (α := α) Go.Proofs.Tryd.prog (envOf (slices_Clone_api_Line_api_Line_C) slices_Clone_api_Line_api_Line_q slices_Clone_api_Line_api_Line_inl 1000 slices_Clone_api_Line_api_Line_ann false (slices_Clone_api_Line_api_Line_loops) (fun _ => none)) 6 (slices_Clone_api_Line_api_Line_sp (slices_Clone_api_Line_api_Line)) := by intro ds k; kernel_rfl

theorem slices_Clone_api_Line_api_Line_ok {α : Type} : (slices_Clone_api_Line_api_Line_spec : FunSpec α).ok Go.Proofs.Tryd.prog :=
  FunSpec.ok_of (sp := slices_Clone_api_Line_api_Line_spec) (C := slices_Clone_api_Line_api_Line_C) (q := slices_Clone_api_Line_api_Line_q) (inl := slices_Clone_api_Line_api_Line_inl) (N := 1000) (ann := slices_Clone_api_Line_api_Line_ann) (fr := false) (D := 6) (l := (slices_Clone_api_Line_api_Line_loops)) (hk := (fun _ => none)) okNil lokNil noHooks (slices_Clone_api_Line_api_Line_ev)

end
end Go.Rv.Tryd

set_option linter.unusedVariables false
set_option maxRecDepth 100000
set_option maxHeartbeats 4000000
namespace Go.Rv.Tryd
open Go Go.Rv Go.RowKit
noncomputable section

-- drayman/holds.own

abbrev holds_own_T (α : Type) : Type := (Int × (Seq (ByteArray × Int × Unit)) × Int × Unit) → (Int → Int → (Seq (ByteArray × Int × Unit)) → Option α) → Option α

noncomputable def holds_own_g {α : Type} (slices_Clone_api_Line_api_Line : slices_Clone_api_Line_api_Line_T α) (h1 : Int × (Seq (ByteArray × Int × Unit)) × Int × Unit) (k : Int → Int → (Seq (ByteArray × Int × Unit)) → Option α) : Option α :=
  (slices_Clone_api_Line_api_Line h1.2.1 fun r2 =>
    (k h1.1 h1.2.2.1 r2))

noncomputable def holds_own {α : Type} : holds_own_T α := holds_own_g slices_Clone_api_Line_api_Line

noncomputable def holds_own_sp {α : Type} (holds_own : holds_own_T α) : FunSpec α := ⟨66, [.agg [.int .i64, .sl (.str (.int .i64 (.nil))), .int .i64]], [], fun ds k => holds_own (hdI ds, hdQ (.str (.int .i64 (.nil))) ds.tail, hdI ds.tail.tail, ()) (fun r1 r2 q3 => k (enc dep (.agg [.int .i64, .own 0, .int .i64]) [.i r1, .i r2]).1 (encBs [.row true (.str (.int .i64 (.nil)))] [.q (.str (.int .i64 (.nil))) q3]).1)⟩

noncomputable def holds_own_spec {α : Type} : FunSpec α := holds_own_sp holds_own

noncomputable def holds_own_C {α : Type} (slices_Clone_api_Line_api_Line : slices_Clone_api_Line_api_Line_T α) : List (FunSpec α) := [slices_Clone_api_Line_api_Line_sp slices_Clone_api_Line_api_Line]

noncomputable def holds_own_q : FuncId → Bool := fun f => false

noncomputable def holds_own_inl : FuncId → Bool := fun f => false

noncomputable def holds_own_ann : FuncId → AnnT := fun f p => ⟨[], [], [], [], 0, [], [], none⟩

noncomputable def holds_own_loops {α : Type} (slices_Clone_api_Line_api_Line : slices_Clone_api_Line_api_Line_T α) : List (LoopSpec α) := []

theorem holds_own_ev {α : Type} (slices_Clone_api_Line_api_Line : slices_Clone_api_Line_api_Line_T α) : EvOk (α := α) Go.Proofs.Tryd.prog (envOf (holds_own_C slices_Clone_api_Line_api_Line) holds_own_q holds_own_inl 1000 holds_own_ann false (holds_own_loops slices_Clone_api_Line_api_Line) (fun _ => none)) 6 (holds_own_sp (holds_own_g slices_Clone_api_Line_api_Line)) := by intro ds k; kernel_rfl

theorem holds_own_ok {α : Type} : (holds_own_spec : FunSpec α).ok Go.Proofs.Tryd.prog :=
  FunSpec.ok_of (sp := holds_own_spec) (C := holds_own_C slices_Clone_api_Line_api_Line) (q := holds_own_q) (inl := holds_own_inl) (N := 1000) (ann := holds_own_ann) (fr := false) (D := 6) (l := (holds_own_loops slices_Clone_api_Line_api_Line)) (hk := (fun _ => none)) (okCons slices_Clone_api_Line_api_Line_ok okNil) lokNil noHooks (holds_own_ev slices_Clone_api_Line_api_Line)

end
end Go.Rv.Tryd
