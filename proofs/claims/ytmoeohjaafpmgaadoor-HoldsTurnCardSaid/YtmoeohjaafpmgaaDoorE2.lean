/- What the functions of the program compute, each with the proof that its code computes it. Written by a program (rvp2.py). -/
import Derived.Test.YtmoeohjaafpmgaaDoorProg
import Derived.Test.YtmoeohjaafpmgaaDoorRvP
import Derived.Test.YtmoeohjaafpmgaaDoorFx
import Derived.Test.YtmoeohjaafpmgaaDoorUtf8
import Derived.Test.YtmoeohjaafpmgaaDoorE1

set_option linter.unusedVariables false
set_option maxRecDepth 100000
set_option maxHeartbeats 4000000
namespace Go.Rv.Tryd
open Go Go.Rv Go.RowKit
noncomputable section

-- drayman/draymanref11.Fit

abbrev draymanref11_Fit_T (α : Type) : Type := (Seq (ByteArray × Int × Unit)) → (Bool → Option α) → Option α

noncomputable def draymanref11_Fit_l0_step {α : Type} (draymanref02_Fit : draymanref02_Fit_T α) (kr : (Bool) → Option α) (k0 : Option α) (rec : (Seq (ByteArray × Int × Unit)) → (Int) → Option α) (l2 : Seq (ByteArray × Int × Unit)) (i3 : Int) : Option α :=
  (cond (decide (i3 < (l2.n : Int)))
    (cond (((decide ((0 : Int) ≤ i3)) && (decide (i3 < (l2.n : Int)))) && ((decide ((0 : Int) ≤ i3)) && (decide (i3 < (l2.n : Int)))))
      (draymanref02_Fit ((l2.g i3.toNat).1) fun r4 =>
        (cond (!(!r4))
          (cond (((decide ((0 : Int) ≤ i3)) && (decide (i3 < (l2.n : Int)))) && ((decide ((0 : Int) ≤ i3)) && (decide (i3 < (l2.n : Int)))))
            (cond (!(decide ((l2.g i3.toNat).2.1 < 1)))
              (cond (((decide ((0 : Int) ≤ i3)) && (decide (i3 < (l2.n : Int)))) && ((decide ((0 : Int) ≤ i3)) && (decide (i3 < (l2.n : Int)))))
                (cond (!(decide ((l2.g i3.toNat).2.1 > 1048576)))
                  (cond (decide (i3 > 0))
                    (cond (((decide ((0 : Int) ≤ i3)) && (decide (i3 < (l2.n : Int)))) && ((decide ((0 : Int) ≤ i3)) && (decide (i3 < (l2.n : Int)))))
                      (cond (((decide ((0 : Int) ≤ (IntKind.i64.wrap (i3 - 1)))) && (decide ((IntKind.i64.wrap (i3 - 1)) < (l2.n : Int)))) && ((decide ((0 : Int) ≤ (IntKind.i64.wrap (i3 - 1)))) && (decide ((IntKind.i64.wrap (i3 - 1)) < (l2.n : Int)))))
                        (cond ((Op.bytesLess (l2.g i3.toNat).1.toList (l2.g (IntKind.i64.wrap (i3 - 1)).toNat).1.toList) || ((l2.g i3.toNat).1.toList == (l2.g (IntKind.i64.wrap (i3 - 1)).toNat).1.toList))
                          (kr false)
                          (rec l2 (IntKind.i64.wrap (i3 + 1))))
                        none)
                      none)
                    (rec l2 (IntKind.i64.wrap (i3 + 1))))
                  (kr false))
                none)
              (kr false))
            none)
          (kr false)))
      none)
    (k0))

noncomputable def draymanref11_Fit_l0_run {α : Type} (draymanref02_Fit : draymanref02_Fit_T α) (kr : (Bool) → Option α) (k0 : Option α) : Nat → (Seq (ByteArray × Int × Unit)) → (Int) → Option α
  | 0, _, _ => none
  | n + 1, l2, i3 => draymanref11_Fit_l0_step draymanref02_Fit kr k0 (fun l2 i3 => draymanref11_Fit_l0_run draymanref02_Fit kr k0 n l2 i3) l2 i3

noncomputable def draymanref11_Fit_g {α : Type} (draymanref02_Fit : draymanref02_Fit_T α) (l1 : Seq (ByteArray × Int × Unit)) (k : Bool → Option α) : Option α :=
  (cond (decide ((l1.n : Int) > 4))
    (k false)
    (draymanref11_Fit_l0_run draymanref02_Fit
      (fun x5 =>
        (k x5))
      ((k true))
      1000 l1 0))

noncomputable def draymanref11_Fit {α : Type} : draymanref11_Fit_T α := draymanref11_Fit_g draymanref02_Fit

noncomputable def draymanref11_Fit_sp {α : Type} (draymanref11_Fit : draymanref11_Fit_T α) : FunSpec α := ⟨103, [.sl (.str (.int .i64 (.nil)))], [], fun ds k => draymanref11_Fit (hdQ (.str (.int .i64 (.nil))) ds) (fun r1 => k (enc dep (.bool) [.b r1]).1 [])⟩

noncomputable def draymanref11_Fit_spec {α : Type} : FunSpec α := draymanref11_Fit_sp draymanref11_Fit

noncomputable def draymanref11_Fit_C {α : Type} (draymanref02_Fit : draymanref02_Fit_T α) : List (FunSpec α) := [draymanref02_Fit_sp draymanref02_Fit]

noncomputable def draymanref11_Fit_q : FuncId → Bool := fun f => Nat.beq f 53

noncomputable def draymanref11_Fit_inl : FuncId → Bool := fun f => false

noncomputable def draymanref11_Fit_ann : FuncId → AnnT := fun f p => if f = 103 then (if p = [true, false, true, true] then ⟨[0, 3], [], [], [2], 0, [], [], none⟩ else ⟨[], [], [], [], 0, [], [], none⟩) else ⟨[], [], [], [], 0, [], [], none⟩

noncomputable def draymanref11_Fit_l0_t : List Sh := [.sl (.str (.int .i64 (.nil))), .dead, .dead, .int .i64, .dead, .dead, .dead, .dead, .dead, .dead, .dead, .dead, .dead, .dead, .dead, .dead, .dead, .dead, .dead, .dead, .dead, .dead, .dead, .dead, .dead, .dead, .dead, .dead, .dead, .dead, .dead, .dead, .dead, .dead, .dead, .dead, .dead, .dead, .dead, .dead, .dead, .dead, .dead, .dead, .dead, .dead, .dead, .dead, .dead, .dead, .dead, .dead, .dead, .dead]
noncomputable def draymanref11_Fit_l0_s : List (List Sh) := []
noncomputable def draymanref11_Fit_l0_h : List BSh := []

noncomputable def draymanref11_Fit_l0_spec {α : Type} (draymanref02_Fit : draymanref02_Fit_T α) : LoopSpec α := ⟨6, 103, [true, false, true, true], draymanref11_Fit_l0_t, draymanref11_Fit_l0_s, draymanref11_Fit_l0_h, fun ds k => draymanref11_Fit_l0_run draymanref02_Fit (fun y1 => k .ret (encSt [.dead, .dead, .bool, .dead, .dead, .dead, .dead, .dead, .dead, .dead, .dead, .dead, .dead, .dead, .dead, .dead, .dead, .dead, .dead, .dead, .dead, .dead, .dead, .dead, .dead, .dead, .dead, .dead, .dead, .dead, .dead, .dead, .dead, .dead, .dead, .dead, .dead, .dead, .dead, .dead, .dead, .dead, .dead, .dead, .dead, .dead, .dead, .dead, .dead, .dead, .dead, .dead, .dead, .dead] [] [] [.b y1])) (k (.exit 0) (encSt [.dead, .dead, .dead, .dead, .dead, .dead, .dead, .dead, .dead, .dead, .dead, .dead, .dead, .dead, .dead, .dead, .dead, .dead, .dead, .dead, .dead, .dead, .dead, .dead, .dead, .dead, .dead, .dead, .dead, .dead, .dead, .dead, .dead, .dead, .dead, .dead, .dead, .dead, .dead, .dead, .dead, .dead, .dead, .dead, .dead, .dead, .dead, .dead, .dead, .dead, .dead, .dead, .dead, .dead] [] [] [])) 1000 (hdQ (.str (.int .i64 (.nil))) ds) (hdI ds.tail)⟩

noncomputable def draymanref11_Fit_loops {α : Type} (draymanref02_Fit : draymanref02_Fit_T α) : List (LoopSpec α) := [draymanref11_Fit_l0_spec draymanref02_Fit]

noncomputable def draymanref11_Fit_l0_ev {α : Type} (draymanref02_Fit : draymanref02_Fit_T α) (n : Nat) (st : St) (k : X → St → Option α) : Option α := loopN (evCode Go.Proofs.Tryd.prog (callD Go.Proofs.Tryd.prog (envOf (draymanref11_Fit_C draymanref02_Fit) draymanref11_Fit_q draymanref11_Fit_inl 1000 draymanref11_Fit_ann false (draymanref11_Fit_loops draymanref02_Fit) (fun _ => none)) 6) (((envOf (draymanref11_Fit_C draymanref02_Fit) draymanref11_Fit_q draymanref11_Fit_inl 1000 draymanref11_Fit_ann false (draymanref11_Fit_loops draymanref02_Fit) (fun _ => none)) : Env α).L 6 103) 1000 (draymanref11_Fit_ann 103) (false :: [true, false, true, true]) (loopC Go.Proofs.Tryd.prog 103 [true, false, true, true])) ((draymanref11_Fit_ann 103 [true, false, true, true]).head 0) ((draymanref11_Fit_ann 103 [true, false, true, true]).leave 0) n st k

theorem draymanref11_Fit_l0_eq {α : Type} (draymanref02_Fit : draymanref02_Fit_T α) : ∀ (n : Nat) (l2 : Seq (ByteArray × Int × Unit)) (i3 : Int) (k : X → St → Option α), draymanref11_Fit_l0_ev draymanref02_Fit n (encSt draymanref11_Fit_l0_t draymanref11_Fit_l0_s draymanref11_Fit_l0_h [.q (.str (.int .i64 (.nil))) l2, .i i3]) k = draymanref11_Fit_l0_run draymanref02_Fit (fun y1 => k .ret (encSt [.dead, .dead, .bool, .dead, .dead, .dead, .dead, .dead, .dead, .dead, .dead, .dead, .dead, .dead, .dead, .dead, .dead, .dead, .dead, .dead, .dead, .dead, .dead, .dead, .dead, .dead, .dead, .dead, .dead, .dead, .dead, .dead, .dead, .dead, .dead, .dead, .dead, .dead, .dead, .dead, .dead, .dead, .dead, .dead, .dead, .dead, .dead, .dead, .dead, .dead, .dead, .dead, .dead, .dead] [] [] [.b y1])) (k (.exit 0) (encSt [.dead, .dead, .dead, .dead, .dead, .dead, .dead, .dead, .dead, .dead, .dead, .dead, .dead, .dead, .dead, .dead, .dead, .dead, .dead, .dead, .dead, .dead, .dead, .dead, .dead, .dead, .dead, .dead, .dead, .dead, .dead, .dead, .dead, .dead, .dead, .dead, .dead, .dead, .dead, .dead, .dead, .dead, .dead, .dead, .dead, .dead, .dead, .dead, .dead, .dead, .dead, .dead, .dead, .dead] [] [] [])) n l2 i3 := by
  intro n
  induction n with
  | zero => intros; kernel_rfl
  | succ n ih =>
    intro l2 i3 k
    have e : (fun (l2 : Seq (ByteArray × Int × Unit)) (i3 : Int) => draymanref11_Fit_l0_ev draymanref02_Fit n (encSt draymanref11_Fit_l0_t draymanref11_Fit_l0_s draymanref11_Fit_l0_h [.q (.str (.int .i64 (.nil))) l2, .i i3]) k) = (fun (l2 : Seq (ByteArray × Int × Unit)) (i3 : Int) => draymanref11_Fit_l0_run draymanref02_Fit (fun y1 => k .ret (encSt [.dead, .dead, .bool, .dead, .dead, .dead, .dead, .dead, .dead, .dead, .dead, .dead, .dead, .dead, .dead, .dead, .dead, .dead, .dead, .dead, .dead, .dead, .dead, .dead, .dead, .dead, .dead, .dead, .dead, .dead, .dead, .dead, .dead, .dead, .dead, .dead, .dead, .dead, .dead, .dead, .dead, .dead, .dead, .dead, .dead, .dead, .dead, .dead, .dead, .dead, .dead, .dead, .dead, .dead] [] [] [.b y1])) (k (.exit 0) (encSt [.dead, .dead, .dead, .dead, .dead, .dead, .dead, .dead, .dead, .dead, .dead, .dead, .dead, .dead, .dead, .dead, .dead, .dead, .dead, .dead, .dead, .dead, .dead, .dead, .dead, .dead, .dead, .dead, .dead, .dead, .dead, .dead, .dead, .dead, .dead, .dead, .dead, .dead, .dead, .dead, .dead, .dead, .dead, .dead, .dead, .dead, .dead, .dead, .dead, .dead, .dead, .dead, .dead, .dead] [] [] [])) n l2 i3) := by
      funext l2 i3
      exact ih l2 i3 k
    have h1 : draymanref11_Fit_l0_ev draymanref02_Fit (n + 1) (encSt draymanref11_Fit_l0_t draymanref11_Fit_l0_s draymanref11_Fit_l0_h [.q (.str (.int .i64 (.nil))) l2, .i i3]) k = draymanref11_Fit_l0_step draymanref02_Fit (fun y1 => k .ret (encSt [.dead, .dead, .bool, .dead, .dead, .dead, .dead, .dead, .dead, .dead, .dead, .dead, .dead, .dead, .dead, .dead, .dead, .dead, .dead, .dead, .dead, .dead, .dead, .dead, .dead, .dead, .dead, .dead, .dead, .dead, .dead, .dead, .dead, .dead, .dead, .dead, .dead, .dead, .dead, .dead, .dead, .dead, .dead, .dead, .dead, .dead, .dead, .dead, .dead, .dead, .dead, .dead, .dead, .dead] [] [] [.b y1])) (k (.exit 0) (encSt [.dead, .dead, .dead, .dead, .dead, .dead, .dead, .dead, .dead, .dead, .dead, .dead, .dead, .dead, .dead, .dead, .dead, .dead, .dead, .dead, .dead, .dead, .dead, .dead, .dead, .dead, .dead, .dead, .dead, .dead, .dead, .dead, .dead, .dead, .dead, .dead, .dead, .dead, .dead, .dead, .dead, .dead, .dead, .dead, .dead, .dead, .dead, .dead, .dead, .dead, .dead, .dead, .dead, .dead] [] [] [])) (fun (l2 : Seq (ByteArray × Int × Unit)) (i3 : Int) => draymanref11_Fit_l0_ev draymanref02_Fit n (encSt draymanref11_Fit_l0_t draymanref11_Fit_l0_s draymanref11_Fit_l0_h [.q (.str (.int .i64 (.nil))) l2, .i i3]) k) l2 i3 := by kernel_rfl
    have h2 := congrArg (fun r => draymanref11_Fit_l0_step draymanref02_Fit (fun y1 => k .ret (encSt [.dead, .dead, .bool, .dead, .dead, .dead, .dead, .dead, .dead, .dead, .dead, .dead, .dead, .dead, .dead, .dead, .dead, .dead, .dead, .dead, .dead, .dead, .dead, .dead, .dead, .dead, .dead, .dead, .dead, .dead, .dead, .dead, .dead, .dead, .dead, .dead, .dead, .dead, .dead, .dead, .dead, .dead, .dead, .dead, .dead, .dead, .dead, .dead, .dead, .dead, .dead, .dead, .dead, .dead] [] [] [.b y1])) (k (.exit 0) (encSt [.dead, .dead, .dead, .dead, .dead, .dead, .dead, .dead, .dead, .dead, .dead, .dead, .dead, .dead, .dead, .dead, .dead, .dead, .dead, .dead, .dead, .dead, .dead, .dead, .dead, .dead, .dead, .dead, .dead, .dead, .dead, .dead, .dead, .dead, .dead, .dead, .dead, .dead, .dead, .dead, .dead, .dead, .dead, .dead, .dead, .dead, .dead, .dead, .dead, .dead, .dead, .dead, .dead, .dead] [] [] [])) r l2 i3) e
    have h3 : draymanref11_Fit_l0_step draymanref02_Fit (fun y1 => k .ret (encSt [.dead, .dead, .bool, .dead, .dead, .dead, .dead, .dead, .dead, .dead, .dead, .dead, .dead, .dead, .dead, .dead, .dead, .dead, .dead, .dead, .dead, .dead, .dead, .dead, .dead, .dead, .dead, .dead, .dead, .dead, .dead, .dead, .dead, .dead, .dead, .dead, .dead, .dead, .dead, .dead, .dead, .dead, .dead, .dead, .dead, .dead, .dead, .dead, .dead, .dead, .dead, .dead, .dead, .dead] [] [] [.b y1])) (k (.exit 0) (encSt [.dead, .dead, .dead, .dead, .dead, .dead, .dead, .dead, .dead, .dead, .dead, .dead, .dead, .dead, .dead, .dead, .dead, .dead, .dead, .dead, .dead, .dead, .dead, .dead, .dead, .dead, .dead, .dead, .dead, .dead, .dead, .dead, .dead, .dead, .dead, .dead, .dead, .dead, .dead, .dead, .dead, .dead, .dead, .dead, .dead, .dead, .dead, .dead, .dead, .dead, .dead, .dead, .dead, .dead] [] [] [])) (fun (l2 : Seq (ByteArray × Int × Unit)) (i3 : Int) => draymanref11_Fit_l0_run draymanref02_Fit (fun y1 => k .ret (encSt [.dead, .dead, .bool, .dead, .dead, .dead, .dead, .dead, .dead, .dead, .dead, .dead, .dead, .dead, .dead, .dead, .dead, .dead, .dead, .dead, .dead, .dead, .dead, .dead, .dead, .dead, .dead, .dead, .dead, .dead, .dead, .dead, .dead, .dead, .dead, .dead, .dead, .dead, .dead, .dead, .dead, .dead, .dead, .dead, .dead, .dead, .dead, .dead, .dead, .dead, .dead, .dead, .dead, .dead] [] [] [.b y1])) (k (.exit 0) (encSt [.dead, .dead, .dead, .dead, .dead, .dead, .dead, .dead, .dead, .dead, .dead, .dead, .dead, .dead, .dead, .dead, .dead, .dead, .dead, .dead, .dead, .dead, .dead, .dead, .dead, .dead, .dead, .dead, .dead, .dead, .dead, .dead, .dead, .dead, .dead, .dead, .dead, .dead, .dead, .dead, .dead, .dead, .dead, .dead, .dead, .dead, .dead, .dead, .dead, .dead, .dead, .dead, .dead, .dead] [] [] [])) n l2 i3) l2 i3 = draymanref11_Fit_l0_run draymanref02_Fit (fun y1 => k .ret (encSt [.dead, .dead, .bool, .dead, .dead, .dead, .dead, .dead, .dead, .dead, .dead, .dead, .dead, .dead, .dead, .dead, .dead, .dead, .dead, .dead, .dead, .dead, .dead, .dead, .dead, .dead, .dead, .dead, .dead, .dead, .dead, .dead, .dead, .dead, .dead, .dead, .dead, .dead, .dead, .dead, .dead, .dead, .dead, .dead, .dead, .dead, .dead, .dead, .dead, .dead, .dead, .dead, .dead, .dead] [] [] [.b y1])) (k (.exit 0) (encSt [.dead, .dead, .dead, .dead, .dead, .dead, .dead, .dead, .dead, .dead, .dead, .dead, .dead, .dead, .dead, .dead, .dead, .dead, .dead, .dead, .dead, .dead, .dead, .dead, .dead, .dead, .dead, .dead, .dead, .dead, .dead, .dead, .dead, .dead, .dead, .dead, .dead, .dead, .dead, .dead, .dead, .dead, .dead, .dead, .dead, .dead, .dead, .dead, .dead, .dead, .dead, .dead, .dead, .dead] [] [] [])) (n + 1) l2 i3 := by kernel_rfl
    exact h1.trans (h2.trans h3)

theorem draymanref11_Fit_l0_ok {α : Type} (draymanref02_Fit : draymanref02_Fit_T α) : (draymanref11_Fit_l0_spec draymanref02_Fit : LoopSpec α).ok Go.Proofs.Tryd.prog (envOf (draymanref11_Fit_C draymanref02_Fit) draymanref11_Fit_q draymanref11_Fit_inl 1000 draymanref11_Fit_ann false (draymanref11_Fit_loops draymanref02_Fit) (fun _ => none)) := by
  intro ds k
  have h1 : draymanref11_Fit_l0_ev draymanref02_Fit 1000 (encSt draymanref11_Fit_l0_t draymanref11_Fit_l0_s draymanref11_Fit_l0_h ds) k = draymanref11_Fit_l0_ev draymanref02_Fit 1000 (encSt draymanref11_Fit_l0_t draymanref11_Fit_l0_s draymanref11_Fit_l0_h [.q (.str (.int .i64 (.nil))) (hdQ (.str (.int .i64 (.nil))) ds), .i (hdI ds.tail)]) k := by kernel_rfl
  have h2 := draymanref11_Fit_l0_eq draymanref02_Fit 1000 (hdQ (.str (.int .i64 (.nil))) ds) (hdI ds.tail) k
  exact h1.trans h2

theorem draymanref11_Fit_ev {α : Type} (draymanref02_Fit : draymanref02_Fit_T α) : EvOk (α := α) Go.Proofs.Tryd.prog (envOf (draymanref11_Fit_C draymanref02_Fit) draymanref11_Fit_q draymanref11_Fit_inl 1000 draymanref11_Fit_ann false (draymanref11_Fit_loops draymanref02_Fit) (fun _ => none)) 6 (draymanref11_Fit_sp (draymanref11_Fit_g draymanref02_Fit)) := by intro ds k; kernel_rfl

theorem draymanref11_Fit_ok {α : Type} : (draymanref11_Fit_spec : FunSpec α).ok Go.Proofs.Tryd.prog :=
  FunSpec.ok_of (sp := draymanref11_Fit_spec) (C := draymanref11_Fit_C draymanref02_Fit) (q := draymanref11_Fit_q) (inl := draymanref11_Fit_inl) (N := 1000) (ann := draymanref11_Fit_ann) (fr := false) (D := 6) (l := (draymanref11_Fit_loops draymanref02_Fit)) (hk := (fun _ => none)) (okCons draymanref02_Fit_ok okNil) (lokCons (draymanref11_Fit_l0_ok draymanref02_Fit) lokNil) noHooks (draymanref11_Fit_ev draymanref02_Fit)

end
end Go.Rv.Tryd

set_option linter.unusedVariables false
set_option maxRecDepth 100000
set_option maxHeartbeats 4000000
namespace Go.Rv.Tryd
open Go Go.Rv Go.RowKit
noncomputable section

-- drayman/draymanref01.Fit

abbrev draymanref01_Fit_T (α : Type) : Type := Int → (Bool → Option α) → Option α

noncomputable def draymanref01_Fit {α : Type} (n1 : Int) (k : Bool → Option α) : Option α :=
  (cond (decide (n1 ≥ 0))
    (k (decide (n1 ≤ 1099511627776)))
    (k false))

noncomputable def draymanref01_Fit_sp {α : Type} (draymanref01_Fit : draymanref01_Fit_T α) : FunSpec α := ⟨59, [.int .i64], [], fun ds k => draymanref01_Fit (hdI ds) (fun r1 => k (enc dep (.bool) [.b r1]).1 [])⟩

noncomputable def draymanref01_Fit_spec {α : Type} : FunSpec α := draymanref01_Fit_sp draymanref01_Fit

noncomputable def draymanref01_Fit_C {α : Type} : List (FunSpec α) := []

noncomputable def draymanref01_Fit_q : FuncId → Bool := fun f => false

noncomputable def draymanref01_Fit_inl : FuncId → Bool := fun f => false

noncomputable def draymanref01_Fit_ann : FuncId → AnnT := fun f p => ⟨[], [], [], [], 0, [], [], none⟩

noncomputable def draymanref01_Fit_loops {α : Type} : List (LoopSpec α) := []

theorem draymanref01_Fit_ev {α : Type} : EvOk (α := α) Go.Proofs.Tryd.prog (envOf (draymanref01_Fit_C) draymanref01_Fit_q draymanref01_Fit_inl 1000 draymanref01_Fit_ann false (draymanref01_Fit_loops) (fun _ => none)) 6 (draymanref01_Fit_sp (draymanref01_Fit)) := by intro ds k; kernel_rfl

theorem draymanref01_Fit_ok {α : Type} : (draymanref01_Fit_spec : FunSpec α).ok Go.Proofs.Tryd.prog :=
  FunSpec.ok_of (sp := draymanref01_Fit_spec) (C := draymanref01_Fit_C) (q := draymanref01_Fit_q) (inl := draymanref01_Fit_inl) (N := 1000) (ann := draymanref01_Fit_ann) (fr := false) (D := 6) (l := (draymanref01_Fit_loops)) (hk := (fun _ => none)) okNil lokNil noHooks (draymanref01_Fit_ev)

end
end Go.Rv.Tryd

set_option linter.unusedVariables false
set_option maxRecDepth 100000
set_option maxHeartbeats 4000000
namespace Go.Rv.Tryd
open Go Go.Rv Go.RowKit
noncomputable section

-- drayman/draymanref13.One

abbrev draymanref13_One_T (α : Type) : Type := (Int × (Seq (ByteArray × Int × Unit)) × Int × Unit) → (Bool → Option α) → Option α

noncomputable def draymanref13_One_g {α : Type} (draymanref11_Fit : draymanref11_Fit_T α) (draymanref01_Fit : draymanref01_Fit_T α) (h1 : Int × (Seq (ByteArray × Int × Unit)) × Int × Unit) (k : Bool → Option α) : Option α :=
  (cond (decide (h1.1 ≥ 1))
    (cond (decide (h1.1 ≤ 1099511627776))
      (draymanref11_Fit h1.2.1 fun r2 =>
        (cond r2
          (cond (decide ((h1.2.1.n : Int) > 0))
            (draymanref01_Fit h1.2.2.1 fun r3 =>
              (k r3))
            (k false))
          (k false)))
      (k false))
    (k false))

noncomputable def draymanref13_One {α : Type} : draymanref13_One_T α := draymanref13_One_g draymanref11_Fit draymanref01_Fit

noncomputable def draymanref13_One_sp {α : Type} (draymanref13_One : draymanref13_One_T α) : FunSpec α := ⟨67, [.agg [.int .i64, .sl (.str (.int .i64 (.nil))), .int .i64]], [], fun ds k => draymanref13_One (hdI ds, hdQ (.str (.int .i64 (.nil))) ds.tail, hdI ds.tail.tail, ()) (fun r1 => k (enc dep (.bool) [.b r1]).1 [])⟩

noncomputable def draymanref13_One_spec {α : Type} : FunSpec α := draymanref13_One_sp draymanref13_One

noncomputable def draymanref13_One_C {α : Type} (draymanref11_Fit : draymanref11_Fit_T α) (draymanref01_Fit : draymanref01_Fit_T α) : List (FunSpec α) := [draymanref11_Fit_sp draymanref11_Fit, draymanref01_Fit_sp draymanref01_Fit]

noncomputable def draymanref13_One_q : FuncId → Bool := fun f => Nat.beq f 59 || Nat.beq f 103

noncomputable def draymanref13_One_inl : FuncId → Bool := fun f => false

noncomputable def draymanref13_One_ann : FuncId → AnnT := fun f p => ⟨[], [], [], [], 0, [], [], none⟩

noncomputable def draymanref13_One_loops {α : Type} (draymanref11_Fit : draymanref11_Fit_T α) (draymanref01_Fit : draymanref01_Fit_T α) : List (LoopSpec α) := []

theorem draymanref13_One_ev {α : Type} (draymanref11_Fit : draymanref11_Fit_T α) (draymanref01_Fit : draymanref01_Fit_T α) : EvOk (α := α) Go.Proofs.Tryd.prog (envOf (draymanref13_One_C draymanref11_Fit draymanref01_Fit) draymanref13_One_q draymanref13_One_inl 1000 draymanref13_One_ann false (draymanref13_One_loops draymanref11_Fit draymanref01_Fit) (fun _ => none)) 6 (draymanref13_One_sp (draymanref13_One_g draymanref11_Fit draymanref01_Fit)) := by intro ds k; kernel_rfl

theorem draymanref13_One_ok {α : Type} : (draymanref13_One_spec : FunSpec α).ok Go.Proofs.Tryd.prog :=
  FunSpec.ok_of (sp := draymanref13_One_spec) (C := draymanref13_One_C draymanref11_Fit draymanref01_Fit) (q := draymanref13_One_q) (inl := draymanref13_One_inl) (N := 1000) (ann := draymanref13_One_ann) (fr := false) (D := 6) (l := (draymanref13_One_loops draymanref11_Fit draymanref01_Fit)) (hk := (fun _ => none)) (okCons draymanref11_Fit_ok (okCons draymanref01_Fit_ok okNil)) lokNil noHooks (draymanref13_One_ev draymanref11_Fit draymanref01_Fit)

end
end Go.Rv.Tryd

set_option linter.unusedVariables false
set_option maxRecDepth 100000
set_option maxHeartbeats 4000000
namespace Go.Rv.Tryd
open Go Go.Rv Go.RowKit
noncomputable section

-- drayman/draymanref13.Fit

abbrev draymanref13_Fit_T (α : Type) : Type := (Seq (Int × (Seq (ByteArray × Int × Unit)) × Int × Unit)) → (Bool → Option α) → Option α

noncomputable def draymanref13_Fit_l0_step {α : Type} (draymanref13_One : draymanref13_One_T α) (kr : (Bool) → Option α) (k0 : Option α) (rec : (Seq (Int × (Seq (ByteArray × Int × Unit)) × Int × Unit)) → (Int) → Option α) (l2 : Seq (Int × (Seq (ByteArray × Int × Unit)) × Int × Unit)) (i3 : Int) : Option α :=
  (cond (decide (i3 < (l2.n : Int)))
    (cond ((decide ((0 : Int) ≤ i3)) && (decide (i3 < (l2.n : Int))))
      (draymanref13_One (l2.g i3.toNat) fun r4 =>
        (cond (!(!r4))
          (cond (decide (i3 > 0))
            (cond ((decide ((0 : Int) ≤ i3)) && (decide (i3 < (l2.n : Int))))
              (cond ((decide ((0 : Int) ≤ (IntKind.i64.wrap (i3 - 1)))) && (decide ((IntKind.i64.wrap (i3 - 1)) < (l2.n : Int))))
                (cond (decide ((l2.g i3.toNat).1 ≤ (l2.g (IntKind.i64.wrap (i3 - 1)).toNat).1))
                  (kr false)
                  (rec l2 (IntKind.i64.wrap (i3 + 1))))
                none)
              none)
            (rec l2 (IntKind.i64.wrap (i3 + 1))))
          (kr false)))
      none)
    (k0))

noncomputable def draymanref13_Fit_l0_run {α : Type} (draymanref13_One : draymanref13_One_T α) (kr : (Bool) → Option α) (k0 : Option α) : Nat → (Seq (Int × (Seq (ByteArray × Int × Unit)) × Int × Unit)) → (Int) → Option α
  | 0, _, _ => none
  | n + 1, l2, i3 => draymanref13_Fit_l0_step draymanref13_One kr k0 (fun l2 i3 => draymanref13_Fit_l0_run draymanref13_One kr k0 n l2 i3) l2 i3

noncomputable def draymanref13_Fit_g {α : Type} (draymanref13_One : draymanref13_One_T α) (l1 : Seq (Int × (Seq (ByteArray × Int × Unit)) × Int × Unit)) (k : Bool → Option α) : Option α :=
  (cond (decide ((l1.n : Int) > 16))
    (k false)
    (draymanref13_Fit_l0_run draymanref13_One
      (fun x5 =>
        (k x5))
      ((k true))
      1000 l1 0))

noncomputable def draymanref13_Fit {α : Type} : draymanref13_Fit_T α := draymanref13_Fit_g draymanref13_One

noncomputable def draymanref13_Fit_sp {α : Type} (draymanref13_Fit : draymanref13_Fit_T α) : FunSpec α := ⟨33, [.sl (.int .i64 (.sl (.str (.int .i64 (.nil))) (.int .i64 (.nil))))], [], fun ds k => draymanref13_Fit (hdQ (.int .i64 (.sl (.str (.int .i64 (.nil))) (.int .i64 (.nil)))) ds) (fun r1 => k (enc dep (.bool) [.b r1]).1 [])⟩

noncomputable def draymanref13_Fit_spec {α : Type} : FunSpec α := draymanref13_Fit_sp draymanref13_Fit

noncomputable def draymanref13_Fit_C {α : Type} (draymanref13_One : draymanref13_One_T α) : List (FunSpec α) := [draymanref13_One_sp draymanref13_One]

noncomputable def draymanref13_Fit_q : FuncId → Bool := fun f => Nat.beq f 67

noncomputable def draymanref13_Fit_inl : FuncId → Bool := fun f => false

noncomputable def draymanref13_Fit_ann : FuncId → AnnT := fun f p => if f = 33 then (if p = [true, false, true, true] then ⟨[0, 3], [], [], [2], 0, [], [], none⟩ else if p = [false, false, true, false, true, false, true, true] then ⟨[], [], [], [], 2, [], [], none⟩ else ⟨[], [], [], [], 0, [], [], none⟩) else ⟨[], [], [], [], 0, [], [], none⟩

noncomputable def draymanref13_Fit_l0_t : List Sh := [.sl (.int .i64 (.sl (.str (.int .i64 (.nil))) (.int .i64 (.nil)))), .dead, .dead, .int .i64, .dead, .dead, .dead, .dead, .dead, .dead, .dead, .dead, .dead, .dead, .dead, .dead, .dead, .dead, .dead, .dead, .dead, .dead, .dead, .dead, .dead, .dead, .dead, .dead, .dead, .dead, .dead, .dead, .dead, .dead, .dead, .dead, .dead]
noncomputable def draymanref13_Fit_l0_s : List (List Sh) := []
noncomputable def draymanref13_Fit_l0_h : List BSh := []

noncomputable def draymanref13_Fit_l0_spec {α : Type} (draymanref13_One : draymanref13_One_T α) : LoopSpec α := ⟨6, 33, [true, false, true, true], draymanref13_Fit_l0_t, draymanref13_Fit_l0_s, draymanref13_Fit_l0_h, fun ds k => draymanref13_Fit_l0_run draymanref13_One (fun y1 => k .ret (encSt [.dead, .dead, .bool, .dead, .dead, .dead, .dead, .dead, .dead, .dead, .dead, .dead, .dead, .dead, .dead, .dead, .dead, .dead, .dead, .dead, .dead, .dead, .dead, .dead, .dead, .dead, .dead, .dead, .dead, .dead, .dead, .dead, .dead, .dead, .dead, .dead, .dead] [] [] [.b y1])) (k (.exit 0) (encSt [.dead, .dead, .dead, .dead, .dead, .dead, .dead, .dead, .dead, .dead, .dead, .dead, .dead, .dead, .dead, .dead, .dead, .dead, .dead, .dead, .dead, .dead, .dead, .dead, .dead, .dead, .dead, .dead, .dead, .dead, .dead, .dead, .dead, .dead, .dead, .dead, .dead] [] [] [])) 1000 (hdQ (.int .i64 (.sl (.str (.int .i64 (.nil))) (.int .i64 (.nil)))) ds) (hdI ds.tail)⟩

noncomputable def draymanref13_Fit_loops {α : Type} (draymanref13_One : draymanref13_One_T α) : List (LoopSpec α) := [draymanref13_Fit_l0_spec draymanref13_One]

noncomputable def draymanref13_Fit_l0_ev {α : Type} (draymanref13_One : draymanref13_One_T α) (n : Nat) (st : St) (k : X → St → Option α) : Option α := loopN (evCode Go.Proofs.Tryd.prog (callD Go.Proofs.Tryd.prog (envOf (draymanref13_Fit_C draymanref13_One) draymanref13_Fit_q draymanref13_Fit_inl 1000 draymanref13_Fit_ann false (draymanref13_Fit_loops draymanref13_One) (fun _ => none)) 6) (((envOf (draymanref13_Fit_C draymanref13_One) draymanref13_Fit_q draymanref13_Fit_inl 1000 draymanref13_Fit_ann false (draymanref13_Fit_loops draymanref13_One) (fun _ => none)) : Env α).L 6 33) 1000 (draymanref13_Fit_ann 33) (false :: [true, false, true, true]) (loopC Go.Proofs.Tryd.prog 33 [true, false, true, true])) ((draymanref13_Fit_ann 33 [true, false, true, true]).head 0) ((draymanref13_Fit_ann 33 [true, false, true, true]).leave 0) n st k

theorem draymanref13_Fit_l0_eq {α : Type} (draymanref13_One : draymanref13_One_T α) : ∀ (n : Nat) (l2 : Seq (Int × (Seq (ByteArray × Int × Unit)) × Int × Unit)) (i3 : Int) (k : X → St → Option α), draymanref13_Fit_l0_ev draymanref13_One n (encSt draymanref13_Fit_l0_t draymanref13_Fit_l0_s draymanref13_Fit_l0_h [.q (.int .i64 (.sl (.str (.int .i64 (.nil))) (.int .i64 (.nil)))) l2, .i i3]) k = draymanref13_Fit_l0_run draymanref13_One (fun y1 => k .ret (encSt [.dead, .dead, .bool, .dead, .dead, .dead, .dead, .dead, .dead, .dead, .dead, .dead, .dead, .dead, .dead, .dead, .dead, .dead, .dead, .dead, .dead, .dead, .dead, .dead, .dead, .dead, .dead, .dead, .dead, .dead, .dead, .dead, .dead, .dead, .dead, .dead, .dead] [] [] [.b y1])) (k (.exit 0) (encSt [.dead, .dead, .dead, .dead, .dead, .dead, .dead, .dead, .dead, .dead, .dead, .dead, .dead, .dead, .dead, .dead, .dead, .dead, .dead, .dead, .dead, .dead, .dead, .dead, .dead, .dead, .dead, .dead, .dead, .dead, .dead, .dead, .dead, .dead, .dead, .dead, .dead] [] [] [])) n l2 i3 := by
  intro n
  induction n with
  | zero => intros; kernel_rfl
  | succ n ih =>
    intro l2 i3 k
    have e : (fun (l2 : Seq (Int × (Seq (ByteArray × Int × Unit)) × Int × Unit)) (i3 : Int) => draymanref13_Fit_l0_ev draymanref13_One n (encSt draymanref13_Fit_l0_t draymanref13_Fit_l0_s draymanref13_Fit_l0_h [.q (.int .i64 (.sl (.str (.int .i64 (.nil))) (.int .i64 (.nil)))) l2, .i i3]) k) = (fun (l2 : Seq (Int × (Seq (ByteArray × Int × Unit)) × Int × Unit)) (i3 : Int) => draymanref13_Fit_l0_run draymanref13_One (fun y1 => k .ret (encSt [.dead, .dead, .bool, .dead, .dead, .dead, .dead, .dead, .dead, .dead, .dead, .dead, .dead, .dead, .dead, .dead, .dead, .dead, .dead, .dead, .dead, .dead, .dead, .dead, .dead, .dead, .dead, .dead, .dead, .dead, .dead, .dead, .dead, .dead, .dead, .dead, .dead] [] [] [.b y1])) (k (.exit 0) (encSt [.dead, .dead, .dead, .dead, .dead, .dead, .dead, .dead, .dead, .dead, .dead, .dead, .dead, .dead, .dead, .dead, .dead, .dead, .dead, .dead, .dead, .dead, .dead, .dead, .dead, .dead, .dead, .dead, .dead, .dead, .dead, .dead, .dead, .dead, .dead, .dead, .dead] [] [] [])) n l2 i3) := by
      funext l2 i3
      exact ih l2 i3 k
    have h1 : draymanref13_Fit_l0_ev draymanref13_One (n + 1) (encSt draymanref13_Fit_l0_t draymanref13_Fit_l0_s draymanref13_Fit_l0_h [.q (.int .i64 (.sl (.str (.int .i64 (.nil))) (.int .i64 (.nil)))) l2, .i i3]) k = draymanref13_Fit_l0_step draymanref13_One (fun y1 => k .ret (encSt [.dead, .dead, .bool, .dead, .dead, .dead, .dead, .dead, .dead, .dead, .dead, .dead, .dead, .dead, .dead, .dead, .dead, .dead, .dead, .dead, .dead, .dead, .dead, .dead, .dead, .dead, .dead, .dead, .dead, .dead, .dead, .dead, .dead, .dead, .dead, .dead, .dead] [] [] [.b y1])) (k (.exit 0) (encSt [.dead, .dead, .dead, .dead, .dead, .dead, .dead, .dead, .dead, .dead, .dead, .dead, .dead, .dead, .dead, .dead, .dead, .dead, .dead, .dead, .dead, .dead, .dead, .dead, .dead, .dead, .dead, .dead, .dead, .dead, .dead, .dead, .dead, .dead, .dead, .dead, .dead] [] [] [])) (fun (l2 : Seq (Int × (Seq (ByteArray × Int × Unit)) × Int × Unit)) (i3 : Int) => draymanref13_Fit_l0_ev draymanref13_One n (encSt draymanref13_Fit_l0_t draymanref13_Fit_l0_s draymanref13_Fit_l0_h [.q (.int .i64 (.sl (.str (.int .i64 (.nil))) (.int .i64 (.nil)))) l2, .i i3]) k) l2 i3 := by kernel_rfl
    have h2 := congrArg (fun r => draymanref13_Fit_l0_step draymanref13_One (fun y1 => k .ret (encSt [.dead, .dead, .bool, .dead, .dead, .dead, .dead, .dead, .dead, .dead, .dead, .dead, .dead, .dead, .dead, .dead, .dead, .dead, .dead, .dead, .dead, .dead, .dead, .dead, .dead, .dead, .dead, .dead, .dead, .dead, .dead, .dead, .dead, .dead, .dead, .dead, .dead] [] [] [.b y1])) (k (.exit 0) (encSt [.dead, .dead, .dead, .dead, .dead, .dead, .dead, .dead, .dead, .dead, .dead, .dead, .dead, .dead, .dead, .dead, .dead, .dead, .dead, .dead, .dead, .dead, .dead, .dead, .dead, .dead, .dead, .dead, .dead, .dead, .dead, .dead, .dead, .dead, .dead, .dead, .dead] [] [] [])) r l2 i3) e
    have h3 : draymanref13_Fit_l0_step draymanref13_One (fun y1 => k .ret (encSt [.dead, .dead, .bool, .dead, .dead, .dead, .dead, .dead, .dead, .dead, .dead, .dead, .dead, .dead, .dead, .dead, .dead, .dead, .dead, .dead, .dead, .dead, .dead, .dead, .dead, .dead, .dead, .dead, .dead, .dead, .dead, .dead, .dead, .dead, .dead, .dead, .dead] [] [] [.b y1])) (k (.exit 0) (encSt [.dead, .dead, .dead, .dead, .dead, .dead, .dead, .dead, .dead, .dead, .dead, .dead, .dead, .dead, .dead, .dead, .dead, .dead, .dead, .dead, .dead, .dead, .dead, .dead, .dead, .dead, .dead, .dead, .dead, .dead, .dead, .dead, .dead, .dead, .dead, .dead, .dead] [] [] [])) (fun (l2 : Seq (Int × (Seq (ByteArray × Int × Unit)) × Int × Unit)) (i3 : Int) => draymanref13_Fit_l0_run draymanref13_One (fun y1 => k .ret (encSt [.dead, .dead, .bool, .dead, .dead, .dead, .dead, .dead, .dead, .dead, .dead, .dead, .dead, .dead, .dead, .dead, .dead, .dead, .dead, .dead, .dead, .dead, .dead, .dead, .dead, .dead, .dead, .dead, .dead, .dead, .dead, .dead, .dead, .dead, .dead, .dead, .dead] [] [] [.b y1])) (k (.exit 0) (encSt [.dead, .dead, .dead, .dead, .dead, .dead, .dead, .dead, .dead, .dead, .dead, .dead, .dead, .dead, .dead, .dead, .dead, .dead, .dead, .dead, .dead, .dead, .dead, .dead, .dead, .dead, .dead, .dead, .dead, .dead, .dead, .dead, .dead, .dead, .dead, .dead, .dead] [] [] [])) n l2 i3) l2 i3 = draymanref13_Fit_l0_run draymanref13_One (fun y1 => k .ret (encSt [.dead, .dead, .bool, .dead, .dead, .dead, .dead, .dead, .dead, .dead, .dead, .dead, .dead, .dead, .dead, .dead, .dead, .dead, .dead, .dead, .dead, .dead, .dead, .dead, .dead, .dead, .dead, .dead, .dead, .dead, .dead, .dead, .dead, .dead, .dead, .dead, .dead] [] [] [.b y1])) (k (.exit 0) (encSt [.dead, .dead, .dead, .dead, .dead, .dead, .dead, .dead, .dead, .dead, .dead, .dead, .dead, .dead, .dead, .dead, .dead, .dead, .dead, .dead, .dead, .dead, .dead, .dead, .dead, .dead, .dead, .dead, .dead, .dead, .dead, .dead, .dead, .dead, .dead, .dead, .dead] [] [] [])) (n + 1) l2 i3 := by kernel_rfl
    exact h1.trans (h2.trans h3)

theorem draymanref13_Fit_l0_ok {α : Type} (draymanref13_One : draymanref13_One_T α) : (draymanref13_Fit_l0_spec draymanref13_One : LoopSpec α).ok Go.Proofs.Tryd.prog (envOf (draymanref13_Fit_C draymanref13_One) draymanref13_Fit_q draymanref13_Fit_inl 1000 draymanref13_Fit_ann false (draymanref13_Fit_loops draymanref13_One) (fun _ => none)) := by
  intro ds k
  have h1 : draymanref13_Fit_l0_ev draymanref13_One 1000 (encSt draymanref13_Fit_l0_t draymanref13_Fit_l0_s draymanref13_Fit_l0_h ds) k = draymanref13_Fit_l0_ev draymanref13_One 1000 (encSt draymanref13_Fit_l0_t draymanref13_Fit_l0_s draymanref13_Fit_l0_h [.q (.int .i64 (.sl (.str (.int .i64 (.nil))) (.int .i64 (.nil)))) (hdQ (.int .i64 (.sl (.str (.int .i64 (.nil))) (.int .i64 (.nil)))) ds), .i (hdI ds.tail)]) k := by kernel_rfl
  have h2 := draymanref13_Fit_l0_eq draymanref13_One 1000 (hdQ (.int .i64 (.sl (.str (.int .i64 (.nil))) (.int .i64 (.nil)))) ds) (hdI ds.tail) k
  exact h1.trans h2

theorem draymanref13_Fit_ev {α : Type} (draymanref13_One : draymanref13_One_T α) : EvOk (α := α) Go.Proofs.Tryd.prog (envOf (draymanref13_Fit_C draymanref13_One) draymanref13_Fit_q draymanref13_Fit_inl 1000 draymanref13_Fit_ann false (draymanref13_Fit_loops draymanref13_One) (fun _ => none)) 6 (draymanref13_Fit_sp (draymanref13_Fit_g draymanref13_One)) := by intro ds k; kernel_rfl

theorem draymanref13_Fit_ok {α : Type} : (draymanref13_Fit_spec : FunSpec α).ok Go.Proofs.Tryd.prog :=
  FunSpec.ok_of (sp := draymanref13_Fit_spec) (C := draymanref13_Fit_C draymanref13_One) (q := draymanref13_Fit_q) (inl := draymanref13_Fit_inl) (N := 1000) (ann := draymanref13_Fit_ann) (fr := false) (D := 6) (l := (draymanref13_Fit_loops draymanref13_One)) (hk := (fun _ => none)) (okCons draymanref13_One_ok okNil) (lokCons (draymanref13_Fit_l0_ok draymanref13_One) lokNil) noHooks (draymanref13_Fit_ev draymanref13_One)

end
end Go.Rv.Tryd

set_option linter.unusedVariables false
set_option maxRecDepth 100000
set_option maxHeartbeats 4000000
namespace Go.Rv.Tryd
open Go Go.Rv Go.RowKit
noncomputable section

-- drayman/draymanref13.Find

abbrev draymanref13_Find_T (α : Type) : Type := (Seq (Int × (Seq (ByteArray × Int × Unit)) × Int × Unit)) → Int → ((Int × (Seq (ByteArray × Int × Unit)) × Int × Unit) → Bool → Option α) → Option α

noncomputable def draymanref13_Find_l0_step {α : Type} (kr : (Bool) → (Int × (Seq (ByteArray × Int × Unit)) × Int × Unit) → Option α) (k0 : (Int × (Seq (ByteArray × Int × Unit)) × Int × Unit) → Option α) (rec : (Seq (Int × (Seq (ByteArray × Int × Unit)) × Int × Unit)) → (Int) → (Int) → (Int × (Seq (ByteArray × Int × Unit)) × Int × Unit) → Option α) (l3 : Seq (Int × (Seq (ByteArray × Int × Unit)) × Int × Unit)) (saga4 : Int) (i5 : Int) (x6 : Int × (Seq (ByteArray × Int × Unit)) × Int × Unit) : Option α :=
  (cond (decide (i5 < (l3.n : Int)))
    (cond ((decide ((0 : Int) ≤ i5)) && (decide (i5 < (l3.n : Int))))
      (cond ((l3.g i5.toNat).1 == saga4)
        (cond ((decide ((0 : Int) ≤ i5)) && (decide (i5 < (l3.n : Int))))
          (kr true (l3.g i5.toNat))
          none)
        (rec l3 saga4 (IntKind.i64.wrap (i5 + 1)) x6))
      none)
    (k0 x6))

noncomputable def draymanref13_Find_l0_run {α : Type} (kr : (Bool) → (Int × (Seq (ByteArray × Int × Unit)) × Int × Unit) → Option α) (k0 : (Int × (Seq (ByteArray × Int × Unit)) × Int × Unit) → Option α) : Nat → (Seq (Int × (Seq (ByteArray × Int × Unit)) × Int × Unit)) → (Int) → (Int) → (Int × (Seq (ByteArray × Int × Unit)) × Int × Unit) → Option α
  | 0, _, _, _, _ => none
  | n + 1, l3, saga4, i5, x6 => draymanref13_Find_l0_step kr k0 (fun l3 saga4 i5 x6 => draymanref13_Find_l0_run kr k0 n l3 saga4 i5 x6) l3 saga4 i5 x6

noncomputable def draymanref13_Find {α : Type} (l1 : Seq (Int × (Seq (ByteArray × Int × Unit)) × Int × Unit)) (saga2 : Int) (k : (Int × (Seq (ByteArray × Int × Unit)) × Int × Unit) → Bool → Option α) : Option α :=
  (draymanref13_Find_l0_run
    (fun x7 x8 =>
      (k x8 x7))
    (fun x9 =>
      (k (0, (⟨true, 0, (fun _ => (ByteArray.empty, 0, ()))⟩ : Seq (ByteArray × Int × Unit)), 0, ()) false))
    1000 l1 saga2 0 (0, (⟨true, 0, (fun _ => (ByteArray.empty, 0, ()))⟩ : Seq (ByteArray × Int × Unit)), 0, ()))

noncomputable def draymanref13_Find_sp {α : Type} (draymanref13_Find : draymanref13_Find_T α) : FunSpec α := ⟨31, [.sl (.int .i64 (.sl (.str (.int .i64 (.nil))) (.int .i64 (.nil)))), .int .i64], [], fun ds k => draymanref13_Find (hdQ (.int .i64 (.sl (.str (.int .i64 (.nil))) (.int .i64 (.nil)))) ds) (hdI ds.tail) (fun r1 r2 => k (enc dep (.tup [.agg [.int .i64, .sl (.str (.int .i64 (.nil))), .int .i64], .bool]) [.i r1.1, .q (.str (.int .i64 (.nil))) r1.2.1, .i r1.2.2.1, .b r2]).1 [])⟩

noncomputable def draymanref13_Find_spec {α : Type} : FunSpec α := draymanref13_Find_sp draymanref13_Find

noncomputable def draymanref13_Find_C {α : Type} : List (FunSpec α) := []

noncomputable def draymanref13_Find_q : FuncId → Bool := fun f => false

noncomputable def draymanref13_Find_inl : FuncId → Bool := fun f => false

noncomputable def draymanref13_Find_ann : FuncId → AnnT := fun f p => if f = 31 then (if p = [true, false, true] then ⟨[0, 1, 4, 6], [], [4], [4, 5], 0, [], [], none⟩ else ⟨[], [], [], [], 0, [], [], none⟩) else ⟨[], [], [], [], 0, [], [], none⟩

noncomputable def draymanref13_Find_l0_t : List Sh := [.sl (.int .i64 (.sl (.str (.int .i64 (.nil))) (.int .i64 (.nil)))), .int .i64, .dead, .dead, .ref 0 0, .dead, .int .i64, .dead, .dead, .dead, .dead, .dead, .dead, .dead, .dead, .dead, .dead, .dead, .dead, .dead, .dead, .dead, .dead, .dead, .dead]
noncomputable def draymanref13_Find_l0_s : List (List Sh) := []
noncomputable def draymanref13_Find_l0_h : List BSh := [.box [.int .i64, .sl (.str (.int .i64 (.nil))), .int .i64]]

noncomputable def draymanref13_Find_l0_spec {α : Type} : LoopSpec α := ⟨6, 31, [true, false, true], draymanref13_Find_l0_t, draymanref13_Find_l0_s, draymanref13_Find_l0_h, fun ds k => draymanref13_Find_l0_run (fun y1 y2 => k .ret (encSt [.dead, .dead, .dead, .dead, .ref 0 0, .bool, .dead, .dead, .dead, .dead, .dead, .dead, .dead, .dead, .dead, .dead, .dead, .dead, .dead, .dead, .dead, .dead, .dead, .dead, .dead] [] [.box [.int .i64, .sl (.str (.int .i64 (.nil))), .int .i64]] [.b y1, .i y2.1, .q (.str (.int .i64 (.nil))) y2.2.1, .i y2.2.2.1])) (fun y1 => k (.exit 0) (encSt [.dead, .dead, .dead, .dead, .ref 0 0, .dead, .dead, .dead, .dead, .dead, .dead, .dead, .dead, .dead, .dead, .dead, .dead, .dead, .dead, .dead, .dead, .dead, .dead, .dead, .dead] [] [.box [.int .i64, .sl (.str (.int .i64 (.nil))), .int .i64]] [.i y1.1, .q (.str (.int .i64 (.nil))) y1.2.1, .i y1.2.2.1])) 1000 (hdQ (.int .i64 (.sl (.str (.int .i64 (.nil))) (.int .i64 (.nil)))) ds) (hdI ds.tail) (hdI ds.tail.tail) (hdI ds.tail.tail.tail, hdQ (.str (.int .i64 (.nil))) ds.tail.tail.tail.tail, hdI ds.tail.tail.tail.tail.tail, ())⟩

noncomputable def draymanref13_Find_loops {α : Type} : List (LoopSpec α) := [draymanref13_Find_l0_spec]

noncomputable def draymanref13_Find_l0_ev {α : Type} (n : Nat) (st : St) (k : X → St → Option α) : Option α := loopN (evCode Go.Proofs.Tryd.prog (callD Go.Proofs.Tryd.prog (envOf (draymanref13_Find_C) draymanref13_Find_q draymanref13_Find_inl 1000 draymanref13_Find_ann false (draymanref13_Find_loops) (fun _ => none)) 6) (((envOf (draymanref13_Find_C) draymanref13_Find_q draymanref13_Find_inl 1000 draymanref13_Find_ann false (draymanref13_Find_loops) (fun _ => none)) : Env α).L 6 31) 1000 (draymanref13_Find_ann 31) (false :: [true, false, true]) (loopC Go.Proofs.Tryd.prog 31 [true, false, true])) ((draymanref13_Find_ann 31 [true, false, true]).head 1) ((draymanref13_Find_ann 31 [true, false, true]).leave 1) n st k

theorem draymanref13_Find_l0_eq {α : Type} : ∀ (n : Nat) (l3 : Seq (Int × (Seq (ByteArray × Int × Unit)) × Int × Unit)) (saga4 : Int) (i5 : Int) (x6 : Int × (Seq (ByteArray × Int × Unit)) × Int × Unit) (k : X → St → Option α), draymanref13_Find_l0_ev n (encSt draymanref13_Find_l0_t draymanref13_Find_l0_s draymanref13_Find_l0_h [.q (.int .i64 (.sl (.str (.int .i64 (.nil))) (.int .i64 (.nil)))) l3, .i saga4, .i i5, .i x6.1, .q (.str (.int .i64 (.nil))) x6.2.1, .i x6.2.2.1]) k = draymanref13_Find_l0_run (fun y1 y2 => k .ret (encSt [.dead, .dead, .dead, .dead, .ref 0 0, .bool, .dead, .dead, .dead, .dead, .dead, .dead, .dead, .dead, .dead, .dead, .dead, .dead, .dead, .dead, .dead, .dead, .dead, .dead, .dead] [] [.box [.int .i64, .sl (.str (.int .i64 (.nil))), .int .i64]] [.b y1, .i y2.1, .q (.str (.int .i64 (.nil))) y2.2.1, .i y2.2.2.1])) (fun y1 => k (.exit 0) (encSt [.dead, .dead, .dead, .dead, .ref 0 0, .dead, .dead, .dead, .dead, .dead, .dead, .dead, .dead, .dead, .dead, .dead, .dead, .dead, .dead, .dead, .dead, .dead, .dead, .dead, .dead] [] [.box [.int .i64, .sl (.str (.int .i64 (.nil))), .int .i64]] [.i y1.1, .q (.str (.int .i64 (.nil))) y1.2.1, .i y1.2.2.1])) n l3 saga4 i5 x6 := by
  intro n
  induction n with
  | zero => intros; kernel_rfl
  | succ n ih =>
    intro l3 saga4 i5 x6 k
    have e : (fun (l3 : Seq (Int × (Seq (ByteArray × Int × Unit)) × Int × Unit)) (saga4 : Int) (i5 : Int) (x6 : Int × (Seq (ByteArray × Int × Unit)) × Int × Unit) => draymanref13_Find_l0_ev n (encSt draymanref13_Find_l0_t draymanref13_Find_l0_s draymanref13_Find_l0_h [.q (.int .i64 (.sl (.str (.int .i64 (.nil))) (.int .i64 (.nil)))) l3, .i saga4, .i i5, .i x6.1, .q (.str (.int .i64 (.nil))) x6.2.1, .i x6.2.2.1]) k) = (fun (l3 : Seq (Int × (Seq (ByteArray × Int × Unit)) × Int × Unit)) (saga4 : Int) (i5 : Int) (x6 : Int × (Seq (ByteArray × Int × Unit)) × Int × Unit) => draymanref13_Find_l0_run (fun y1 y2 => k .ret (encSt [.dead, .dead, .dead, .dead, .ref 0 0, .bool, .dead, .dead, .dead, .dead, .dead, .dead, .dead, .dead, .dead, .dead, .dead, .dead, .dead, .dead, .dead, .dead, .dead, .dead, .dead] [] [.box [.int .i64, .sl (.str (.int .i64 (.nil))), .int .i64]] [.b y1, .i y2.1, .q (.str (.int .i64 (.nil))) y2.2.1, .i y2.2.2.1])) (fun y1 => k (.exit 0) (encSt [.dead, .dead, .dead, .dead, .ref 0 0, .dead, .dead, .dead, .dead, .dead, .dead, .dead, .dead, .dead, .dead, .dead, .dead, .dead, .dead, .dead, .dead, .dead, .dead, .dead, .dead] [] [.box [.int .i64, .sl (.str (.int .i64 (.nil))), .int .i64]] [.i y1.1, .q (.str (.int .i64 (.nil))) y1.2.1, .i y1.2.2.1])) n l3 saga4 i5 x6) := by
      funext l3 saga4 i5 x6
      exact ih l3 saga4 i5 x6 k
    have h1 : draymanref13_Find_l0_ev (n + 1) (encSt draymanref13_Find_l0_t draymanref13_Find_l0_s draymanref13_Find_l0_h [.q (.int .i64 (.sl (.str (.int .i64 (.nil))) (.int .i64 (.nil)))) l3, .i saga4, .i i5, .i x6.1, .q (.str (.int .i64 (.nil))) x6.2.1, .i x6.2.2.1]) k = draymanref13_Find_l0_step (fun y1 y2 => k .ret (encSt [.dead, .dead, .dead, .dead, .ref 0 0, .bool, .dead, .dead, .dead, .dead, .dead, .dead, .dead, .dead, .dead, .dead, .dead, .dead, .dead, .dead, .dead, .dead, .dead, .dead, .dead] [] [.box [.int .i64, .sl (.str (.int .i64 (.nil))), .int .i64]] [.b y1, .i y2.1, .q (.str (.int .i64 (.nil))) y2.2.1, .i y2.2.2.1])) (fun y1 => k (.exit 0) (encSt [.dead, .dead, .dead, .dead, .ref 0 0, .dead, .dead, .dead, .dead, .dead, .dead, .dead, .dead, .dead, .dead, .dead, .dead, .dead, .dead, .dead, .dead, .dead, .dead, .dead, .dead] [] [.box [.int .i64, .sl (.str (.int .i64 (.nil))), .int .i64]] [.i y1.1, .q (.str (.int .i64 (.nil))) y1.2.1, .i y1.2.2.1])) (fun (l3 : Seq (Int × (Seq (ByteArray × Int × Unit)) × Int × Unit)) (saga4 : Int) (i5 : Int) (x6 : Int × (Seq (ByteArray × Int × Unit)) × Int × Unit) => draymanref13_Find_l0_ev n (encSt draymanref13_Find_l0_t draymanref13_Find_l0_s draymanref13_Find_l0_h [.q (.int .i64 (.sl (.str (.int .i64 (.nil))) (.int .i64 (.nil)))) l3, .i saga4, .i i5, .i x6.1, .q (.str (.int .i64 (.nil))) x6.2.1, .i x6.2.2.1]) k) l3 saga4 i5 x6 := by kernel_rfl
    have h2 := congrArg (fun r => draymanref13_Find_l0_step (fun y1 y2 => k .ret (encSt [.dead, .dead, .dead, .dead, .ref 0 0, .bool, .dead, .dead, .dead, .dead, .dead, .dead, .dead, .dead, .dead, .dead, .dead, .dead, .dead, .dead, .dead, .dead, .dead, .dead, .dead] [] [.box [.int .i64, .sl (.str (.int .i64 (.nil))), .int .i64]] [.b y1, .i y2.1, .q (.str (.int .i64 (.nil))) y2.2.1, .i y2.2.2.1])) (fun y1 => k (.exit 0) (encSt [.dead, .dead, .dead, .dead, .ref 0 0, .dead, .dead, .dead, .dead, .dead, .dead, .dead, .dead, .dead, .dead, .dead, .dead, .dead, .dead, .dead, .dead, .dead, .dead, .dead, .dead] [] [.box [.int .i64, .sl (.str (.int .i64 (.nil))), .int .i64]] [.i y1.1, .q (.str (.int .i64 (.nil))) y1.2.1, .i y1.2.2.1])) r l3 saga4 i5 x6) e
    have h3 : draymanref13_Find_l0_step (fun y1 y2 => k .ret (encSt [.dead, .dead, .dead, .dead, .ref 0 0, .bool, .dead, .dead, .dead, .dead, .dead, .dead, .dead, .dead, .dead, .dead, .dead, .dead, .dead, .dead, .dead, .dead, .dead, .dead, .dead] [] [.box [.int .i64, .sl (.str (.int .i64 (.nil))), .int .i64]] [.b y1, .i y2.1, .q (.str (.int .i64 (.nil))) y2.2.1, .i y2.2.2.1])) (fun y1 => k (.exit 0) (encSt [.dead, .dead, .dead, .dead, .ref 0 0, .dead, .dead, .dead, .dead, .dead, .dead, .dead, .dead, .dead, .dead, .dead, .dead, .dead, .dead, .dead, .dead, .dead, .dead, .dead, .dead] [] [.box [.int .i64, .sl (.str (.int .i64 (.nil))), .int .i64]] [.i y1.1, .q (.str (.int .i64 (.nil))) y1.2.1, .i y1.2.2.1])) (fun (l3 : Seq (Int × (Seq (ByteArray × Int × Unit)) × Int × Unit)) (saga4 : Int) (i5 : Int) (x6 : Int × (Seq (ByteArray × Int × Unit)) × Int × Unit) => draymanref13_Find_l0_run (fun y1 y2 => k .ret (encSt [.dead, .dead, .dead, .dead, .ref 0 0, .bool, .dead, .dead, .dead, .dead, .dead, .dead, .dead, .dead, .dead, .dead, .dead, .dead, .dead, .dead, .dead, .dead, .dead, .dead, .dead] [] [.box [.int .i64, .sl (.str (.int .i64 (.nil))), .int .i64]] [.b y1, .i y2.1, .q (.str (.int .i64 (.nil))) y2.2.1, .i y2.2.2.1])) (fun y1 => k (.exit 0) (encSt [.dead, .dead, .dead, .dead, .ref 0 0, .dead, .dead, .dead, .dead, .dead, .dead, .dead, .dead, .dead, .dead, .dead, .dead, .dead, .dead, .dead, .dead, .dead, .dead, .dead, .dead] [] [.box [.int .i64, .sl (.str (.int .i64 (.nil))), .int .i64]] [.i y1.1, .q (.str (.int .i64 (.nil))) y1.2.1, .i y1.2.2.1])) n l3 saga4 i5 x6) l3 saga4 i5 x6 = draymanref13_Find_l0_run (fun y1 y2 => k .ret (encSt [.dead, .dead, .dead, .dead, .ref 0 0, .bool, .dead, .dead, .dead, .dead, .dead, .dead, .dead, .dead, .dead, .dead, .dead, .dead, .dead, .dead, .dead, .dead, .dead, .dead, .dead] [] [.box [.int .i64, .sl (.str (.int .i64 (.nil))), .int .i64]] [.b y1, .i y2.1, .q (.str (.int .i64 (.nil))) y2.2.1, .i y2.2.2.1])) (fun y1 => k (.exit 0) (encSt [.dead, .dead, .dead, .dead, .ref 0 0, .dead, .dead, .dead, .dead, .dead, .dead, .dead, .dead, .dead, .dead, .dead, .dead, .dead, .dead, .dead, .dead, .dead, .dead, .dead, .dead] [] [.box [.int .i64, .sl (.str (.int .i64 (.nil))), .int .i64]] [.i y1.1, .q (.str (.int .i64 (.nil))) y1.2.1, .i y1.2.2.1])) (n + 1) l3 saga4 i5 x6 := by kernel_rfl
    exact h1.trans (h2.trans h3)

theorem draymanref13_Find_l0_ok {α : Type} : (draymanref13_Find_l0_spec : LoopSpec α).ok Go.Proofs.Tryd.prog (envOf (draymanref13_Find_C) draymanref13_Find_q draymanref13_Find_inl 1000 draymanref13_Find_ann false (draymanref13_Find_loops) (fun _ => none)) := by
  intro ds k
  have h1 : draymanref13_Find_l0_ev 1000 (encSt draymanref13_Find_l0_t draymanref13_Find_l0_s draymanref13_Find_l0_h ds) k = draymanref13_Find_l0_ev 1000 (encSt draymanref13_Find_l0_t draymanref13_Find_l0_s draymanref13_Find_l0_h [.q (.int .i64 (.sl (.str (.int .i64 (.nil))) (.int .i64 (.nil)))) (hdQ (.int .i64 (.sl (.str (.int .i64 (.nil))) (.int .i64 (.nil)))) ds), .i (hdI ds.tail), .i (hdI ds.tail.tail), .i ((hdI ds.tail.tail.tail, hdQ (.str (.int .i64 (.nil))) ds.tail.tail.tail.tail, hdI ds.tail.tail.tail.tail.tail, ()).1), .q (.str (.int .i64 (.nil))) ((hdI ds.tail.tail.tail, hdQ (.str (.int .i64 (.nil))) ds.tail.tail.tail.tail, hdI ds.tail.tail.tail.tail.tail, ()).2.1), .i ((hdI ds.tail.tail.tail, hdQ (.str (.int .i64 (.nil))) ds.tail.tail.tail.tail, hdI ds.tail.tail.tail.tail.tail, ()).2.2.1)]) k := by kernel_rfl
  have h2 := draymanref13_Find_l0_eq 1000 (hdQ (.int .i64 (.sl (.str (.int .i64 (.nil))) (.int .i64 (.nil)))) ds) (hdI ds.tail) (hdI ds.tail.tail) (hdI ds.tail.tail.tail, hdQ (.str (.int .i64 (.nil))) ds.tail.tail.tail.tail, hdI ds.tail.tail.tail.tail.tail, ()) k
  exact h1.trans h2

theorem draymanref13_Find_ev {α : Type} : EvOk (α := α) Go.Proofs.Tryd.prog (envOf (draymanref13_Find_C) draymanref13_Find_q draymanref13_Find_inl 1000 draymanref13_Find_ann false (draymanref13_Find_loops) (fun _ => none)) 6 (draymanref13_Find_sp (draymanref13_Find)) := by intro ds k; kernel_rfl

theorem draymanref13_Find_ok {α : Type} : (draymanref13_Find_spec : FunSpec α).ok Go.Proofs.Tryd.prog :=
  FunSpec.ok_of (sp := draymanref13_Find_spec) (C := draymanref13_Find_C) (q := draymanref13_Find_q) (inl := draymanref13_Find_inl) (N := 1000) (ann := draymanref13_Find_ann) (fr := false) (D := 6) (l := (draymanref13_Find_loops)) (hk := (fun _ => none)) okNil (lokCons (draymanref13_Find_l0_ok) lokNil) noHooks (draymanref13_Find_ev)

end
end Go.Rv.Tryd

set_option linter.unusedVariables false
set_option maxRecDepth 100000
set_option maxHeartbeats 4000000
namespace Go.Rv.Tryd
open Go Go.Rv Go.RowKit
noncomputable section

-- drayman/draymanref13.Put

abbrev draymanref13_Put_T (α : Type) : Type := (Seq (Int × (Seq (ByteArray × Int × Unit)) × Int × Unit)) → (Int × (Seq (ByteArray × Int × Unit)) × Int × Unit) → (Int → (Seq (Int × (Seq (ByteArray × Int × Unit)) × Int × Unit)) → Option α) → Option α

noncomputable def draymanref13_Put_l0_step {α : Type} (draymanref13_Fit : draymanref13_Fit_T α) (draymanref13_One : draymanref13_One_T α) (draymanref13_Find : draymanref13_Find_T α) (k0 : (Seq (Int × (Seq (ByteArray × Int × Unit)) × Int × Unit)) → (Int) → (Int × (Seq (ByteArray × Int × Unit)) × Int × Unit) → (Seq (Int × (Seq (ByteArray × Int × Unit)) × Int × Unit)) → (Int × (Seq (ByteArray × Int × Unit)) × Int × Unit) → (Seq (Int × (Seq (ByteArray × Int × Unit)) × Int × Unit)) → Option α) (rec : (Seq (Int × (Seq (ByteArray × Int × Unit)) × Int × Unit)) → (Int) → (Int × (Seq (ByteArray × Int × Unit)) × Int × Unit) → (Seq (Int × (Seq (ByteArray × Int × Unit)) × Int × Unit)) → (Int × (Seq (ByteArray × Int × Unit)) × Int × Unit) → (Seq (Int × (Seq (ByteArray × Int × Unit)) × Int × Unit)) → Option α) (l7 : Seq (Int × (Seq (ByteArray × Int × Unit)) × Int × Unit)) (x8 : Int) (x9 : Int × (Seq (ByteArray × Int × Unit)) × Int × Unit) (q10 : Seq (Int × (Seq (ByteArray × Int × Unit)) × Int × Unit)) (x11 : Int × (Seq (ByteArray × Int × Unit)) × Int × Unit) (q12 : Seq (Int × (Seq (ByteArray × Int × Unit)) × Int × Unit)) : Option α :=
  (cond (decide (x8 < (l7.n : Int)))
    (cond (((decide ((0 : Int) ≤ x8)) && (decide (x8 < (l7.n : Int)))) && ((decide ((0 : Int) ≤ x8)) && (decide (x8 < (l7.n : Int)))))
      (cond (decide ((l7.g x8.toNat).1 < x9.1))
        (rec l7 (IntKind.i64.wrap (x8 + 1)) x9 q10 x11 q12)
        (k0 l7 x8 x9 q10 x11 q12))
      none)
    (k0 l7 x8 x9 q10 x11 q12))

noncomputable def draymanref13_Put_l0_run {α : Type} (draymanref13_Fit : draymanref13_Fit_T α) (draymanref13_One : draymanref13_One_T α) (draymanref13_Find : draymanref13_Find_T α) (k0 : (Seq (Int × (Seq (ByteArray × Int × Unit)) × Int × Unit)) → (Int) → (Int × (Seq (ByteArray × Int × Unit)) × Int × Unit) → (Seq (Int × (Seq (ByteArray × Int × Unit)) × Int × Unit)) → (Int × (Seq (ByteArray × Int × Unit)) × Int × Unit) → (Seq (Int × (Seq (ByteArray × Int × Unit)) × Int × Unit)) → Option α) : Nat → (Seq (Int × (Seq (ByteArray × Int × Unit)) × Int × Unit)) → (Int) → (Int × (Seq (ByteArray × Int × Unit)) × Int × Unit) → (Seq (Int × (Seq (ByteArray × Int × Unit)) × Int × Unit)) → (Int × (Seq (ByteArray × Int × Unit)) × Int × Unit) → (Seq (Int × (Seq (ByteArray × Int × Unit)) × Int × Unit)) → Option α
  | 0, _, _, _, _, _, _ => none
  | n + 1, l7, x8, x9, q10, x11, q12 => draymanref13_Put_l0_step draymanref13_Fit draymanref13_One draymanref13_Find k0 (fun l7 x8 x9 q10 x11 q12 => draymanref13_Put_l0_run draymanref13_Fit draymanref13_One draymanref13_Find k0 n l7 x8 x9 q10 x11 q12) l7 x8 x9 q10 x11 q12

noncomputable def draymanref13_Put_g {α : Type} (draymanref13_Fit : draymanref13_Fit_T α) (draymanref13_One : draymanref13_One_T α) (draymanref13_Find : draymanref13_Find_T α) (l1 : Seq (Int × (Seq (ByteArray × Int × Unit)) × Int × Unit)) (h2 : Int × (Seq (ByteArray × Int × Unit)) × Int × Unit) (k : Int → (Seq (Int × (Seq (ByteArray × Int × Unit)) × Int × Unit)) → Option α) : Option α :=
  (draymanref13_Fit l1 fun r3 =>
    (cond (!r3)
      (k 12 (⟨true, 0, (fun _ => (0, (⟨true, 0, fun _ => (ByteArray.empty, 0, ())⟩ : Seq (ByteArray × Int × Unit)), 0, ()))⟩ : Seq (Int × (Seq (ByteArray × Int × Unit)) × Int × Unit)))
      (draymanref13_One h2 fun r4 =>
        (cond (!r4)
          (k 1 (⟨true, 0, (fun _ => (0, (⟨true, 0, fun _ => (ByteArray.empty, 0, ())⟩ : Seq (ByteArray × Int × Unit)), 0, ()))⟩ : Seq (Int × (Seq (ByteArray × Int × Unit)) × Int × Unit)))
          (draymanref13_Find l1 h2.1 fun r5 r6 =>
            (cond r6
              (k 3 (⟨true, 0, (fun _ => (0, (⟨true, 0, fun _ => (ByteArray.empty, 0, ())⟩ : Seq (ByteArray × Int × Unit)), 0, ()))⟩ : Seq (Int × (Seq (ByteArray × Int × Unit)) × Int × Unit)))
              (cond ((l1.n : Int) == 16)
                (k 4 (⟨true, 0, (fun _ => (0, (⟨true, 0, fun _ => (ByteArray.empty, 0, ())⟩ : Seq (ByteArray × Int × Unit)), 0, ()))⟩ : Seq (Int × (Seq (ByteArray × Int × Unit)) × Int × Unit)))
                (draymanref13_Put_l0_run draymanref13_Fit draymanref13_One draymanref13_Find
                  (fun x13 x14 x15 q16 x17 q18 =>
                    (cond ((decide ((0 : Int) ≤ x14)) && (decide (x14 ≤ (x13.n : Int))))
                      (cond (decide (((q18.n + x14.toNat)) * 40 ≤ 140737488355328))
                        (cond (decide ((((q18.n + x14.toNat) + 1)) * 40 ≤ 140737488355328))
                          (cond ((decide ((0 : Int) ≤ x14)) && (decide (x14 ≤ (x13.n : Int))))
                            (cond (decide (((((q18.n + x14.toNat) + 1) + (x13.n - x14.toNat))) * 40 ≤ 140737488355328))
                              (k 0 (⟨(((q18.nl && (Nat.beq x14.toNat 0)) && false) && (Nat.beq (x13.n - x14.toNat) 0)), (((q18.n + x14.toNat) + 1) + (x13.n - x14.toNat)), (tApp ((q18.n + x14.toNat) + 1) (tApp (q18.n + x14.toNat) (tApp q18.n q18.g x13.g) (fun _ => x15)) (tShift x14.toNat x13.g))⟩ : Seq (Int × (Seq (ByteArray × Int × Unit)) × Int × Unit)))
                              none)
                            none)
                          none)
                        none)
                      none))
                  1000 l1 0 h2 (⟨true, 0, (fun _ => (0, (⟨true, 0, fun _ => (ByteArray.empty, 0, ())⟩ : Seq (ByteArray × Int × Unit)), 0, ()))⟩ : Seq (Int × (Seq (ByteArray × Int × Unit)) × Int × Unit)) r5 (⟨true, 0, (fun _ => (0, (⟨true, 0, fun _ => (ByteArray.empty, 0, ())⟩ : Seq (ByteArray × Int × Unit)), 0, ()))⟩ : Seq (Int × (Seq (ByteArray × Int × Unit)) × Int × Unit))))))))))

noncomputable def draymanref13_Put {α : Type} : draymanref13_Put_T α := draymanref13_Put_g draymanref13_Fit draymanref13_One draymanref13_Find

noncomputable def draymanref13_Put_sp {α : Type} (draymanref13_Put : draymanref13_Put_T α) : FunSpec α := ⟨26, [.sl (.int .i64 (.sl (.str (.int .i64 (.nil))) (.int .i64 (.nil)))), .agg [.int .i64, .sl (.str (.int .i64 (.nil))), .int .i64]], [], fun ds k => draymanref13_Put (hdQ (.int .i64 (.sl (.str (.int .i64 (.nil))) (.int .i64 (.nil)))) ds) (hdI ds.tail, hdQ (.str (.int .i64 (.nil))) ds.tail.tail, hdI ds.tail.tail.tail, ()) (fun r1 q2 => k (enc dep (.tup [.own 0, .int .i64]) [.i r1]).1 (encBs [.row true (.int .i64 (.sl (.str (.int .i64 (.nil))) (.int .i64 (.nil))))] [.q (.int .i64 (.sl (.str (.int .i64 (.nil))) (.int .i64 (.nil)))) q2]).1)⟩

noncomputable def draymanref13_Put_spec {α : Type} : FunSpec α := draymanref13_Put_sp draymanref13_Put

noncomputable def draymanref13_Put_C {α : Type} (draymanref13_Fit : draymanref13_Fit_T α) (draymanref13_One : draymanref13_One_T α) (draymanref13_Find : draymanref13_Find_T α) : List (FunSpec α) := [draymanref13_Fit_sp draymanref13_Fit, draymanref13_One_sp draymanref13_One, draymanref13_Find_sp draymanref13_Find]

noncomputable def draymanref13_Put_q : FuncId → Bool := fun f => Nat.beq f 33 || Nat.beq f 67

noncomputable def draymanref13_Put_inl : FuncId → Bool := fun f => false

noncomputable def draymanref13_Put_ann : FuncId → AnnT := fun f p => if f = 26 then (if p = [false, true, true, true, true, true, true, true] then ⟨[0, 3, 8, 9], [1, 3], [0, 3, 8, 9], [4, 5], 0, [], [], none⟩ else ⟨[], [], [], [], 0, [], [], none⟩) else ⟨[], [], [], [], 0, [], [], none⟩

noncomputable def draymanref13_Put_l0_t : List Sh := [.sl (.int .i64 (.sl (.str (.int .i64 (.nil))) (.int .i64 (.nil)))), .dead, .dead, .ref 0 0, .dead, .dead, .dead, .dead, .own 3, .int .i64, .dead, .dead, .dead, .dead, .dead, .dead, .dead, .dead, .dead, .dead, .dead, .dead, .dead, .dead, .dead, .dead, .dead, .dead, .dead, .dead, .dead, .dead, .dead, .dead, .dead, .dead, .dead, .dead, .dead, .dead, .dead, .dead, .dead, .dead, .dead, .dead, .dead, .dead, .dead, .dead, .dead, .dead, .dead, .dead, .dead, .dead, .dead]
noncomputable def draymanref13_Put_l0_s : List (List Sh) := []
noncomputable def draymanref13_Put_l0_h : List BSh := [.box [.int .i64, .sl (.str (.int .i64 (.nil))), .int .i64], .row true (.int .i64 (.sl (.str (.int .i64 (.nil))) (.int .i64 (.nil)))), .box [.int .i64, .sl (.str (.int .i64 (.nil))), .int .i64], .row true (.int .i64 (.sl (.str (.int .i64 (.nil))) (.int .i64 (.nil))))]

noncomputable def draymanref13_Put_l0_spec {α : Type} (draymanref13_Fit : draymanref13_Fit_T α) (draymanref13_One : draymanref13_One_T α) (draymanref13_Find : draymanref13_Find_T α) : LoopSpec α := ⟨6, 26, [false, true, true, true, true, true, true, true], draymanref13_Put_l0_t, draymanref13_Put_l0_s, draymanref13_Put_l0_h, fun ds k => draymanref13_Put_l0_run draymanref13_Fit draymanref13_One draymanref13_Find (fun y1 y2 y3 y4 y5 y6 => k (.exit 0) (encSt [.sl (.int .i64 (.sl (.str (.int .i64 (.nil))) (.int .i64 (.nil)))), .dead, .dead, .ref 0 0, .dead, .dead, .dead, .dead, .own 3, .int .i64, .dead, .dead, .dead, .dead, .dead, .dead, .dead, .dead, .dead, .dead, .dead, .dead, .dead, .dead, .dead, .dead, .dead, .dead, .dead, .dead, .dead, .dead, .dead, .dead, .dead, .dead, .dead, .dead, .dead, .dead, .dead, .dead, .dead, .dead, .dead, .dead, .dead, .dead, .dead, .dead, .dead, .dead, .dead, .dead, .dead, .dead, .dead] [] [.box [.int .i64, .sl (.str (.int .i64 (.nil))), .int .i64], .row true (.int .i64 (.sl (.str (.int .i64 (.nil))) (.int .i64 (.nil)))), .box [.int .i64, .sl (.str (.int .i64 (.nil))), .int .i64], .row true (.int .i64 (.sl (.str (.int .i64 (.nil))) (.int .i64 (.nil))))] [.q (.int .i64 (.sl (.str (.int .i64 (.nil))) (.int .i64 (.nil)))) y1, .i y2, .i y3.1, .q (.str (.int .i64 (.nil))) y3.2.1, .i y3.2.2.1, .q (.int .i64 (.sl (.str (.int .i64 (.nil))) (.int .i64 (.nil)))) y4, .i y5.1, .q (.str (.int .i64 (.nil))) y5.2.1, .i y5.2.2.1, .q (.int .i64 (.sl (.str (.int .i64 (.nil))) (.int .i64 (.nil)))) y6])) 1000 (hdQ (.int .i64 (.sl (.str (.int .i64 (.nil))) (.int .i64 (.nil)))) ds) (hdI ds.tail) (hdI ds.tail.tail, hdQ (.str (.int .i64 (.nil))) ds.tail.tail.tail, hdI ds.tail.tail.tail.tail, ()) (hdQ (.int .i64 (.sl (.str (.int .i64 (.nil))) (.int .i64 (.nil)))) ds.tail.tail.tail.tail.tail) (hdI ds.tail.tail.tail.tail.tail.tail, hdQ (.str (.int .i64 (.nil))) ds.tail.tail.tail.tail.tail.tail.tail, hdI ds.tail.tail.tail.tail.tail.tail.tail.tail, ()) (hdQ (.int .i64 (.sl (.str (.int .i64 (.nil))) (.int .i64 (.nil)))) ds.tail.tail.tail.tail.tail.tail.tail.tail.tail)⟩

noncomputable def draymanref13_Put_loops {α : Type} (draymanref13_Fit : draymanref13_Fit_T α) (draymanref13_One : draymanref13_One_T α) (draymanref13_Find : draymanref13_Find_T α) : List (LoopSpec α) := [draymanref13_Put_l0_spec draymanref13_Fit draymanref13_One draymanref13_Find]

noncomputable def draymanref13_Put_l0_ev {α : Type} (draymanref13_Fit : draymanref13_Fit_T α) (draymanref13_One : draymanref13_One_T α) (draymanref13_Find : draymanref13_Find_T α) (n : Nat) (st : St) (k : X → St → Option α) : Option α := loopN (evCode Go.Proofs.Tryd.prog (callD Go.Proofs.Tryd.prog (envOf (draymanref13_Put_C draymanref13_Fit draymanref13_One draymanref13_Find) draymanref13_Put_q draymanref13_Put_inl 1000 draymanref13_Put_ann false (draymanref13_Put_loops draymanref13_Fit draymanref13_One draymanref13_Find) (fun _ => none)) 6) (((envOf (draymanref13_Put_C draymanref13_Fit draymanref13_One draymanref13_Find) draymanref13_Put_q draymanref13_Put_inl 1000 draymanref13_Put_ann false (draymanref13_Put_loops draymanref13_Fit draymanref13_One draymanref13_Find) (fun _ => none)) : Env α).L 6 26) 1000 (draymanref13_Put_ann 26) (false :: [false, true, true, true, true, true, true, true]) (loopC Go.Proofs.Tryd.prog 26 [false, true, true, true, true, true, true, true])) ((draymanref13_Put_ann 26 [false, true, true, true, true, true, true, true]).head 4) ((draymanref13_Put_ann 26 [false, true, true, true, true, true, true, true]).leave 4) n st k

theorem draymanref13_Put_l0_eq {α : Type} (draymanref13_Fit : draymanref13_Fit_T α) (draymanref13_One : draymanref13_One_T α) (draymanref13_Find : draymanref13_Find_T α) : ∀ (n : Nat) (l7 : Seq (Int × (Seq (ByteArray × Int × Unit)) × Int × Unit)) (x8 : Int) (x9 : Int × (Seq (ByteArray × Int × Unit)) × Int × Unit) (q10 : Seq (Int × (Seq (ByteArray × Int × Unit)) × Int × Unit)) (x11 : Int × (Seq (ByteArray × Int × Unit)) × Int × Unit) (q12 : Seq (Int × (Seq (ByteArray × Int × Unit)) × Int × Unit)) (k : X → St → Option α), draymanref13_Put_l0_ev draymanref13_Fit draymanref13_One draymanref13_Find n (encSt draymanref13_Put_l0_t draymanref13_Put_l0_s draymanref13_Put_l0_h [.q (.int .i64 (.sl (.str (.int .i64 (.nil))) (.int .i64 (.nil)))) l7, .i x8, .i x9.1, .q (.str (.int .i64 (.nil))) x9.2.1, .i x9.2.2.1, .q (.int .i64 (.sl (.str (.int .i64 (.nil))) (.int .i64 (.nil)))) q10, .i x11.1, .q (.str (.int .i64 (.nil))) x11.2.1, .i x11.2.2.1, .q (.int .i64 (.sl (.str (.int .i64 (.nil))) (.int .i64 (.nil)))) q12]) k = draymanref13_Put_l0_run draymanref13_Fit draymanref13_One draymanref13_Find (fun y1 y2 y3 y4 y5 y6 => k (.exit 0) (encSt [.sl (.int .i64 (.sl (.str (.int .i64 (.nil))) (.int .i64 (.nil)))), .dead, .dead, .ref 0 0, .dead, .dead, .dead, .dead, .own 3, .int .i64, .dead, .dead, .dead, .dead, .dead, .dead, .dead, .dead, .dead, .dead, .dead, .dead, .dead, .dead, .dead, .dead, .dead, .dead, .dead, .dead, .dead, .dead, .dead, .dead, .dead, .dead, .dead, .dead, .dead, .dead, .dead, .dead, .dead, .dead, .dead, .dead, .dead, .dead, .dead, .dead, .dead, .dead, .dead, .dead, .dead, .dead, .dead] [] [.box [.int .i64, .sl (.str (.int .i64 (.nil))), .int .i64], .row true (.int .i64 (.sl (.str (.int .i64 (.nil))) (.int .i64 (.nil)))), .box [.int .i64, .sl (.str (.int .i64 (.nil))), .int .i64], .row true (.int .i64 (.sl (.str (.int .i64 (.nil))) (.int .i64 (.nil))))] [.q (.int .i64 (.sl (.str (.int .i64 (.nil))) (.int .i64 (.nil)))) y1, .i y2, .i y3.1, .q (.str (.int .i64 (.nil))) y3.2.1, .i y3.2.2.1, .q (.int .i64 (.sl (.str (.int .i64 (.nil))) (.int .i64 (.nil)))) y4, .i y5.1, .q (.str (.int .i64 (.nil))) y5.2.1, .i y5.2.2.1, .q (.int .i64 (.sl (.str (.int .i64 (.nil))) (.int .i64 (.nil)))) y6])) n l7 x8 x9 q10 x11 q12 := by
  intro n
  induction n with
  | zero => intros; kernel_rfl
  | succ n ih =>
    intro l7 x8 x9 q10 x11 q12 k
    have e : (fun (l7 : Seq (Int × (Seq (ByteArray × Int × Unit)) × Int × Unit)) (x8 : Int) (x9 : Int × (Seq (ByteArray × Int × Unit)) × Int × Unit) (q10 : Seq (Int × (Seq (ByteArray × Int × Unit)) × Int × Unit)) (x11 : Int × (Seq (ByteArray × Int × Unit)) × Int × Unit) (q12 : Seq (Int × (Seq (ByteArray × Int × Unit)) × Int × Unit)) => draymanref13_Put_l0_ev draymanref13_Fit draymanref13_One draymanref13_Find n (encSt draymanref13_Put_l0_t draymanref13_Put_l0_s draymanref13_Put_l0_h [.q (.int .i64 (.sl (.str (.int .i64 (.nil))) (.int .i64 (.nil)))) l7, .i x8, .i x9.1, .q (.str (.int .i64 (.nil))) x9.2.1, .i x9.2.2.1, .q (.int .i64 (.sl (.str (.int .i64 (.nil))) (.int .i64 (.nil)))) q10, .i x11.1, .q (.str (.int .i64 (.nil))) x11.2.1, .i x11.2.2.1, .q (.int .i64 (.sl (.str (.int .i64 (.nil))) (.int .i64 (.nil)))) q12]) k) = (fun (l7 : Seq (Int × (Seq (ByteArray × Int × Unit)) × Int × Unit)) (x8 : Int) (x9 : Int × (Seq (ByteArray × Int × Unit)) × Int × Unit) (q10 : Seq (Int × (Seq (ByteArray × Int × Unit)) × Int × Unit)) (x11 : Int × (Seq (ByteArray × Int × Unit)) × Int × Unit) (q12 : Seq (Int × (Seq (ByteArray × Int × Unit)) × Int × Unit)) => draymanref13_Put_l0_run draymanref13_Fit draymanref13_One draymanref13_Find (fun y1 y2 y3 y4 y5 y6 => k (.exit 0) (encSt [.sl (.int .i64 (.sl (.str (.int .i64 (.nil))) (.int .i64 (.nil)))), .dead, .dead, .ref 0 0, .dead, .dead, .dead, .dead, .own 3, .int .i64, .dead, .dead, .dead, .dead, .dead, .dead, .dead, .dead, .dead, .dead, .dead, .dead, .dead, .dead, .dead, .dead, .dead, .dead, .dead, .dead, .dead, .dead, .dead, .dead, .dead, .dead, .dead, .dead, .dead, .dead, .dead, .dead, .dead, .dead, .dead, .dead, .dead, .dead, .dead, .dead, .dead, .dead, .dead, .dead, .dead, .dead, .dead] [] [.box [.int .i64, .sl (.str (.int .i64 (.nil))), .int .i64], .row true (.int .i64 (.sl (.str (.int .i64 (.nil))) (.int .i64 (.nil)))), .box [.int .i64, .sl (.str (.int .i64 (.nil))), .int .i64], .row true (.int .i64 (.sl (.str (.int .i64 (.nil))) (.int .i64 (.nil))))] [.q (.int .i64 (.sl (.str (.int .i64 (.nil))) (.int .i64 (.nil)))) y1, .i y2, .i y3.1, .q (.str (.int .i64 (.nil))) y3.2.1, .i y3.2.2.1, .q (.int .i64 (.sl (.str (.int .i64 (.nil))) (.int .i64 (.nil)))) y4, .i y5.1, .q (.str (.int .i64 (.nil))) y5.2.1, .i y5.2.2.1, .q (.int .i64 (.sl (.str (.int .i64 (.nil))) (.int .i64 (.nil)))) y6])) n l7 x8 x9 q10 x11 q12) := by
      funext l7 x8 x9 q10 x11 q12
      exact ih l7 x8 x9 q10 x11 q12 k
    have h1 : draymanref13_Put_l0_ev draymanref13_Fit draymanref13_One draymanref13_Find (n + 1) (encSt draymanref13_Put_l0_t draymanref13_Put_l0_s draymanref13_Put_l0_h [.q (.int .i64 (.sl (.str (.int .i64 (.nil))) (.int .i64 (.nil)))) l7, .i x8, .i x9.1, .q (.str (.int .i64 (.nil))) x9.2.1, .i x9.2.2.1, .q (.int .i64 (.sl (.str (.int .i64 (.nil))) (.int .i64 (.nil)))) q10, .i x11.1, .q (.str (.int .i64 (.nil))) x11.2.1, .i x11.2.2.1, .q (.int .i64 (.sl (.str (.int .i64 (.nil))) (.int .i64 (.nil)))) q12]) k = draymanref13_Put_l0_step draymanref13_Fit draymanref13_One draymanref13_Find (fun y1 y2 y3 y4 y5 y6 => k (.exit 0) (encSt [.sl (.int .i64 (.sl (.str (.int .i64 (.nil))) (.int .i64 (.nil)))), .dead, .dead, .ref 0 0, .dead, .dead, .dead, .dead, .own 3, .int .i64, .dead, .dead, .dead, .dead, .dead, .dead, .dead, .dead, .dead, .dead, .dead, .dead, .dead, .dead, .dead, .dead, .dead, .dead, .dead, .dead, .dead, .dead, .dead, .dead, .dead, .dead, .dead, .dead, .dead, .dead, .dead, .dead, .dead, .dead, .dead, .dead, .dead, .dead, .dead, .dead, .dead, .dead, .dead, .dead, .dead, .dead, .dead] [] [.box [.int .i64, .sl (.str (.int .i64 (.nil))), .int .i64], .row true (.int .i64 (.sl (.str (.int .i64 (.nil))) (.int .i64 (.nil)))), .box [.int .i64, .sl (.str (.int .i64 (.nil))), .int .i64], .row true (.int .i64 (.sl (.str (.int .i64 (.nil))) (.int .i64 (.nil))))] [.q (.int .i64 (.sl (.str (.int .i64 (.nil))) (.int .i64 (.nil)))) y1, .i y2, .i y3.1, .q (.str (.int .i64 (.nil))) y3.2.1, .i y3.2.2.1, .q (.int .i64 (.sl (.str (.int .i64 (.nil))) (.int .i64 (.nil)))) y4, .i y5.1, .q (.str (.int .i64 (.nil))) y5.2.1, .i y5.2.2.1, .q (.int .i64 (.sl (.str (.int .i64 (.nil))) (.int .i64 (.nil)))) y6])) (fun (l7 : Seq (Int × (Seq (ByteArray × Int × Unit)) × Int × Unit)) (x8 : Int) (x9 : Int × (Seq (ByteArray × Int × Unit)) × Int × Unit) (q10 : Seq (Int × (Seq (ByteArray × Int × Unit)) × Int × Unit)) (x11 : Int × (Seq (ByteArray × Int × Unit)) × Int × Unit) (q12 : Seq (Int × (Seq (ByteArray × Int × Unit)) × Int × Unit)) => draymanref13_Put_l0_ev draymanref13_Fit draymanref13_One draymanref13_Find n (encSt draymanref13_Put_l0_t draymanref13_Put_l0_s draymanref13_Put_l0_h [.q (.int .i64 (.sl (.str (.int .i64 (.nil))) (.int .i64 (.nil)))) l7, .i x8, .i x9.1, .q (.str (.int .i64 (.nil))) x9.2.1, .i x9.2.2.1, .q (.int .i64 (.sl (.str (.int .i64 (.nil))) (.int .i64 (.nil)))) q10, .i x11.1, .q (.str (.int .i64 (.nil))) x11.2.1, .i x11.2.2.1, .q (.int .i64 (.sl (.str (.int .i64 (.nil))) (.int .i64 (.nil)))) q12]) k) l7 x8 x9 q10 x11 q12 := by kernel_rfl
    have h2 := congrArg (fun r => draymanref13_Put_l0_step draymanref13_Fit draymanref13_One draymanref13_Find (fun y1 y2 y3 y4 y5 y6 => k (.exit 0) (encSt [.sl (.int .i64 (.sl (.str (.int .i64 (.nil))) (.int .i64 (.nil)))), .dead, .dead, .ref 0 0, .dead, .dead, .dead, .dead, .own 3, .int .i64, .dead, .dead, .dead, .dead, .dead, .dead, .dead, .dead, .dead, .dead, .dead, .dead, .dead, .dead, .dead, .dead, .dead, .dead, .dead, .dead, .dead, .dead, .dead, .dead, .dead, .dead, .dead, .dead, .dead, .dead, .dead, .dead, .dead, .dead, .dead, .dead, .dead, .dead, .dead, .dead, .dead, .dead, .dead, .dead, .dead, .dead, .dead] [] [.box [.int .i64, .sl (.str (.int .i64 (.nil))), .int .i64], .row true (.int .i64 (.sl (.str (.int .i64 (.nil))) (.int .i64 (.nil)))), .box [.int .i64, .sl (.str (.int .i64 (.nil))), .int .i64], .row true (.int .i64 (.sl (.str (.int .i64 (.nil))) (.int .i64 (.nil))))] [.q (.int .i64 (.sl (.str (.int .i64 (.nil))) (.int .i64 (.nil)))) y1, .i y2, .i y3.1, .q (.str (.int .i64 (.nil))) y3.2.1, .i y3.2.2.1, .q (.int .i64 (.sl (.str (.int .i64 (.nil))) (.int .i64 (.nil)))) y4, .i y5.1, .q (.str (.int .i64 (.nil))) y5.2.1, .i y5.2.2.1, .q (.int .i64 (.sl (.str (.int .i64 (.nil))) (.int .i64 (.nil)))) y6])) r l7 x8 x9 q10 x11 q12) e
    have h3 : draymanref13_Put_l0_step draymanref13_Fit draymanref13_One draymanref13_Find (fun y1 y2 y3 y4 y5 y6 => k (.exit 0) (encSt [.sl (.int .i64 (.sl (.str (.int .i64 (.nil))) (.int .i64 (.nil)))), .dead, .dead, .ref 0 0, .dead, .dead, .dead, .dead, .own 3, .int .i64, .dead, .dead, .dead, .dead, .dead, .dead, .dead, .dead, .dead, .dead, .dead, .dead, .dead, .dead, .dead, .dead, .dead, .dead, .dead, .dead, .dead, .dead, .dead, .dead, .dead, .dead, .dead, .dead, .dead, .dead, .dead, .dead, .dead, .dead, .dead, .dead, .dead, .dead, .dead, .dead, .dead, .dead, .dead, .dead, .dead, .dead, .dead] [] [.box [.int .i64, .sl (.str (.int .i64 (.nil))), .int .i64], .row true (.int .i64 (.sl (.str (.int .i64 (.nil))) (.int .i64 (.nil)))), .box [.int .i64, .sl (.str (.int .i64 (.nil))), .int .i64], .row true (.int .i64 (.sl (.str (.int .i64 (.nil))) (.int .i64 (.nil))))] [.q (.int .i64 (.sl (.str (.int .i64 (.nil))) (.int .i64 (.nil)))) y1, .i y2, .i y3.1, .q (.str (.int .i64 (.nil))) y3.2.1, .i y3.2.2.1, .q (.int .i64 (.sl (.str (.int .i64 (.nil))) (.int .i64 (.nil)))) y4, .i y5.1, .q (.str (.int .i64 (.nil))) y5.2.1, .i y5.2.2.1, .q (.int .i64 (.sl (.str (.int .i64 (.nil))) (.int .i64 (.nil)))) y6])) (fun (l7 : Seq (Int × (Seq (ByteArray × Int × Unit)) × Int × Unit)) (x8 : Int) (x9 : Int × (Seq (ByteArray × Int × Unit)) × Int × Unit) (q10 : Seq (Int × (Seq (ByteArray × Int × Unit)) × Int × Unit)) (x11 : Int × (Seq (ByteArray × Int × Unit)) × Int × Unit) (q12 : Seq (Int × (Seq (ByteArray × Int × Unit)) × Int × Unit)) => draymanref13_Put_l0_run draymanref13_Fit draymanref13_One draymanref13_Find (fun y1 y2 y3 y4 y5 y6 => k (.exit 0) (encSt [.sl (.int .i64 (.sl (.str (.int .i64 (.nil))) (.int .i64 (.nil)))), .dead, .dead, .ref 0 0, .dead, .dead, .dead, .dead, .own 3, .int .i64, .dead, .dead, .dead, .dead, .dead, .dead, .dead, .dead, .dead, .dead, .dead, .dead, .dead, .dead, .dead, .dead, .dead, .dead, .dead, .dead, .dead, .dead, .dead, .dead, .dead, .dead, .dead, .dead, .dead, .dead, .dead, .dead, .dead, .dead, .dead, .dead, .dead, .dead, .dead, .dead, .dead, .dead, .dead, .dead, .dead, .dead, .dead] [] [.box [.int .i64, .sl (.str (.int .i64 (.nil))), .int .i64], .row true (.int .i64 (.sl (.str (.int .i64 (.nil))) (.int .i64 (.nil)))), .box [.int .i64, .sl (.str (.int .i64 (.nil))), .int .i64], .row true (.int .i64 (.sl (.str (.int .i64 (.nil))) (.int .i64 (.nil))))] [.q (.int .i64 (.sl (.str (.int .i64 (.nil))) (.int .i64 (.nil)))) y1, .i y2, .i y3.1, .q (.str (.int .i64 (.nil))) y3.2.1, .i y3.2.2.1, .q (.int .i64 (.sl (.str (.int .i64 (.nil))) (.int .i64 (.nil)))) y4, .i y5.1, .q (.str (.int .i64 (.nil))) y5.2.1, .i y5.2.2.1, .q (.int .i64 (.sl (.str (.int .i64 (.nil))) (.int .i64 (.nil)))) y6])) n l7 x8 x9 q10 x11 q12) l7 x8 x9 q10 x11 q12 = draymanref13_Put_l0_run draymanref13_Fit draymanref13_One draymanref13_Find (fun y1 y2 y3 y4 y5 y6 => k (.exit 0) (encSt [.sl (.int .i64 (.sl (.str (.int .i64 (.nil))) (.int .i64 (.nil)))), .dead, .dead, .ref 0 0, .dead, .dead, .dead, .dead, .own 3, .int .i64, .dead, .dead, .dead, .dead, .dead, .dead, .dead, .dead, .dead, .dead, .dead, .dead, .dead, .dead, .dead, .dead, .dead, .dead, .dead, .dead, .dead, .dead, .dead, .dead, .dead, .dead, .dead, .dead, .dead, .dead, .dead, .dead, .dead, .dead, .dead, .dead, .dead, .dead, .dead, .dead, .dead, .dead, .dead, .dead, .dead, .dead, .dead] [] [.box [.int .i64, .sl (.str (.int .i64 (.nil))), .int .i64], .row true (.int .i64 (.sl (.str (.int .i64 (.nil))) (.int .i64 (.nil)))), .box [.int .i64, .sl (.str (.int .i64 (.nil))), .int .i64], .row true (.int .i64 (.sl (.str (.int .i64 (.nil))) (.int .i64 (.nil))))] [.q (.int .i64 (.sl (.str (.int .i64 (.nil))) (.int .i64 (.nil)))) y1, .i y2, .i y3.1, .q (.str (.int .i64 (.nil))) y3.2.1, .i y3.2.2.1, .q (.int .i64 (.sl (.str (.int .i64 (.nil))) (.int .i64 (.nil)))) y4, .i y5.1, .q (.str (.int .i64 (.nil))) y5.2.1, .i y5.2.2.1, .q (.int .i64 (.sl (.str (.int .i64 (.nil))) (.int .i64 (.nil)))) y6])) (n + 1) l7 x8 x9 q10 x11 q12 := by kernel_rfl
    exact h1.trans (h2.trans h3)

theorem draymanref13_Put_l0_ok {α : Type} (draymanref13_Fit : draymanref13_Fit_T α) (draymanref13_One : draymanref13_One_T α) (draymanref13_Find : draymanref13_Find_T α) : (draymanref13_Put_l0_spec draymanref13_Fit draymanref13_One draymanref13_Find : LoopSpec α).ok Go.Proofs.Tryd.prog (envOf (draymanref13_Put_C draymanref13_Fit draymanref13_One draymanref13_Find) draymanref13_Put_q draymanref13_Put_inl 1000 draymanref13_Put_ann false (draymanref13_Put_loops draymanref13_Fit draymanref13_One draymanref13_Find) (fun _ => none)) := by
  intro ds k
  have h1 : draymanref13_Put_l0_ev draymanref13_Fit draymanref13_One draymanref13_Find 1000 (encSt draymanref13_Put_l0_t draymanref13_Put_l0_s draymanref13_Put_l0_h ds) k = draymanref13_Put_l0_ev draymanref13_Fit draymanref13_One draymanref13_Find 1000 (encSt draymanref13_Put_l0_t draymanref13_Put_l0_s draymanref13_Put_l0_h [.q (.int .i64 (.sl (.str (.int .i64 (.nil))) (.int .i64 (.nil)))) (hdQ (.int .i64 (.sl (.str (.int .i64 (.nil))) (.int .i64 (.nil)))) ds), .i (hdI ds.tail), .i ((hdI ds.tail.tail, hdQ (.str (.int .i64 (.nil))) ds.tail.tail.tail, hdI ds.tail.tail.tail.tail, ()).1), .q (.str (.int .i64 (.nil))) ((hdI ds.tail.tail, hdQ (.str (.int .i64 (.nil))) ds.tail.tail.tail, hdI ds.tail.tail.tail.tail, ()).2.1), .i ((hdI ds.tail.tail, hdQ (.str (.int .i64 (.nil))) ds.tail.tail.tail, hdI ds.tail.tail.tail.tail, ()).2.2.1), .q (.int .i64 (.sl (.str (.int .i64 (.nil))) (.int .i64 (.nil)))) (hdQ (.int .i64 (.sl (.str (.int .i64 (.nil))) (.int .i64 (.nil)))) ds.tail.tail.tail.tail.tail), .i ((hdI ds.tail.tail.tail.tail.tail.tail, hdQ (.str (.int .i64 (.nil))) ds.tail.tail.tail.tail.tail.tail.tail, hdI ds.tail.tail.tail.tail.tail.tail.tail.tail, ()).1), .q (.str (.int .i64 (.nil))) ((hdI ds.tail.tail.tail.tail.tail.tail, hdQ (.str (.int .i64 (.nil))) ds.tail.tail.tail.tail.tail.tail.tail, hdI ds.tail.tail.tail.tail.tail.tail.tail.tail, ()).2.1), .i ((hdI ds.tail.tail.tail.tail.tail.tail, hdQ (.str (.int .i64 (.nil))) ds.tail.tail.tail.tail.tail.tail.tail, hdI ds.tail.tail.tail.tail.tail.tail.tail.tail, ()).2.2.1), .q (.int .i64 (.sl (.str (.int .i64 (.nil))) (.int .i64 (.nil)))) (hdQ (.int .i64 (.sl (.str (.int .i64 (.nil))) (.int .i64 (.nil)))) ds.tail.tail.tail.tail.tail.tail.tail.tail.tail)]) k := by kernel_rfl
  have h2 := draymanref13_Put_l0_eq draymanref13_Fit draymanref13_One draymanref13_Find 1000 (hdQ (.int .i64 (.sl (.str (.int .i64 (.nil))) (.int .i64 (.nil)))) ds) (hdI ds.tail) (hdI ds.tail.tail, hdQ (.str (.int .i64 (.nil))) ds.tail.tail.tail, hdI ds.tail.tail.tail.tail, ()) (hdQ (.int .i64 (.sl (.str (.int .i64 (.nil))) (.int .i64 (.nil)))) ds.tail.tail.tail.tail.tail) (hdI ds.tail.tail.tail.tail.tail.tail, hdQ (.str (.int .i64 (.nil))) ds.tail.tail.tail.tail.tail.tail.tail, hdI ds.tail.tail.tail.tail.tail.tail.tail.tail, ()) (hdQ (.int .i64 (.sl (.str (.int .i64 (.nil))) (.int .i64 (.nil)))) ds.tail.tail.tail.tail.tail.tail.tail.tail.tail) k
  exact h1.trans h2

theorem draymanref13_Put_ev {α : Type} (draymanref13_Fit : draymanref13_Fit_T α) (draymanref13_One : draymanref13_One_T α) (draymanref13_Find : draymanref13_Find_T α) : EvOk (α := α) Go.Proofs.Tryd.prog (envOf (draymanref13_Put_C draymanref13_Fit draymanref13_One draymanref13_Find) draymanref13_Put_q draymanref13_Put_inl 1000 draymanref13_Put_ann false (draymanref13_Put_loops draymanref13_Fit draymanref13_One draymanref13_Find) (fun _ => none)) 6 (draymanref13_Put_sp (draymanref13_Put_g draymanref13_Fit draymanref13_One draymanref13_Find)) := by intro ds k; kernel_rfl

theorem draymanref13_Put_ok {α : Type} : (draymanref13_Put_spec : FunSpec α).ok Go.Proofs.Tryd.prog :=
  FunSpec.ok_of (sp := draymanref13_Put_spec) (C := draymanref13_Put_C draymanref13_Fit draymanref13_One draymanref13_Find) (q := draymanref13_Put_q) (inl := draymanref13_Put_inl) (N := 1000) (ann := draymanref13_Put_ann) (fr := false) (D := 6) (l := (draymanref13_Put_loops draymanref13_Fit draymanref13_One draymanref13_Find)) (hk := (fun _ => none)) (okCons draymanref13_Fit_ok (okCons draymanref13_One_ok (okCons draymanref13_Find_ok okNil))) (lokCons (draymanref13_Put_l0_ok draymanref13_Fit draymanref13_One draymanref13_Find) lokNil) noHooks (draymanref13_Put_ev draymanref13_Fit draymanref13_One draymanref13_Find)

end
end Go.Rv.Tryd

set_option linter.unusedVariables false
set_option maxRecDepth 100000
set_option maxHeartbeats 4000000
namespace Go.Rv.Tryd
open Go Go.Rv Go.RowKit
noncomputable section

-- drayman/holds.Drop

abbrev holds_Drop_T (α : Type) : Type := (Seq (Int × (Seq (ByteArray × Int × Unit)) × Int × Unit)) → Int → (Int → (Seq (Int × (Seq (ByteArray × Int × Unit)) × Int × Unit)) → Option α) → Option α

noncomputable def holds_Drop_g {α : Type} (slices_IndexFunc_api_Hold_api_Hold : slices_IndexFunc_api_Hold_api_Hold_T α) (holds_Fit : holds_Fit_T α) (slices_Concat_api_Hold_api_Hold : slices_Concat_api_Hold_api_Hold_T α) (l1 : Seq (Int × (Seq (ByteArray × Int × Unit)) × Int × Unit)) (saga2 : Int) (k : Int → (Seq (Int × (Seq (ByteArray × Int × Unit)) × Int × Unit)) → Option α) : Option α :=
  (slices_IndexFunc_api_Hold_api_Hold l1 saga2 fun r3 x4 =>
    (holds_Fit l1 fun r5 =>
      (cond (!r5)
        (k 12 (⟨true, 0, (fun _ => (0, (⟨true, 0, fun _ => (ByteArray.empty, 0, ())⟩ : Seq (ByteArray × Int × Unit)), 0, ()))⟩ : Seq (Int × (Seq (ByteArray × Int × Unit)) × Int × Unit)))
        (cond (decide (r3 < 0))
          (k 2 (⟨true, 0, (fun _ => (0, (⟨true, 0, fun _ => (ByteArray.empty, 0, ())⟩ : Seq (ByteArray × Int × Unit)), 0, ()))⟩ : Seq (Int × (Seq (ByteArray × Int × Unit)) × Int × Unit)))
          (cond ((((decide ((0 : Int) ≤ r3)) && (decide (r3 ≤ (l1.n : Int)))) && (decide (r3 = r3))) && (((decide ((0 : Int) ≤ r3)) && (decide (r3 ≤ (l1.n : Int)))) && (decide (r3 = r3))))
            (cond (((decide ((0 : Int) ≤ (IntKind.i64.wrap (r3 + 1)))) && (decide ((IntKind.i64.wrap (r3 + 1)) ≤ (l1.n : Int)))) && ((decide ((0 : Int) ≤ (IntKind.i64.wrap (r3 + 1)))) && (decide ((IntKind.i64.wrap (r3 + 1)) ≤ (l1.n : Int)))))
              (slices_Concat_api_Hold_api_Hold (⟨false, 2, (tSel [((⟨l1.nl, r3.toNat, l1.g⟩ : Seq (Int × (Seq (ByteArray × Int × Unit)) × Int × Unit)), ()), ((⟨l1.nl, (l1.n - (IntKind.i64.wrap (r3 + 1)).toNat), (tShift (IntKind.i64.wrap (r3 + 1)).toNat l1.g)⟩ : Seq (Int × (Seq (ByteArray × Int × Unit)) × Int × Unit)), ())] ((⟨true, 0, fun _ => (0, (⟨true, 0, fun _ => (ByteArray.empty, 0, ())⟩ : Seq (ByteArray × Int × Unit)), 0, ())⟩ : Seq (Int × (Seq (ByteArray × Int × Unit)) × Int × Unit)), ()))⟩ : Seq ((Seq (Int × (Seq (ByteArray × Int × Unit)) × Int × Unit)) × Unit)) fun r6 =>
                (k 0 r6))
              none)
            none)))))

noncomputable def holds_Drop {α : Type} : holds_Drop_T α := holds_Drop_g slices_IndexFunc_api_Hold_api_Hold holds_Fit slices_Concat_api_Hold_api_Hold

noncomputable def holds_Drop_sp {α : Type} (holds_Drop : holds_Drop_T α) : FunSpec α := ⟨27, [.sl (.int .i64 (.sl (.str (.int .i64 (.nil))) (.int .i64 (.nil)))), .int .i64], [], fun ds k => holds_Drop (hdQ (.int .i64 (.sl (.str (.int .i64 (.nil))) (.int .i64 (.nil)))) ds) (hdI ds.tail) (fun r1 q2 => k (enc dep (.tup [.own 0, .int .i64]) [.i r1]).1 (encBs [.row true (.int .i64 (.sl (.str (.int .i64 (.nil))) (.int .i64 (.nil))))] [.q (.int .i64 (.sl (.str (.int .i64 (.nil))) (.int .i64 (.nil)))) q2]).1)⟩

noncomputable def holds_Drop_spec {α : Type} : FunSpec α := holds_Drop_sp holds_Drop

noncomputable def holds_Drop_C {α : Type} (slices_IndexFunc_api_Hold_api_Hold : slices_IndexFunc_api_Hold_api_Hold_T α) (holds_Fit : holds_Fit_T α) (slices_Concat_api_Hold_api_Hold : slices_Concat_api_Hold_api_Hold_T α) : List (FunSpec α) := [slices_IndexFunc_api_Hold_api_Hold_sp slices_IndexFunc_api_Hold_api_Hold, holds_Fit_sp holds_Fit, slices_Concat_api_Hold_api_Hold_sp slices_Concat_api_Hold_api_Hold]

noncomputable def holds_Drop_q : FuncId → Bool := fun f => Nat.beq f 32 || Nat.beq f 63

noncomputable def holds_Drop_inl : FuncId → Bool := fun f => Nat.beq f 62

noncomputable def holds_Drop_ann : FuncId → AnnT := fun f p => if f = 27 then (if p = [false, true, true, true] then ⟨[], [], [], [], 2, [], [], none⟩ else ⟨[], [], [], [], 0, [], [], none⟩) else ⟨[], [], [], [], 0, [], [], none⟩

noncomputable def holds_Drop_loops {α : Type} (slices_IndexFunc_api_Hold_api_Hold : slices_IndexFunc_api_Hold_api_Hold_T α) (holds_Fit : holds_Fit_T α) (slices_Concat_api_Hold_api_Hold : slices_Concat_api_Hold_api_Hold_T α) : List (LoopSpec α) := []

theorem holds_Drop_ev {α : Type} (slices_IndexFunc_api_Hold_api_Hold : slices_IndexFunc_api_Hold_api_Hold_T α) (holds_Fit : holds_Fit_T α) (slices_Concat_api_Hold_api_Hold : slices_Concat_api_Hold_api_Hold_T α) : EvOk (α := α) Go.Proofs.Tryd.prog (envOf (holds_Drop_C slices_IndexFunc_api_Hold_api_Hold holds_Fit slices_Concat_api_Hold_api_Hold) holds_Drop_q holds_Drop_inl 1000 holds_Drop_ann false (holds_Drop_loops slices_IndexFunc_api_Hold_api_Hold holds_Fit slices_Concat_api_Hold_api_Hold) (fun _ => none)) 6 (holds_Drop_sp (holds_Drop_g slices_IndexFunc_api_Hold_api_Hold holds_Fit slices_Concat_api_Hold_api_Hold)) := by intro ds k; kernel_rfl

theorem holds_Drop_ok {α : Type} : (holds_Drop_spec : FunSpec α).ok Go.Proofs.Tryd.prog :=
  FunSpec.ok_of (sp := holds_Drop_spec) (C := holds_Drop_C slices_IndexFunc_api_Hold_api_Hold holds_Fit slices_Concat_api_Hold_api_Hold) (q := holds_Drop_q) (inl := holds_Drop_inl) (N := 1000) (ann := holds_Drop_ann) (fr := false) (D := 6) (l := (holds_Drop_loops slices_IndexFunc_api_Hold_api_Hold holds_Fit slices_Concat_api_Hold_api_Hold)) (hk := (fun _ => none)) (okCons slices_IndexFunc_api_Hold_api_Hold_ok (okCons holds_Fit_ok (okCons slices_Concat_api_Hold_api_Hold_ok okNil))) lokNil noHooks (holds_Drop_ev slices_IndexFunc_api_Hold_api_Hold holds_Fit slices_Concat_api_Hold_api_Hold)

end
end Go.Rv.Tryd

set_option linter.unusedVariables false
set_option maxRecDepth 100000
set_option maxHeartbeats 4000000
namespace Go.Rv.Tryd
open Go Go.Rv Go.RowKit
noncomputable section

-- drayman/draymanref13.Drop

abbrev draymanref13_Drop_T (α : Type) : Type := (Seq (Int × (Seq (ByteArray × Int × Unit)) × Int × Unit)) → Int → (Int → (Seq (Int × (Seq (ByteArray × Int × Unit)) × Int × Unit)) → Option α) → Option α

noncomputable def draymanref13_Drop_l0_step {α : Type} (draymanref13_Fit : draymanref13_Fit_T α) (draymanref13_Find : draymanref13_Find_T α) (k0 : (Seq (Int × (Seq (ByteArray × Int × Unit)) × Int × Unit)) → (Int × (Seq (ByteArray × Int × Unit)) × Int × Unit) → (Seq (Int × (Seq (ByteArray × Int × Unit)) × Int × Unit)) → Option α) (rec : (Seq (Int × (Seq (ByteArray × Int × Unit)) × Int × Unit)) → (Int) → (Int) → (Seq (Int × (Seq (ByteArray × Int × Unit)) × Int × Unit)) → (Int × (Seq (ByteArray × Int × Unit)) × Int × Unit) → (Seq (Int × (Seq (ByteArray × Int × Unit)) × Int × Unit)) → Option α) (l6 : Seq (Int × (Seq (ByteArray × Int × Unit)) × Int × Unit)) (saga7 : Int) (i8 : Int) (q9 : Seq (Int × (Seq (ByteArray × Int × Unit)) × Int × Unit)) (x10 : Int × (Seq (ByteArray × Int × Unit)) × Int × Unit) (q11 : Seq (Int × (Seq (ByteArray × Int × Unit)) × Int × Unit)) : Option α :=
  (cond (decide (i8 < (l6.n : Int)))
    (cond ((decide ((0 : Int) ≤ i8)) && (decide (i8 < (l6.n : Int))))
      (cond ((l6.g i8.toNat).1 != saga7)
        (cond ((decide ((0 : Int) ≤ i8)) && (decide (i8 < (l6.n : Int))))
          (cond (decide (((q11.n + 1)) * 40 ≤ 140737488355328))
            (rec l6 saga7 (IntKind.i64.wrap (i8 + 1)) q9 x10 (⟨(q11.nl && false), (q11.n + 1), (tApp q11.n q11.g (fun _ => (l6.g i8.toNat)))⟩ : Seq (Int × (Seq (ByteArray × Int × Unit)) × Int × Unit)))
            none)
          none)
        (rec l6 saga7 (IntKind.i64.wrap (i8 + 1)) q9 x10 q11))
      none)
    (k0 q9 x10 q11))

noncomputable def draymanref13_Drop_l0_run {α : Type} (draymanref13_Fit : draymanref13_Fit_T α) (draymanref13_Find : draymanref13_Find_T α) (k0 : (Seq (Int × (Seq (ByteArray × Int × Unit)) × Int × Unit)) → (Int × (Seq (ByteArray × Int × Unit)) × Int × Unit) → (Seq (Int × (Seq (ByteArray × Int × Unit)) × Int × Unit)) → Option α) : Nat → (Seq (Int × (Seq (ByteArray × Int × Unit)) × Int × Unit)) → (Int) → (Int) → (Seq (Int × (Seq (ByteArray × Int × Unit)) × Int × Unit)) → (Int × (Seq (ByteArray × Int × Unit)) × Int × Unit) → (Seq (Int × (Seq (ByteArray × Int × Unit)) × Int × Unit)) → Option α
  | 0, _, _, _, _, _, _ => none
  | n + 1, l6, saga7, i8, q9, x10, q11 => draymanref13_Drop_l0_step draymanref13_Fit draymanref13_Find k0 (fun l6 saga7 i8 q9 x10 q11 => draymanref13_Drop_l0_run draymanref13_Fit draymanref13_Find k0 n l6 saga7 i8 q9 x10 q11) l6 saga7 i8 q9 x10 q11

noncomputable def draymanref13_Drop_g {α : Type} (draymanref13_Fit : draymanref13_Fit_T α) (draymanref13_Find : draymanref13_Find_T α) (l1 : Seq (Int × (Seq (ByteArray × Int × Unit)) × Int × Unit)) (saga2 : Int) (k : Int → (Seq (Int × (Seq (ByteArray × Int × Unit)) × Int × Unit)) → Option α) : Option α :=
  (draymanref13_Fit l1 fun r3 =>
    (cond (!r3)
      (k 12 (⟨true, 0, (fun _ => (0, (⟨true, 0, fun _ => (ByteArray.empty, 0, ())⟩ : Seq (ByteArray × Int × Unit)), 0, ()))⟩ : Seq (Int × (Seq (ByteArray × Int × Unit)) × Int × Unit)))
      (draymanref13_Find l1 saga2 fun r4 r5 =>
        (cond (!r5)
          (k 2 (⟨true, 0, (fun _ => (0, (⟨true, 0, fun _ => (ByteArray.empty, 0, ())⟩ : Seq (ByteArray × Int × Unit)), 0, ()))⟩ : Seq (Int × (Seq (ByteArray × Int × Unit)) × Int × Unit)))
          (draymanref13_Drop_l0_run draymanref13_Fit draymanref13_Find
            (fun q12 x13 q14 =>
              (k 0 q14))
            1000 l1 saga2 0 (⟨true, 0, (fun _ => (0, (⟨true, 0, fun _ => (ByteArray.empty, 0, ())⟩ : Seq (ByteArray × Int × Unit)), 0, ()))⟩ : Seq (Int × (Seq (ByteArray × Int × Unit)) × Int × Unit)) r4 (⟨true, 0, (fun _ => (0, (⟨true, 0, fun _ => (ByteArray.empty, 0, ())⟩ : Seq (ByteArray × Int × Unit)), 0, ()))⟩ : Seq (Int × (Seq (ByteArray × Int × Unit)) × Int × Unit)))))))

noncomputable def draymanref13_Drop {α : Type} : draymanref13_Drop_T α := draymanref13_Drop_g draymanref13_Fit draymanref13_Find

noncomputable def draymanref13_Drop_sp {α : Type} (draymanref13_Drop : draymanref13_Drop_T α) : FunSpec α := ⟨28, [.sl (.int .i64 (.sl (.str (.int .i64 (.nil))) (.int .i64 (.nil)))), .int .i64], [], fun ds k => draymanref13_Drop (hdQ (.int .i64 (.sl (.str (.int .i64 (.nil))) (.int .i64 (.nil)))) ds) (hdI ds.tail) (fun r1 q2 => k (enc dep (.tup [.own 0, .int .i64]) [.i r1]).1 (encBs [.row true (.int .i64 (.sl (.str (.int .i64 (.nil))) (.int .i64 (.nil))))] [.q (.int .i64 (.sl (.str (.int .i64 (.nil))) (.int .i64 (.nil)))) q2]).1)⟩

noncomputable def draymanref13_Drop_spec {α : Type} : FunSpec α := draymanref13_Drop_sp draymanref13_Drop

noncomputable def draymanref13_Drop_C {α : Type} (draymanref13_Fit : draymanref13_Fit_T α) (draymanref13_Find : draymanref13_Find_T α) : List (FunSpec α) := [draymanref13_Fit_sp draymanref13_Fit, draymanref13_Find_sp draymanref13_Find]

noncomputable def draymanref13_Drop_q : FuncId → Bool := fun f => Nat.beq f 33

noncomputable def draymanref13_Drop_inl : FuncId → Bool := fun f => false

noncomputable def draymanref13_Drop_ann : FuncId → AnnT := fun f p => if f = 28 then (if p = [true, false, true, true, true, true] then ⟨[0, 1, 8, 9], [0, 2], [8], [4, 5], 0, [], [], none⟩ else ⟨[], [], [], [], 0, [], [], none⟩) else ⟨[], [], [], [], 0, [], [], none⟩

noncomputable def draymanref13_Drop_l0_t : List Sh := [.sl (.int .i64 (.sl (.str (.int .i64 (.nil))) (.int .i64 (.nil)))), .int .i64, .dead, .dead, .dead, .dead, .dead, .dead, .own 2, .int .i64, .dead, .dead, .dead, .dead, .dead, .dead, .dead, .dead, .dead, .dead, .dead, .dead, .dead, .dead, .dead, .dead, .dead, .dead, .dead, .dead, .dead, .dead, .dead, .dead, .dead, .dead, .dead, .dead, .dead, .dead, .dead, .dead]
noncomputable def draymanref13_Drop_l0_s : List (List Sh) := []
noncomputable def draymanref13_Drop_l0_h : List BSh := [.row true (.int .i64 (.sl (.str (.int .i64 (.nil))) (.int .i64 (.nil)))), .box [.int .i64, .sl (.str (.int .i64 (.nil))), .int .i64], .row true (.int .i64 (.sl (.str (.int .i64 (.nil))) (.int .i64 (.nil))))]

noncomputable def draymanref13_Drop_l0_spec {α : Type} (draymanref13_Fit : draymanref13_Fit_T α) (draymanref13_Find : draymanref13_Find_T α) : LoopSpec α := ⟨6, 28, [true, false, true, true, true, true], draymanref13_Drop_l0_t, draymanref13_Drop_l0_s, draymanref13_Drop_l0_h, fun ds k => draymanref13_Drop_l0_run draymanref13_Fit draymanref13_Find (fun y1 y2 y3 => k (.exit 0) (encSt [.dead, .dead, .dead, .dead, .dead, .dead, .dead, .dead, .own 2, .dead, .dead, .dead, .dead, .dead, .dead, .dead, .dead, .dead, .dead, .dead, .dead, .dead, .dead, .dead, .dead, .dead, .dead, .dead, .dead, .dead, .dead, .dead, .dead, .dead, .dead, .dead, .dead, .dead, .dead, .dead, .dead, .dead] [] [.row true (.int .i64 (.sl (.str (.int .i64 (.nil))) (.int .i64 (.nil)))), .box [.int .i64, .sl (.str (.int .i64 (.nil))), .int .i64], .row true (.int .i64 (.sl (.str (.int .i64 (.nil))) (.int .i64 (.nil))))] [.q (.int .i64 (.sl (.str (.int .i64 (.nil))) (.int .i64 (.nil)))) y1, .i y2.1, .q (.str (.int .i64 (.nil))) y2.2.1, .i y2.2.2.1, .q (.int .i64 (.sl (.str (.int .i64 (.nil))) (.int .i64 (.nil)))) y3])) 1000 (hdQ (.int .i64 (.sl (.str (.int .i64 (.nil))) (.int .i64 (.nil)))) ds) (hdI ds.tail) (hdI ds.tail.tail) (hdQ (.int .i64 (.sl (.str (.int .i64 (.nil))) (.int .i64 (.nil)))) ds.tail.tail.tail) (hdI ds.tail.tail.tail.tail, hdQ (.str (.int .i64 (.nil))) ds.tail.tail.tail.tail.tail, hdI ds.tail.tail.tail.tail.tail.tail, ()) (hdQ (.int .i64 (.sl (.str (.int .i64 (.nil))) (.int .i64 (.nil)))) ds.tail.tail.tail.tail.tail.tail.tail)⟩

noncomputable def draymanref13_Drop_loops {α : Type} (draymanref13_Fit : draymanref13_Fit_T α) (draymanref13_Find : draymanref13_Find_T α) : List (LoopSpec α) := [draymanref13_Drop_l0_spec draymanref13_Fit draymanref13_Find]

noncomputable def draymanref13_Drop_l0_ev {α : Type} (draymanref13_Fit : draymanref13_Fit_T α) (draymanref13_Find : draymanref13_Find_T α) (n : Nat) (st : St) (k : X → St → Option α) : Option α := loopN (evCode Go.Proofs.Tryd.prog (callD Go.Proofs.Tryd.prog (envOf (draymanref13_Drop_C draymanref13_Fit draymanref13_Find) draymanref13_Drop_q draymanref13_Drop_inl 1000 draymanref13_Drop_ann false (draymanref13_Drop_loops draymanref13_Fit draymanref13_Find) (fun _ => none)) 6) (((envOf (draymanref13_Drop_C draymanref13_Fit draymanref13_Find) draymanref13_Drop_q draymanref13_Drop_inl 1000 draymanref13_Drop_ann false (draymanref13_Drop_loops draymanref13_Fit draymanref13_Find) (fun _ => none)) : Env α).L 6 28) 1000 (draymanref13_Drop_ann 28) (false :: [true, false, true, true, true, true]) (loopC Go.Proofs.Tryd.prog 28 [true, false, true, true, true, true])) ((draymanref13_Drop_ann 28 [true, false, true, true, true, true]).head 3) ((draymanref13_Drop_ann 28 [true, false, true, true, true, true]).leave 3) n st k

theorem draymanref13_Drop_l0_eq {α : Type} (draymanref13_Fit : draymanref13_Fit_T α) (draymanref13_Find : draymanref13_Find_T α) : ∀ (n : Nat) (l6 : Seq (Int × (Seq (ByteArray × Int × Unit)) × Int × Unit)) (saga7 : Int) (i8 : Int) (q9 : Seq (Int × (Seq (ByteArray × Int × Unit)) × Int × Unit)) (x10 : Int × (Seq (ByteArray × Int × Unit)) × Int × Unit) (q11 : Seq (Int × (Seq (ByteArray × Int × Unit)) × Int × Unit)) (k : X → St → Option α), draymanref13_Drop_l0_ev draymanref13_Fit draymanref13_Find n (encSt draymanref13_Drop_l0_t draymanref13_Drop_l0_s draymanref13_Drop_l0_h [.q (.int .i64 (.sl (.str (.int .i64 (.nil))) (.int .i64 (.nil)))) l6, .i saga7, .i i8, .q (.int .i64 (.sl (.str (.int .i64 (.nil))) (.int .i64 (.nil)))) q9, .i x10.1, .q (.str (.int .i64 (.nil))) x10.2.1, .i x10.2.2.1, .q (.int .i64 (.sl (.str (.int .i64 (.nil))) (.int .i64 (.nil)))) q11]) k = draymanref13_Drop_l0_run draymanref13_Fit draymanref13_Find (fun y1 y2 y3 => k (.exit 0) (encSt [.dead, .dead, .dead, .dead, .dead, .dead, .dead, .dead, .own 2, .dead, .dead, .dead, .dead, .dead, .dead, .dead, .dead, .dead, .dead, .dead, .dead, .dead, .dead, .dead, .dead, .dead, .dead, .dead, .dead, .dead, .dead, .dead, .dead, .dead, .dead, .dead, .dead, .dead, .dead, .dead, .dead, .dead] [] [.row true (.int .i64 (.sl (.str (.int .i64 (.nil))) (.int .i64 (.nil)))), .box [.int .i64, .sl (.str (.int .i64 (.nil))), .int .i64], .row true (.int .i64 (.sl (.str (.int .i64 (.nil))) (.int .i64 (.nil))))] [.q (.int .i64 (.sl (.str (.int .i64 (.nil))) (.int .i64 (.nil)))) y1, .i y2.1, .q (.str (.int .i64 (.nil))) y2.2.1, .i y2.2.2.1, .q (.int .i64 (.sl (.str (.int .i64 (.nil))) (.int .i64 (.nil)))) y3])) n l6 saga7 i8 q9 x10 q11 := by
  intro n
  induction n with
  | zero => intros; kernel_rfl
  | succ n ih =>
    intro l6 saga7 i8 q9 x10 q11 k
    have e : (fun (l6 : Seq (Int × (Seq (ByteArray × Int × Unit)) × Int × Unit)) (saga7 : Int) (i8 : Int) (q9 : Seq (Int × (Seq (ByteArray × Int × Unit)) × Int × Unit)) (x10 : Int × (Seq (ByteArray × Int × Unit)) × Int × Unit) (q11 : Seq (Int × (Seq (ByteArray × Int × Unit)) × Int × Unit)) => draymanref13_Drop_l0_ev draymanref13_Fit draymanref13_Find n (encSt draymanref13_Drop_l0_t draymanref13_Drop_l0_s draymanref13_Drop_l0_h [.q (.int .i64 (.sl (.str (.int .i64 (.nil))) (.int .i64 (.nil)))) l6, .i saga7, .i i8, .q (.int .i64 (.sl (.str (.int .i64 (.nil))) (.int .i64 (.nil)))) q9, .i x10.1, .q (.str (.int .i64 (.nil))) x10.2.1, .i x10.2.2.1, .q (.int .i64 (.sl (.str (.int .i64 (.nil))) (.int .i64 (.nil)))) q11]) k) = (fun (l6 : Seq (Int × (Seq (ByteArray × Int × Unit)) × Int × Unit)) (saga7 : Int) (i8 : Int) (q9 : Seq (Int × (Seq (ByteArray × Int × Unit)) × Int × Unit)) (x10 : Int × (Seq (ByteArray × Int × Unit)) × Int × Unit) (q11 : Seq (Int × (Seq (ByteArray × Int × Unit)) × Int × Unit)) => draymanref13_Drop_l0_run draymanref13_Fit draymanref13_Find (fun y1 y2 y3 => k (.exit 0) (encSt [.dead, .dead, .dead, .dead, .dead, .dead, .dead, .dead, .own 2, .dead, .dead, .dead, .dead, .dead, .dead, .dead, .dead, .dead, .dead, .dead, .dead, .dead, .dead, .dead, .dead, .dead, .dead, .dead, .dead, .dead, .dead, .dead, .dead, .dead, .dead, .dead, .dead, .dead, .dead, .dead, .dead, .dead] [] [.row true (.int .i64 (.sl (.str (.int .i64 (.nil))) (.int .i64 (.nil)))), .box [.int .i64, .sl (.str (.int .i64 (.nil))), .int .i64], .row true (.int .i64 (.sl (.str (.int .i64 (.nil))) (.int .i64 (.nil))))] [.q (.int .i64 (.sl (.str (.int .i64 (.nil))) (.int .i64 (.nil)))) y1, .i y2.1, .q (.str (.int .i64 (.nil))) y2.2.1, .i y2.2.2.1, .q (.int .i64 (.sl (.str (.int .i64 (.nil))) (.int .i64 (.nil)))) y3])) n l6 saga7 i8 q9 x10 q11) := by
      funext l6 saga7 i8 q9 x10 q11
      exact ih l6 saga7 i8 q9 x10 q11 k
    have h1 : draymanref13_Drop_l0_ev draymanref13_Fit draymanref13_Find (n + 1) (encSt draymanref13_Drop_l0_t draymanref13_Drop_l0_s draymanref13_Drop_l0_h [.q (.int .i64 (.sl (.str (.int .i64 (.nil))) (.int .i64 (.nil)))) l6, .i saga7, .i i8, .q (.int .i64 (.sl (.str (.int .i64 (.nil))) (.int .i64 (.nil)))) q9, .i x10.1, .q (.str (.int .i64 (.nil))) x10.2.1, .i x10.2.2.1, .q (.int .i64 (.sl (.str (.int .i64 (.nil))) (.int .i64 (.nil)))) q11]) k = draymanref13_Drop_l0_step draymanref13_Fit draymanref13_Find (fun y1 y2 y3 => k (.exit 0) (encSt [.dead, .dead, .dead, .dead, .dead, .dead, .dead, .dead, .own 2, .dead, .dead, .dead, .dead, .dead, .dead, .dead, .dead, .dead, .dead, .dead, .dead, .dead, .dead, .dead, .dead, .dead, .dead, .dead, .dead, .dead, .dead, .dead, .dead, .dead, .dead, .dead, .dead, .dead, .dead, .dead, .dead, .dead] [] [.row true (.int .i64 (.sl (.str (.int .i64 (.nil))) (.int .i64 (.nil)))), .box [.int .i64, .sl (.str (.int .i64 (.nil))), .int .i64], .row true (.int .i64 (.sl (.str (.int .i64 (.nil))) (.int .i64 (.nil))))] [.q (.int .i64 (.sl (.str (.int .i64 (.nil))) (.int .i64 (.nil)))) y1, .i y2.1, .q (.str (.int .i64 (.nil))) y2.2.1, .i y2.2.2.1, .q (.int .i64 (.sl (.str (.int .i64 (.nil))) (.int .i64 (.nil)))) y3])) (fun (l6 : Seq (Int × (Seq (ByteArray × Int × Unit)) × Int × Unit)) (saga7 : Int) (i8 : Int) (q9 : Seq (Int × (Seq (ByteArray × Int × Unit)) × Int × Unit)) (x10 : Int × (Seq (ByteArray × Int × Unit)) × Int × Unit) (q11 : Seq (Int × (Seq (ByteArray × Int × Unit)) × Int × Unit)) => draymanref13_Drop_l0_ev draymanref13_Fit draymanref13_Find n (encSt draymanref13_Drop_l0_t draymanref13_Drop_l0_s draymanref13_Drop_l0_h [.q (.int .i64 (.sl (.str (.int .i64 (.nil))) (.int .i64 (.nil)))) l6, .i saga7, .i i8, .q (.int .i64 (.sl (.str (.int .i64 (.nil))) (.int .i64 (.nil)))) q9, .i x10.1, .q (.str (.int .i64 (.nil))) x10.2.1, .i x10.2.2.1, .q (.int .i64 (.sl (.str (.int .i64 (.nil))) (.int .i64 (.nil)))) q11]) k) l6 saga7 i8 q9 x10 q11 := by kernel_rfl
    have h2 := congrArg (fun r => draymanref13_Drop_l0_step draymanref13_Fit draymanref13_Find (fun y1 y2 y3 => k (.exit 0) (encSt [.dead, .dead, .dead, .dead, .dead, .dead, .dead, .dead, .own 2, .dead, .dead, .dead, .dead, .dead, .dead, .dead, .dead, .dead, .dead, .dead, .dead, .dead, .dead, .dead, .dead, .dead, .dead, .dead, .dead, .dead, .dead, .dead, .dead, .dead, .dead, .dead, .dead, .dead, .dead, .dead, .dead, .dead] [] [.row true (.int .i64 (.sl (.str (.int .i64 (.nil))) (.int .i64 (.nil)))), .box [.int .i64, .sl (.str (.int .i64 (.nil))), .int .i64], .row true (.int .i64 (.sl (.str (.int .i64 (.nil))) (.int .i64 (.nil))))] [.q (.int .i64 (.sl (.str (.int .i64 (.nil))) (.int .i64 (.nil)))) y1, .i y2.1, .q (.str (.int .i64 (.nil))) y2.2.1, .i y2.2.2.1, .q (.int .i64 (.sl (.str (.int .i64 (.nil))) (.int .i64 (.nil)))) y3])) r l6 saga7 i8 q9 x10 q11) e
    have h3 : draymanref13_Drop_l0_step draymanref13_Fit draymanref13_Find (fun y1 y2 y3 => k (.exit 0) (encSt [.dead, .dead, .dead, .dead, .dead, .dead, .dead, .dead, .own 2, .dead, .dead, .dead, .dead, .dead, .dead, .dead, .dead, .dead, .dead, .dead, .dead, .dead, .dead, .dead, .dead, .dead, .dead, .dead, .dead, .dead, .dead, .dead, .dead, .dead, .dead, .dead, .dead, .dead, .dead, .dead, .dead, .dead] [] [.row true (.int .i64 (.sl (.str (.int .i64 (.nil))) (.int .i64 (.nil)))), .box [.int .i64, .sl (.str (.int .i64 (.nil))), .int .i64], .row true (.int .i64 (.sl (.str (.int .i64 (.nil))) (.int .i64 (.nil))))] [.q (.int .i64 (.sl (.str (.int .i64 (.nil))) (.int .i64 (.nil)))) y1, .i y2.1, .q (.str (.int .i64 (.nil))) y2.2.1, .i y2.2.2.1, .q (.int .i64 (.sl (.str (.int .i64 (.nil))) (.int .i64 (.nil)))) y3])) (fun (l6 : Seq (Int × (Seq (ByteArray × Int × Unit)) × Int × Unit)) (saga7 : Int) (i8 : Int) (q9 : Seq (Int × (Seq (ByteArray × Int × Unit)) × Int × Unit)) (x10 : Int × (Seq (ByteArray × Int × Unit)) × Int × Unit) (q11 : Seq (Int × (Seq (ByteArray × Int × Unit)) × Int × Unit)) => draymanref13_Drop_l0_run draymanref13_Fit draymanref13_Find (fun y1 y2 y3 => k (.exit 0) (encSt [.dead, .dead, .dead, .dead, .dead, .dead, .dead, .dead, .own 2, .dead, .dead, .dead, .dead, .dead, .dead, .dead, .dead, .dead, .dead, .dead, .dead, .dead, .dead, .dead, .dead, .dead, .dead, .dead, .dead, .dead, .dead, .dead, .dead, .dead, .dead, .dead, .dead, .dead, .dead, .dead, .dead, .dead] [] [.row true (.int .i64 (.sl (.str (.int .i64 (.nil))) (.int .i64 (.nil)))), .box [.int .i64, .sl (.str (.int .i64 (.nil))), .int .i64], .row true (.int .i64 (.sl (.str (.int .i64 (.nil))) (.int .i64 (.nil))))] [.q (.int .i64 (.sl (.str (.int .i64 (.nil))) (.int .i64 (.nil)))) y1, .i y2.1, .q (.str (.int .i64 (.nil))) y2.2.1, .i y2.2.2.1, .q (.int .i64 (.sl (.str (.int .i64 (.nil))) (.int .i64 (.nil)))) y3])) n l6 saga7 i8 q9 x10 q11) l6 saga7 i8 q9 x10 q11 = draymanref13_Drop_l0_run draymanref13_Fit draymanref13_Find (fun y1 y2 y3 => k (.exit 0) (encSt [.dead, .dead, .dead, .dead, .dead, .dead, .dead, .dead, .own 2, .dead, .dead, .dead, .dead, .dead, .dead, .dead, .dead, .dead, .dead, .dead, .dead, .dead, .dead, .dead, .dead, .dead, .dead, .dead, .dead, .dead, .dead, .dead, .dead, .dead, .dead, .dead, .dead, .dead, .dead, .dead, .dead, .dead] [] [.row true (.int .i64 (.sl (.str (.int .i64 (.nil))) (.int .i64 (.nil)))), .box [.int .i64, .sl (.str (.int .i64 (.nil))), .int .i64], .row true (.int .i64 (.sl (.str (.int .i64 (.nil))) (.int .i64 (.nil))))] [.q (.int .i64 (.sl (.str (.int .i64 (.nil))) (.int .i64 (.nil)))) y1, .i y2.1, .q (.str (.int .i64 (.nil))) y2.2.1, .i y2.2.2.1, .q (.int .i64 (.sl (.str (.int .i64 (.nil))) (.int .i64 (.nil)))) y3])) (n + 1) l6 saga7 i8 q9 x10 q11 := by kernel_rfl
    exact h1.trans (h2.trans h3)

theorem draymanref13_Drop_l0_ok {α : Type} (draymanref13_Fit : draymanref13_Fit_T α) (draymanref13_Find : draymanref13_Find_T α) : (draymanref13_Drop_l0_spec draymanref13_Fit draymanref13_Find : LoopSpec α).ok Go.Proofs.Tryd.prog (envOf (draymanref13_Drop_C draymanref13_Fit draymanref13_Find) draymanref13_Drop_q draymanref13_Drop_inl 1000 draymanref13_Drop_ann false (draymanref13_Drop_loops draymanref13_Fit draymanref13_Find) (fun _ => none)) := by
  intro ds k
  have h1 : draymanref13_Drop_l0_ev draymanref13_Fit draymanref13_Find 1000 (encSt draymanref13_Drop_l0_t draymanref13_Drop_l0_s draymanref13_Drop_l0_h ds) k = draymanref13_Drop_l0_ev draymanref13_Fit draymanref13_Find 1000 (encSt draymanref13_Drop_l0_t draymanref13_Drop_l0_s draymanref13_Drop_l0_h [.q (.int .i64 (.sl (.str (.int .i64 (.nil))) (.int .i64 (.nil)))) (hdQ (.int .i64 (.sl (.str (.int .i64 (.nil))) (.int .i64 (.nil)))) ds), .i (hdI ds.tail), .i (hdI ds.tail.tail), .q (.int .i64 (.sl (.str (.int .i64 (.nil))) (.int .i64 (.nil)))) (hdQ (.int .i64 (.sl (.str (.int .i64 (.nil))) (.int .i64 (.nil)))) ds.tail.tail.tail), .i ((hdI ds.tail.tail.tail.tail, hdQ (.str (.int .i64 (.nil))) ds.tail.tail.tail.tail.tail, hdI ds.tail.tail.tail.tail.tail.tail, ()).1), .q (.str (.int .i64 (.nil))) ((hdI ds.tail.tail.tail.tail, hdQ (.str (.int .i64 (.nil))) ds.tail.tail.tail.tail.tail, hdI ds.tail.tail.tail.tail.tail.tail, ()).2.1), .i ((hdI ds.tail.tail.tail.tail, hdQ (.str (.int .i64 (.nil))) ds.tail.tail.tail.tail.tail, hdI ds.tail.tail.tail.tail.tail.tail, ()).2.2.1), .q (.int .i64 (.sl (.str (.int .i64 (.nil))) (.int .i64 (.nil)))) (hdQ (.int .i64 (.sl (.str (.int .i64 (.nil))) (.int .i64 (.nil)))) ds.tail.tail.tail.tail.tail.tail.tail)]) k := by kernel_rfl
  have h2 := draymanref13_Drop_l0_eq draymanref13_Fit draymanref13_Find 1000 (hdQ (.int .i64 (.sl (.str (.int .i64 (.nil))) (.int .i64 (.nil)))) ds) (hdI ds.tail) (hdI ds.tail.tail) (hdQ (.int .i64 (.sl (.str (.int .i64 (.nil))) (.int .i64 (.nil)))) ds.tail.tail.tail) (hdI ds.tail.tail.tail.tail, hdQ (.str (.int .i64 (.nil))) ds.tail.tail.tail.tail.tail, hdI ds.tail.tail.tail.tail.tail.tail, ()) (hdQ (.int .i64 (.sl (.str (.int .i64 (.nil))) (.int .i64 (.nil)))) ds.tail.tail.tail.tail.tail.tail.tail) k
  exact h1.trans h2

theorem draymanref13_Drop_ev {α : Type} (draymanref13_Fit : draymanref13_Fit_T α) (draymanref13_Find : draymanref13_Find_T α) : EvOk (α := α) Go.Proofs.Tryd.prog (envOf (draymanref13_Drop_C draymanref13_Fit draymanref13_Find) draymanref13_Drop_q draymanref13_Drop_inl 1000 draymanref13_Drop_ann false (draymanref13_Drop_loops draymanref13_Fit draymanref13_Find) (fun _ => none)) 6 (draymanref13_Drop_sp (draymanref13_Drop_g draymanref13_Fit draymanref13_Find)) := by intro ds k; kernel_rfl

theorem draymanref13_Drop_ok {α : Type} : (draymanref13_Drop_spec : FunSpec α).ok Go.Proofs.Tryd.prog :=
  FunSpec.ok_of (sp := draymanref13_Drop_spec) (C := draymanref13_Drop_C draymanref13_Fit draymanref13_Find) (q := draymanref13_Drop_q) (inl := draymanref13_Drop_inl) (N := 1000) (ann := draymanref13_Drop_ann) (fr := false) (D := 6) (l := (draymanref13_Drop_loops draymanref13_Fit draymanref13_Find)) (hk := (fun _ => none)) (okCons draymanref13_Fit_ok (okCons draymanref13_Find_ok okNil)) (lokCons (draymanref13_Drop_l0_ok draymanref13_Fit draymanref13_Find) lokNil) noHooks (draymanref13_Drop_ev draymanref13_Fit draymanref13_Find)

end
end Go.Rv.Tryd

set_option linter.unusedVariables false
set_option maxRecDepth 100000
set_option maxHeartbeats 4000000
namespace Go.Rv.Tryd
open Go Go.Rv Go.RowKit
noncomputable section

-- drayman/draymanref11.Same

abbrev draymanref11_Same_T (α : Type) : Type := (Seq (ByteArray × Int × Unit)) → (Seq (ByteArray × Int × Unit)) → (Bool → Option α) → Option α

noncomputable def draymanref11_Same_l0_step {α : Type} (kr : (Bool) → Option α) (k0 : Option α) (rec : (Seq (ByteArray × Int × Unit)) → (Seq (ByteArray × Int × Unit)) → (Int) → Option α) (a3 : Seq (ByteArray × Int × Unit)) (b4 : Seq (ByteArray × Int × Unit)) (i5 : Int) : Option α :=
  (cond (decide (i5 < (a3.n : Int)))
    (cond (((decide ((0 : Int) ≤ i5)) && (decide (i5 < (a3.n : Int)))) && ((decide ((0 : Int) ≤ i5)) && (decide (i5 < (a3.n : Int)))))
      (cond (((decide ((0 : Int) ≤ i5)) && (decide (i5 < (b4.n : Int)))) && ((decide ((0 : Int) ≤ i5)) && (decide (i5 < (b4.n : Int)))))
        (cond (!(((a3.g i5.toNat).1.toList == (b4.g i5.toNat).1.toList) && (((a3.g i5.toNat).2.1 == (b4.g i5.toNat).2.1) && true)))
          (kr false)
          (rec a3 b4 (IntKind.i64.wrap (i5 + 1))))
        none)
      none)
    (k0))

noncomputable def draymanref11_Same_l0_run {α : Type} (kr : (Bool) → Option α) (k0 : Option α) : Nat → (Seq (ByteArray × Int × Unit)) → (Seq (ByteArray × Int × Unit)) → (Int) → Option α
  | 0, _, _, _ => none
  | n + 1, a3, b4, i5 => draymanref11_Same_l0_step kr k0 (fun a3 b4 i5 => draymanref11_Same_l0_run kr k0 n a3 b4 i5) a3 b4 i5

noncomputable def draymanref11_Same {α : Type} (a1 : Seq (ByteArray × Int × Unit)) (b2 : Seq (ByteArray × Int × Unit)) (k : Bool → Option α) : Option α :=
  (cond ((a1.n : Int) != (b2.n : Int))
    (k false)
    (draymanref11_Same_l0_run
      (fun x6 =>
        (k x6))
      ((k true))
      1000 a1 b2 0))

noncomputable def draymanref11_Same_sp {α : Type} (draymanref11_Same : draymanref11_Same_T α) : FunSpec α := ⟨68, [.sl (.str (.int .i64 (.nil))), .sl (.str (.int .i64 (.nil)))], [], fun ds k => draymanref11_Same (hdQ (.str (.int .i64 (.nil))) ds) (hdQ (.str (.int .i64 (.nil))) ds.tail) (fun r1 => k (enc dep (.bool) [.b r1]).1 [])⟩

noncomputable def draymanref11_Same_spec {α : Type} : FunSpec α := draymanref11_Same_sp draymanref11_Same

noncomputable def draymanref11_Same_C {α : Type} : List (FunSpec α) := []

noncomputable def draymanref11_Same_q : FuncId → Bool := fun f => false

noncomputable def draymanref11_Same_inl : FuncId → Bool := fun f => false

noncomputable def draymanref11_Same_ann : FuncId → AnnT := fun f p => if f = 68 then (if p = [true, false, true, true] then ⟨[0, 1, 5], [], [], [4], 0, [], [], none⟩ else ⟨[], [], [], [], 0, [], [], none⟩) else ⟨[], [], [], [], 0, [], [], none⟩

noncomputable def draymanref11_Same_l0_t : List Sh := [.sl (.str (.int .i64 (.nil))), .sl (.str (.int .i64 (.nil))), .dead, .dead, .dead, .int .i64, .dead, .dead, .dead, .dead, .dead, .dead, .dead, .dead, .dead, .dead, .dead, .dead, .dead, .dead, .dead, .dead, .dead, .dead, .dead, .dead]
noncomputable def draymanref11_Same_l0_s : List (List Sh) := []
noncomputable def draymanref11_Same_l0_h : List BSh := []

noncomputable def draymanref11_Same_l0_spec {α : Type} : LoopSpec α := ⟨6, 68, [true, false, true, true], draymanref11_Same_l0_t, draymanref11_Same_l0_s, draymanref11_Same_l0_h, fun ds k => draymanref11_Same_l0_run (fun y1 => k .ret (encSt [.dead, .dead, .dead, .dead, .bool, .dead, .dead, .dead, .dead, .dead, .dead, .dead, .dead, .dead, .dead, .dead, .dead, .dead, .dead, .dead, .dead, .dead, .dead, .dead, .dead, .dead] [] [] [.b y1])) (k (.exit 0) (encSt [.dead, .dead, .dead, .dead, .dead, .dead, .dead, .dead, .dead, .dead, .dead, .dead, .dead, .dead, .dead, .dead, .dead, .dead, .dead, .dead, .dead, .dead, .dead, .dead, .dead, .dead] [] [] [])) 1000 (hdQ (.str (.int .i64 (.nil))) ds) (hdQ (.str (.int .i64 (.nil))) ds.tail) (hdI ds.tail.tail)⟩

noncomputable def draymanref11_Same_loops {α : Type} : List (LoopSpec α) := [draymanref11_Same_l0_spec]

noncomputable def draymanref11_Same_l0_ev {α : Type} (n : Nat) (st : St) (k : X → St → Option α) : Option α := loopN (evCode Go.Proofs.Tryd.prog (callD Go.Proofs.Tryd.prog (envOf (draymanref11_Same_C) draymanref11_Same_q draymanref11_Same_inl 1000 draymanref11_Same_ann false (draymanref11_Same_loops) (fun _ => none)) 6) (((envOf (draymanref11_Same_C) draymanref11_Same_q draymanref11_Same_inl 1000 draymanref11_Same_ann false (draymanref11_Same_loops) (fun _ => none)) : Env α).L 6 68) 1000 (draymanref11_Same_ann 68) (false :: [true, false, true, true]) (loopC Go.Proofs.Tryd.prog 68 [true, false, true, true])) ((draymanref11_Same_ann 68 [true, false, true, true]).head 0) ((draymanref11_Same_ann 68 [true, false, true, true]).leave 0) n st k

theorem draymanref11_Same_l0_eq {α : Type} : ∀ (n : Nat) (a3 : Seq (ByteArray × Int × Unit)) (b4 : Seq (ByteArray × Int × Unit)) (i5 : Int) (k : X → St → Option α), draymanref11_Same_l0_ev n (encSt draymanref11_Same_l0_t draymanref11_Same_l0_s draymanref11_Same_l0_h [.q (.str (.int .i64 (.nil))) a3, .q (.str (.int .i64 (.nil))) b4, .i i5]) k = draymanref11_Same_l0_run (fun y1 => k .ret (encSt [.dead, .dead, .dead, .dead, .bool, .dead, .dead, .dead, .dead, .dead, .dead, .dead, .dead, .dead, .dead, .dead, .dead, .dead, .dead, .dead, .dead, .dead, .dead, .dead, .dead, .dead] [] [] [.b y1])) (k (.exit 0) (encSt [.dead, .dead, .dead, .dead, .dead, .dead, .dead, .dead, .dead, .dead, .dead, .dead, .dead, .dead, .dead, .dead, .dead, .dead, .dead, .dead, .dead, .dead, .dead, .dead, .dead, .dead] [] [] [])) n a3 b4 i5 := by
  intro n
  induction n with
  | zero => intros; kernel_rfl
  | succ n ih =>
    intro a3 b4 i5 k
    have e : (fun (a3 : Seq (ByteArray × Int × Unit)) (b4 : Seq (ByteArray × Int × Unit)) (i5 : Int) => draymanref11_Same_l0_ev n (encSt draymanref11_Same_l0_t draymanref11_Same_l0_s draymanref11_Same_l0_h [.q (.str (.int .i64 (.nil))) a3, .q (.str (.int .i64 (.nil))) b4, .i i5]) k) = (fun (a3 : Seq (ByteArray × Int × Unit)) (b4 : Seq (ByteArray × Int × Unit)) (i5 : Int) => draymanref11_Same_l0_run (fun y1 => k .ret (encSt [.dead, .dead, .dead, .dead, .bool, .dead, .dead, .dead, .dead, .dead, .dead, .dead, .dead, .dead, .dead, .dead, .dead, .dead, .dead, .dead, .dead, .dead, .dead, .dead, .dead, .dead] [] [] [.b y1])) (k (.exit 0) (encSt [.dead, .dead, .dead, .dead, .dead, .dead, .dead, .dead, .dead, .dead, .dead, .dead, .dead, .dead, .dead, .dead, .dead, .dead, .dead, .dead, .dead, .dead, .dead, .dead, .dead, .dead] [] [] [])) n a3 b4 i5) := by
      funext a3 b4 i5
      exact ih a3 b4 i5 k
    have h1 : draymanref11_Same_l0_ev (n + 1) (encSt draymanref11_Same_l0_t draymanref11_Same_l0_s draymanref11_Same_l0_h [.q (.str (.int .i64 (.nil))) a3, .q (.str (.int .i64 (.nil))) b4, .i i5]) k = draymanref11_Same_l0_step (fun y1 => k .ret (encSt [.dead, .dead, .dead, .dead, .bool, .dead, .dead, .dead, .dead, .dead, .dead, .dead, .dead, .dead, .dead, .dead, .dead, .dead, .dead, .dead, .dead, .dead, .dead, .dead, .dead, .dead] [] [] [.b y1])) (k (.exit 0) (encSt [.dead, .dead, .dead, .dead, .dead, .dead, .dead, .dead, .dead, .dead, .dead, .dead, .dead, .dead, .dead, .dead, .dead, .dead, .dead, .dead, .dead, .dead, .dead, .dead, .dead, .dead] [] [] [])) (fun (a3 : Seq (ByteArray × Int × Unit)) (b4 : Seq (ByteArray × Int × Unit)) (i5 : Int) => draymanref11_Same_l0_ev n (encSt draymanref11_Same_l0_t draymanref11_Same_l0_s draymanref11_Same_l0_h [.q (.str (.int .i64 (.nil))) a3, .q (.str (.int .i64 (.nil))) b4, .i i5]) k) a3 b4 i5 := by kernel_rfl
    have h2 := congrArg (fun r => draymanref11_Same_l0_step (fun y1 => k .ret (encSt [.dead, .dead, .dead, .dead, .bool, .dead, .dead, .dead, .dead, .dead, .dead, .dead, .dead, .dead, .dead, .dead, .dead, .dead, .dead, .dead, .dead, .dead, .dead, .dead, .dead, .dead] [] [] [.b y1])) (k (.exit 0) (encSt [.dead, .dead, .dead, .dead, .dead, .dead, .dead, .dead, .dead, .dead, .dead, .dead, .dead, .dead, .dead, .dead, .dead, .dead, .dead, .dead, .dead, .dead, .dead, .dead, .dead, .dead] [] [] [])) r a3 b4 i5) e
    have h3 : draymanref11_Same_l0_step (fun y1 => k .ret (encSt [.dead, .dead, .dead, .dead, .bool, .dead, .dead, .dead, .dead, .dead, .dead, .dead, .dead, .dead, .dead, .dead, .dead, .dead, .dead, .dead, .dead, .dead, .dead, .dead, .dead, .dead] [] [] [.b y1])) (k (.exit 0) (encSt [.dead, .dead, .dead, .dead, .dead, .dead, .dead, .dead, .dead, .dead, .dead, .dead, .dead, .dead, .dead, .dead, .dead, .dead, .dead, .dead, .dead, .dead, .dead, .dead, .dead, .dead] [] [] [])) (fun (a3 : Seq (ByteArray × Int × Unit)) (b4 : Seq (ByteArray × Int × Unit)) (i5 : Int) => draymanref11_Same_l0_run (fun y1 => k .ret (encSt [.dead, .dead, .dead, .dead, .bool, .dead, .dead, .dead, .dead, .dead, .dead, .dead, .dead, .dead, .dead, .dead, .dead, .dead, .dead, .dead, .dead, .dead, .dead, .dead, .dead, .dead] [] [] [.b y1])) (k (.exit 0) (encSt [.dead, .dead, .dead, .dead, .dead, .dead, .dead, .dead, .dead, .dead, .dead, .dead, .dead, .dead, .dead, .dead, .dead, .dead, .dead, .dead, .dead, .dead, .dead, .dead, .dead, .dead] [] [] [])) n a3 b4 i5) a3 b4 i5 = draymanref11_Same_l0_run (fun y1 => k .ret (encSt [.dead, .dead, .dead, .dead, .bool, .dead, .dead, .dead, .dead, .dead, .dead, .dead, .dead, .dead, .dead, .dead, .dead, .dead, .dead, .dead, .dead, .dead, .dead, .dead, .dead, .dead] [] [] [.b y1])) (k (.exit 0) (encSt [.dead, .dead, .dead, .dead, .dead, .dead, .dead, .dead, .dead, .dead, .dead, .dead, .dead, .dead, .dead, .dead, .dead, .dead, .dead, .dead, .dead, .dead, .dead, .dead, .dead, .dead] [] [] [])) (n + 1) a3 b4 i5 := by kernel_rfl
    exact h1.trans (h2.trans h3)

theorem draymanref11_Same_l0_ok {α : Type} : (draymanref11_Same_l0_spec : LoopSpec α).ok Go.Proofs.Tryd.prog (envOf (draymanref11_Same_C) draymanref11_Same_q draymanref11_Same_inl 1000 draymanref11_Same_ann false (draymanref11_Same_loops) (fun _ => none)) := by
  intro ds k
  have h1 : draymanref11_Same_l0_ev 1000 (encSt draymanref11_Same_l0_t draymanref11_Same_l0_s draymanref11_Same_l0_h ds) k = draymanref11_Same_l0_ev 1000 (encSt draymanref11_Same_l0_t draymanref11_Same_l0_s draymanref11_Same_l0_h [.q (.str (.int .i64 (.nil))) (hdQ (.str (.int .i64 (.nil))) ds), .q (.str (.int .i64 (.nil))) (hdQ (.str (.int .i64 (.nil))) ds.tail), .i (hdI ds.tail.tail)]) k := by kernel_rfl
  have h2 := draymanref11_Same_l0_eq 1000 (hdQ (.str (.int .i64 (.nil))) ds) (hdQ (.str (.int .i64 (.nil))) ds.tail) (hdI ds.tail.tail) k
  exact h1.trans h2

theorem draymanref11_Same_ev {α : Type} : EvOk (α := α) Go.Proofs.Tryd.prog (envOf (draymanref11_Same_C) draymanref11_Same_q draymanref11_Same_inl 1000 draymanref11_Same_ann false (draymanref11_Same_loops) (fun _ => none)) 6 (draymanref11_Same_sp (draymanref11_Same)) := by intro ds k; kernel_rfl

theorem draymanref11_Same_ok {α : Type} : (draymanref11_Same_spec : FunSpec α).ok Go.Proofs.Tryd.prog :=
  FunSpec.ok_of (sp := draymanref11_Same_spec) (C := draymanref11_Same_C) (q := draymanref11_Same_q) (inl := draymanref11_Same_inl) (N := 1000) (ann := draymanref11_Same_ann) (fr := false) (D := 6) (l := (draymanref11_Same_loops)) (hk := (fun _ => none)) okNil (lokCons (draymanref11_Same_l0_ok) lokNil) noHooks (draymanref11_Same_ev)

end
end Go.Rv.Tryd

set_option linter.unusedVariables false
set_option maxRecDepth 100000
set_option maxHeartbeats 4000000
namespace Go.Rv.Tryd
open Go Go.Rv Go.RowKit
noncomputable section

-- drayman/draymanref13.Same

abbrev draymanref13_Same_T (α : Type) : Type := (Seq (Int × (Seq (ByteArray × Int × Unit)) × Int × Unit)) → (Seq (Int × (Seq (ByteArray × Int × Unit)) × Int × Unit)) → (Bool → Option α) → Option α

noncomputable def draymanref13_Same_l0_step {α : Type} (draymanref11_Same : draymanref11_Same_T α) (kr : (Bool) → Option α) (k0 : Option α) (rec : (Seq (Int × (Seq (ByteArray × Int × Unit)) × Int × Unit)) → (Seq (Int × (Seq (ByteArray × Int × Unit)) × Int × Unit)) → (Int) → Option α) (a3 : Seq (Int × (Seq (ByteArray × Int × Unit)) × Int × Unit)) (b4 : Seq (Int × (Seq (ByteArray × Int × Unit)) × Int × Unit)) (i5 : Int) : Option α :=
  (cond (decide (i5 < (a3.n : Int)))
    (cond ((decide ((0 : Int) ≤ i5)) && (decide (i5 < (a3.n : Int))))
      (cond ((decide ((0 : Int) ≤ i5)) && (decide (i5 < (b4.n : Int))))
        (cond (!((a3.g i5.toNat).1 != (b4.g i5.toNat).1))
          (cond ((decide ((0 : Int) ≤ i5)) && (decide (i5 < (a3.n : Int))))
            (cond ((decide ((0 : Int) ≤ i5)) && (decide (i5 < (b4.n : Int))))
              (cond (!((a3.g i5.toNat).2.2.1 != (b4.g i5.toNat).2.2.1))
                (cond ((decide ((0 : Int) ≤ i5)) && (decide (i5 < (a3.n : Int))))
                  (cond ((decide ((0 : Int) ≤ i5)) && (decide (i5 < (b4.n : Int))))
                    (draymanref11_Same ((a3.g i5.toNat).2.1) ((b4.g i5.toNat).2.1) fun r6 =>
                      (cond (!r6)
                        (kr false)
                        (rec a3 b4 (IntKind.i64.wrap (i5 + 1)))))
                    none)
                  none)
                (kr false))
              none)
            none)
          (kr false))
        none)
      none)
    (k0))

noncomputable def draymanref13_Same_l0_run {α : Type} (draymanref11_Same : draymanref11_Same_T α) (kr : (Bool) → Option α) (k0 : Option α) : Nat → (Seq (Int × (Seq (ByteArray × Int × Unit)) × Int × Unit)) → (Seq (Int × (Seq (ByteArray × Int × Unit)) × Int × Unit)) → (Int) → Option α
  | 0, _, _, _ => none
  | n + 1, a3, b4, i5 => draymanref13_Same_l0_step draymanref11_Same kr k0 (fun a3 b4 i5 => draymanref13_Same_l0_run draymanref11_Same kr k0 n a3 b4 i5) a3 b4 i5

noncomputable def draymanref13_Same_g {α : Type} (draymanref11_Same : draymanref11_Same_T α) (a1 : Seq (Int × (Seq (ByteArray × Int × Unit)) × Int × Unit)) (b2 : Seq (Int × (Seq (ByteArray × Int × Unit)) × Int × Unit)) (k : Bool → Option α) : Option α :=
  (cond ((a1.n : Int) != (b2.n : Int))
    (k false)
    (draymanref13_Same_l0_run draymanref11_Same
      (fun x7 =>
        (k x7))
      ((k true))
      1000 a1 b2 0))

noncomputable def draymanref13_Same {α : Type} : draymanref13_Same_T α := draymanref13_Same_g draymanref11_Same

noncomputable def draymanref13_Same_sp {α : Type} (draymanref13_Same : draymanref13_Same_T α) : FunSpec α := ⟨29, [.sl (.int .i64 (.sl (.str (.int .i64 (.nil))) (.int .i64 (.nil)))), .sl (.int .i64 (.sl (.str (.int .i64 (.nil))) (.int .i64 (.nil))))], [], fun ds k => draymanref13_Same (hdQ (.int .i64 (.sl (.str (.int .i64 (.nil))) (.int .i64 (.nil)))) ds) (hdQ (.int .i64 (.sl (.str (.int .i64 (.nil))) (.int .i64 (.nil)))) ds.tail) (fun r1 => k (enc dep (.bool) [.b r1]).1 [])⟩

noncomputable def draymanref13_Same_spec {α : Type} : FunSpec α := draymanref13_Same_sp draymanref13_Same

noncomputable def draymanref13_Same_C {α : Type} (draymanref11_Same : draymanref11_Same_T α) : List (FunSpec α) := [draymanref11_Same_sp draymanref11_Same]

noncomputable def draymanref13_Same_q : FuncId → Bool := fun f => Nat.beq f 68

noncomputable def draymanref13_Same_inl : FuncId → Bool := fun f => false

noncomputable def draymanref13_Same_ann : FuncId → AnnT := fun f p => if f = 29 then (if p = [true, false, true, true] then ⟨[0, 1, 5], [], [], [4], 0, [], [], none⟩ else if p = [false, false, true, false, true, false, true, true] then ⟨[], [], [], [], 2, [], [], none⟩ else ⟨[], [], [], [], 0, [], [], none⟩) else ⟨[], [], [], [], 0, [], [], none⟩

noncomputable def draymanref13_Same_l0_t : List Sh := [.sl (.int .i64 (.sl (.str (.int .i64 (.nil))) (.int .i64 (.nil)))), .sl (.int .i64 (.sl (.str (.int .i64 (.nil))) (.int .i64 (.nil)))), .dead, .dead, .dead, .int .i64, .dead, .dead, .dead, .dead, .dead, .dead, .dead, .dead, .dead, .dead, .dead, .dead, .dead, .dead, .dead, .dead, .dead, .dead, .dead, .dead, .dead, .dead, .dead, .dead, .dead, .dead, .dead, .dead, .dead, .dead, .dead, .dead, .dead, .dead, .dead, .dead, .dead, .dead, .dead, .dead, .dead, .dead, .dead, .dead, .dead, .dead, .dead, .dead, .dead]
noncomputable def draymanref13_Same_l0_s : List (List Sh) := []
noncomputable def draymanref13_Same_l0_h : List BSh := []

noncomputable def draymanref13_Same_l0_spec {α : Type} (draymanref11_Same : draymanref11_Same_T α) : LoopSpec α := ⟨6, 29, [true, false, true, true], draymanref13_Same_l0_t, draymanref13_Same_l0_s, draymanref13_Same_l0_h, fun ds k => draymanref13_Same_l0_run draymanref11_Same (fun y1 => k .ret (encSt [.dead, .dead, .dead, .dead, .bool, .dead, .dead, .dead, .dead, .dead, .dead, .dead, .dead, .dead, .dead, .dead, .dead, .dead, .dead, .dead, .dead, .dead, .dead, .dead, .dead, .dead, .dead, .dead, .dead, .dead, .dead, .dead, .dead, .dead, .dead, .dead, .dead, .dead, .dead, .dead, .dead, .dead, .dead, .dead, .dead, .dead, .dead, .dead, .dead, .dead, .dead, .dead, .dead, .dead, .dead] [] [] [.b y1])) (k (.exit 0) (encSt [.dead, .dead, .dead, .dead, .dead, .dead, .dead, .dead, .dead, .dead, .dead, .dead, .dead, .dead, .dead, .dead, .dead, .dead, .dead, .dead, .dead, .dead, .dead, .dead, .dead, .dead, .dead, .dead, .dead, .dead, .dead, .dead, .dead, .dead, .dead, .dead, .dead, .dead, .dead, .dead, .dead, .dead, .dead, .dead, .dead, .dead, .dead, .dead, .dead, .dead, .dead, .dead, .dead, .dead, .dead] [] [] [])) 1000 (hdQ (.int .i64 (.sl (.str (.int .i64 (.nil))) (.int .i64 (.nil)))) ds) (hdQ (.int .i64 (.sl (.str (.int .i64 (.nil))) (.int .i64 (.nil)))) ds.tail) (hdI ds.tail.tail)⟩

noncomputable def draymanref13_Same_loops {α : Type} (draymanref11_Same : draymanref11_Same_T α) : List (LoopSpec α) := [draymanref13_Same_l0_spec draymanref11_Same]

noncomputable def draymanref13_Same_l0_ev {α : Type} (draymanref11_Same : draymanref11_Same_T α) (n : Nat) (st : St) (k : X → St → Option α) : Option α := loopN (evCode Go.Proofs.Tryd.prog (callD Go.Proofs.Tryd.prog (envOf (draymanref13_Same_C draymanref11_Same) draymanref13_Same_q draymanref13_Same_inl 1000 draymanref13_Same_ann false (draymanref13_Same_loops draymanref11_Same) (fun _ => none)) 6) (((envOf (draymanref13_Same_C draymanref11_Same) draymanref13_Same_q draymanref13_Same_inl 1000 draymanref13_Same_ann false (draymanref13_Same_loops draymanref11_Same) (fun _ => none)) : Env α).L 6 29) 1000 (draymanref13_Same_ann 29) (false :: [true, false, true, true]) (loopC Go.Proofs.Tryd.prog 29 [true, false, true, true])) ((draymanref13_Same_ann 29 [true, false, true, true]).head 0) ((draymanref13_Same_ann 29 [true, false, true, true]).leave 0) n st k

theorem draymanref13_Same_l0_eq {α : Type} (draymanref11_Same : draymanref11_Same_T α) : ∀ (n : Nat) (a3 : Seq (Int × (Seq (ByteArray × Int × Unit)) × Int × Unit)) (b4 : Seq (Int × (Seq (ByteArray × Int × Unit)) × Int × Unit)) (i5 : Int) (k : X → St → Option α), draymanref13_Same_l0_ev draymanref11_Same n (encSt draymanref13_Same_l0_t draymanref13_Same_l0_s draymanref13_Same_l0_h [.q (.int .i64 (.sl (.str (.int .i64 (.nil))) (.int .i64 (.nil)))) a3, .q (.int .i64 (.sl (.str (.int .i64 (.nil))) (.int .i64 (.nil)))) b4, .i i5]) k = draymanref13_Same_l0_run draymanref11_Same (fun y1 => k .ret (encSt [.dead, .dead, .dead, .dead, .bool, .dead, .dead, .dead, .dead, .dead, .dead, .dead, .dead, .dead, .dead, .dead, .dead, .dead, .dead, .dead, .dead, .dead, .dead, .dead, .dead, .dead, .dead, .dead, .dead, .dead, .dead, .dead, .dead, .dead, .dead, .dead, .dead, .dead, .dead, .dead, .dead, .dead, .dead, .dead, .dead, .dead, .dead, .dead, .dead, .dead, .dead, .dead, .dead, .dead, .dead] [] [] [.b y1])) (k (.exit 0) (encSt [.dead, .dead, .dead, .dead, .dead, .dead, .dead, .dead, .dead, .dead, .dead, .dead, .dead, .dead, .dead, .dead, .dead, .dead, .dead, .dead, .dead, .dead, .dead, .dead, .dead, .dead, .dead, .dead, .dead, .dead, .dead, .dead, .dead, .dead, .dead, .dead, .dead, .dead, .dead, .dead, .dead, .dead, .dead, .dead, .dead, .dead, .dead, .dead, .dead, .dead, .dead, .dead, .dead, .dead, .dead] [] [] [])) n a3 b4 i5 := by
  intro n
  induction n with
  | zero => intros; kernel_rfl
  | succ n ih =>
    intro a3 b4 i5 k
    have e : (fun (a3 : Seq (Int × (Seq (ByteArray × Int × Unit)) × Int × Unit)) (b4 : Seq (Int × (Seq (ByteArray × Int × Unit)) × Int × Unit)) (i5 : Int) => draymanref13_Same_l0_ev draymanref11_Same n (encSt draymanref13_Same_l0_t draymanref13_Same_l0_s draymanref13_Same_l0_h [.q (.int .i64 (.sl (.str (.int .i64 (.nil))) (.int .i64 (.nil)))) a3, .q (.int .i64 (.sl (.str (.int .i64 (.nil))) (.int .i64 (.nil)))) b4, .i i5]) k) = (fun (a3 : Seq (Int × (Seq (ByteArray × Int × Unit)) × Int × Unit)) (b4 : Seq (Int × (Seq (ByteArray × Int × Unit)) × Int × Unit)) (i5 : Int) => draymanref13_Same_l0_run draymanref11_Same (fun y1 => k .ret (encSt [.dead, .dead, .dead, .dead, .bool, .dead, .dead, .dead, .dead, .dead, .dead, .dead, .dead, .dead, .dead, .dead, .dead, .dead, .dead, .dead, .dead, .dead, .dead, .dead, .dead, .dead, .dead, .dead, .dead, .dead, .dead, .dead, .dead, .dead, .dead, .dead, .dead, .dead, .dead, .dead, .dead, .dead, .dead, .dead, .dead, .dead, .dead, .dead, .dead, .dead, .dead, .dead, .dead, .dead, .dead] [] [] [.b y1])) (k (.exit 0) (encSt [.dead, .dead, .dead, .dead, .dead, .dead, .dead, .dead, .dead, .dead, .dead, .dead, .dead, .dead, .dead, .dead, .dead, .dead, .dead, .dead, .dead, .dead, .dead, .dead, .dead, .dead, .dead, .dead, .dead, .dead, .dead, .dead, .dead, .dead, .dead, .dead, .dead, .dead, .dead, .dead, .dead, .dead, .dead, .dead, .dead, .dead, .dead, .dead, .dead, .dead, .dead, .dead, .dead, .dead, .dead] [] [] [])) n a3 b4 i5) := by
      funext a3 b4 i5
      exact ih a3 b4 i5 k
    have h1 : draymanref13_Same_l0_ev draymanref11_Same (n + 1) (encSt draymanref13_Same_l0_t draymanref13_Same_l0_s draymanref13_Same_l0_h [.q (.int .i64 (.sl (.str (.int .i64 (.nil))) (.int .i64 (.nil)))) a3, .q (.int .i64 (.sl (.str (.int .i64 (.nil))) (.int .i64 (.nil)))) b4, .i i5]) k = draymanref13_Same_l0_step draymanref11_Same (fun y1 => k .ret (encSt [.dead, .dead, .dead, .dead, .bool, .dead, .dead, .dead, .dead, .dead, .dead, .dead, .dead, .dead, .dead, .dead, .dead, .dead, .dead, .dead, .dead, .dead, .dead, .dead, .dead, .dead, .dead, .dead, .dead, .dead, .dead, .dead, .dead, .dead, .dead, .dead, .dead, .dead, .dead, .dead, .dead, .dead, .dead, .dead, .dead, .dead, .dead, .dead, .dead, .dead, .dead, .dead, .dead, .dead, .dead] [] [] [.b y1])) (k (.exit 0) (encSt [.dead, .dead, .dead, .dead, .dead, .dead, .dead, .dead, .dead, .dead, .dead, .dead, .dead, .dead, .dead, .dead, .dead, .dead, .dead, .dead, .dead, .dead, .dead, .dead, .dead, .dead, .dead, .dead, .dead, .dead, .dead, .dead, .dead, .dead, .dead, .dead, .dead, .dead, .dead, .dead, .dead, .dead, .dead, .dead, .dead, .dead, .dead, .dead, .dead, .dead, .dead, .dead, .dead, .dead, .dead] [] [] [])) (fun (a3 : Seq (Int × (Seq (ByteArray × Int × Unit)) × Int × Unit)) (b4 : Seq (Int × (Seq (ByteArray × Int × Unit)) × Int × Unit)) (i5 : Int) => draymanref13_Same_l0_ev draymanref11_Same n (encSt draymanref13_Same_l0_t draymanref13_Same_l0_s draymanref13_Same_l0_h [.q (.int .i64 (.sl (.str (.int .i64 (.nil))) (.int .i64 (.nil)))) a3, .q (.int .i64 (.sl (.str (.int .i64 (.nil))) (.int .i64 (.nil)))) b4, .i i5]) k) a3 b4 i5 := by kernel_rfl
    have h2 := congrArg (fun r => draymanref13_Same_l0_step draymanref11_Same (fun y1 => k .ret (encSt [.dead, .dead, .dead, .dead, .bool, .dead, .dead, .dead, .dead, .dead, .dead, .dead, .dead, .dead, .dead, .dead, .dead, .dead, .dead, .dead, .dead, .dead, .dead, .dead, .dead, .dead, .dead, .dead, .dead, .dead, .dead, .dead, .dead, .dead, .dead, .dead, .dead, .dead, .dead, .dead, .dead, .dead, .dead, .dead, .dead, .dead, .dead, .dead, .dead, .dead, .dead, .dead, .dead, .dead, .dead] [] [] [.b y1])) (k (.exit 0) (encSt [.dead, .dead, .dead, .dead, .dead, .dead, .dead, .dead, .dead, .dead, .dead, .dead, .dead, .dead, .dead, .dead, .dead, .dead, .dead, .dead, .dead, .dead, .dead, .dead, .dead, .dead, .dead, .dead, .dead, .dead, .dead, .dead, .dead, .dead, .dead, .dead, .dead, .dead, .dead, .dead, .dead, .dead, .dead, .dead, .dead, .dead, .dead, .dead, .dead, .dead, .dead, .dead, .dead, .dead, .dead] [] [] [])) r a3 b4 i5) e
    have h3 : draymanref13_Same_l0_step draymanref11_Same (fun y1 => k .ret (encSt [.dead, .dead, .dead, .dead, .bool, .dead, .dead, .dead, .dead, .dead, .dead, .dead, .dead, .dead, .dead, .dead, .dead, .dead, .dead, .dead, .dead, .dead, .dead, .dead, .dead, .dead, .dead, .dead, .dead, .dead, .dead, .dead, .dead, .dead, .dead, .dead, .dead, .dead, .dead, .dead, .dead, .dead, .dead, .dead, .dead, .dead, .dead, .dead, .dead, .dead, .dead, .dead, .dead, .dead, .dead] [] [] [.b y1])) (k (.exit 0) (encSt [.dead, .dead, .dead, .dead, .dead, .dead, .dead, .dead, .dead, .dead, .dead, .dead, .dead, .dead, .dead, .dead, .dead, .dead, .dead, .dead, .dead, .dead, .dead, .dead, .dead, .dead, .dead, .dead, .dead, .dead, .dead, .dead, .dead, .dead, .dead, .dead, .dead, .dead, .dead, .dead, .dead, .dead, .dead, .dead, .dead, .dead, .dead, .dead, .dead, .dead, .dead, .dead, .dead, .dead, .dead] [] [] [])) (fun (a3 : Seq (Int × (Seq (ByteArray × Int × Unit)) × Int × Unit)) (b4 : Seq (Int × (Seq (ByteArray × Int × Unit)) × Int × Unit)) (i5 : Int) => draymanref13_Same_l0_run draymanref11_Same (fun y1 => k .ret (encSt [.dead, .dead, .dead, .dead, .bool, .dead, .dead, .dead, .dead, .dead, .dead, .dead, .dead, .dead, .dead, .dead, .dead, .dead, .dead, .dead, .dead, .dead, .dead, .dead, .dead, .dead, .dead, .dead, .dead, .dead, .dead, .dead, .dead, .dead, .dead, .dead, .dead, .dead, .dead, .dead, .dead, .dead, .dead, .dead, .dead, .dead, .dead, .dead, .dead, .dead, .dead, .dead, .dead, .dead, .dead] [] [] [.b y1])) (k (.exit 0) (encSt [.dead, .dead, .dead, .dead, .dead, .dead, .dead, .dead, .dead, .dead, .dead, .dead, .dead, .dead, .dead, .dead, .dead, .dead, .dead, .dead, .dead, .dead, .dead, .dead, .dead, .dead, .dead, .dead, .dead, .dead, .dead, .dead, .dead, .dead, .dead, .dead, .dead, .dead, .dead, .dead, .dead, .dead, .dead, .dead, .dead, .dead, .dead, .dead, .dead, .dead, .dead, .dead, .dead, .dead, .dead] [] [] [])) n a3 b4 i5) a3 b4 i5 = draymanref13_Same_l0_run draymanref11_Same (fun y1 => k .ret (encSt [.dead, .dead, .dead, .dead, .bool, .dead, .dead, .dead, .dead, .dead, .dead, .dead, .dead, .dead, .dead, .dead, .dead, .dead, .dead, .dead, .dead, .dead, .dead, .dead, .dead, .dead, .dead, .dead, .dead, .dead, .dead, .dead, .dead, .dead, .dead, .dead, .dead, .dead, .dead, .dead, .dead, .dead, .dead, .dead, .dead, .dead, .dead, .dead, .dead, .dead, .dead, .dead, .dead, .dead, .dead] [] [] [.b y1])) (k (.exit 0) (encSt [.dead, .dead, .dead, .dead, .dead, .dead, .dead, .dead, .dead, .dead, .dead, .dead, .dead, .dead, .dead, .dead, .dead, .dead, .dead, .dead, .dead, .dead, .dead, .dead, .dead, .dead, .dead, .dead, .dead, .dead, .dead, .dead, .dead, .dead, .dead, .dead, .dead, .dead, .dead, .dead, .dead, .dead, .dead, .dead, .dead, .dead, .dead, .dead, .dead, .dead, .dead, .dead, .dead, .dead, .dead] [] [] [])) (n + 1) a3 b4 i5 := by kernel_rfl
    exact h1.trans (h2.trans h3)

theorem draymanref13_Same_l0_ok {α : Type} (draymanref11_Same : draymanref11_Same_T α) : (draymanref13_Same_l0_spec draymanref11_Same : LoopSpec α).ok Go.Proofs.Tryd.prog (envOf (draymanref13_Same_C draymanref11_Same) draymanref13_Same_q draymanref13_Same_inl 1000 draymanref13_Same_ann false (draymanref13_Same_loops draymanref11_Same) (fun _ => none)) := by
  intro ds k
  have h1 : draymanref13_Same_l0_ev draymanref11_Same 1000 (encSt draymanref13_Same_l0_t draymanref13_Same_l0_s draymanref13_Same_l0_h ds) k = draymanref13_Same_l0_ev draymanref11_Same 1000 (encSt draymanref13_Same_l0_t draymanref13_Same_l0_s draymanref13_Same_l0_h [.q (.int .i64 (.sl (.str (.int .i64 (.nil))) (.int .i64 (.nil)))) (hdQ (.int .i64 (.sl (.str (.int .i64 (.nil))) (.int .i64 (.nil)))) ds), .q (.int .i64 (.sl (.str (.int .i64 (.nil))) (.int .i64 (.nil)))) (hdQ (.int .i64 (.sl (.str (.int .i64 (.nil))) (.int .i64 (.nil)))) ds.tail), .i (hdI ds.tail.tail)]) k := by kernel_rfl
  have h2 := draymanref13_Same_l0_eq draymanref11_Same 1000 (hdQ (.int .i64 (.sl (.str (.int .i64 (.nil))) (.int .i64 (.nil)))) ds) (hdQ (.int .i64 (.sl (.str (.int .i64 (.nil))) (.int .i64 (.nil)))) ds.tail) (hdI ds.tail.tail) k
  exact h1.trans h2

theorem draymanref13_Same_ev {α : Type} (draymanref11_Same : draymanref11_Same_T α) : EvOk (α := α) Go.Proofs.Tryd.prog (envOf (draymanref13_Same_C draymanref11_Same) draymanref13_Same_q draymanref13_Same_inl 1000 draymanref13_Same_ann false (draymanref13_Same_loops draymanref11_Same) (fun _ => none)) 6 (draymanref13_Same_sp (draymanref13_Same_g draymanref11_Same)) := by intro ds k; kernel_rfl

theorem draymanref13_Same_ok {α : Type} : (draymanref13_Same_spec : FunSpec α).ok Go.Proofs.Tryd.prog :=
  FunSpec.ok_of (sp := draymanref13_Same_spec) (C := draymanref13_Same_C draymanref11_Same) (q := draymanref13_Same_q) (inl := draymanref13_Same_inl) (N := 1000) (ann := draymanref13_Same_ann) (fr := false) (D := 6) (l := (draymanref13_Same_loops draymanref11_Same)) (hk := (fun _ => none)) (okCons draymanref11_Same_ok okNil) (lokCons (draymanref13_Same_l0_ok draymanref11_Same) lokNil) noHooks (draymanref13_Same_ev draymanref11_Same)

end
end Go.Rv.Tryd

set_option linter.unusedVariables false
set_option maxRecDepth 100000
set_option maxHeartbeats 4000000
namespace Go.Rv.Tryd
open Go Go.Rv Go.RowKit
noncomputable section

-- drayman/draymanlaw13.HoldsTurn

abbrev draymanlaw13_HoldsTurn_T (α : Type) : Type := (Seq (Int × (Seq (ByteArray × Int × Unit)) × Int × Unit)) → (Int × (Seq (ByteArray × Int × Unit)) × Int × Unit) → Int → (Bool → Option α) → Option α

noncomputable def draymanlaw13_HoldsTurn_g {α : Type} (draymanref13_Few : draymanref13_Few_T α) (draymanref11_Few : draymanref11_Few_T α) (draymanlaw13_awake : draymanlaw13_awake_T α) (holds_Put : holds_Put_T α) (draymanref13_Put : draymanref13_Put_T α) (holds_Drop : holds_Drop_T α) (draymanref13_Drop : draymanref13_Drop_T α) (draymanref13_Same : draymanref13_Same_T α) (x1 : Seq (Int × (Seq (ByteArray × Int × Unit)) × Int × Unit)) (x2 : Int × (Seq (ByteArray × Int × Unit)) × Int × Unit) (x3 : Int) (k : Bool → Option α) : Option α :=
  (draymanref13_Few x1 fun r4 =>
    (cond (!(!r4))
      (draymanref11_Few x2.2.1 fun r5 =>
        (cond (!r5)
          (draymanlaw13_awake fun r6 =>
            (k r6))
          (holds_Put x1 x2 fun r7 r8 =>
            (draymanref13_Put x1 x2 fun r9 r10 =>
              (holds_Drop x1 x3 fun r11 r12 =>
                (draymanref13_Drop x1 x3 fun r13 r14 =>
                  (draymanref13_Same r8 r10 fun r15 =>
                    (cond r15
                      (cond (r7 == r9)
                        (draymanref13_Same r12 r14 fun r16 =>
                          (cond r16
                            (cond (r11 == r13)
                              (draymanlaw13_awake fun r17 =>
                                (k r17))
                              (k false))
                            (k false)))
                        (k false))
                      (k false)))))))))
      (draymanlaw13_awake fun r18 =>
        (k r18))))

noncomputable def draymanlaw13_HoldsTurn {α : Type} : draymanlaw13_HoldsTurn_T α := draymanlaw13_HoldsTurn_g draymanref13_Few draymanref11_Few draymanlaw13_awake holds_Put draymanref13_Put holds_Drop draymanref13_Drop draymanref13_Same

noncomputable def draymanlaw13_HoldsTurn_sp {α : Type} (draymanlaw13_HoldsTurn : draymanlaw13_HoldsTurn_T α) : FunSpec α := ⟨7, [.sl (.int .i64 (.sl (.str (.int .i64 (.nil))) (.int .i64 (.nil)))), .agg [.int .i64, .sl (.str (.int .i64 (.nil))), .int .i64], .int .i64], [], fun ds k => draymanlaw13_HoldsTurn (hdQ (.int .i64 (.sl (.str (.int .i64 (.nil))) (.int .i64 (.nil)))) ds) (hdI ds.tail, hdQ (.str (.int .i64 (.nil))) ds.tail.tail, hdI ds.tail.tail.tail, ()) (hdI ds.tail.tail.tail.tail) (fun r1 => k (enc dep (.bool) [.b r1]).1 [])⟩

noncomputable def draymanlaw13_HoldsTurn_spec {α : Type} : FunSpec α := draymanlaw13_HoldsTurn_sp draymanlaw13_HoldsTurn

noncomputable def draymanlaw13_HoldsTurn_C {α : Type} (draymanref13_Few : draymanref13_Few_T α) (draymanref11_Few : draymanref11_Few_T α) (draymanlaw13_awake : draymanlaw13_awake_T α) (holds_Put : holds_Put_T α) (draymanref13_Put : draymanref13_Put_T α) (holds_Drop : holds_Drop_T α) (draymanref13_Drop : draymanref13_Drop_T α) (draymanref13_Same : draymanref13_Same_T α) : List (FunSpec α) := [draymanref13_Few_sp draymanref13_Few, draymanref11_Few_sp draymanref11_Few, draymanlaw13_awake_sp draymanlaw13_awake, holds_Put_sp holds_Put, draymanref13_Put_sp draymanref13_Put, holds_Drop_sp holds_Drop, draymanref13_Drop_sp draymanref13_Drop, draymanref13_Same_sp draymanref13_Same]

noncomputable def draymanlaw13_HoldsTurn_q : FuncId → Bool := fun f => Nat.beq f 22 || Nat.beq f 23 || Nat.beq f 24 || Nat.beq f 29

noncomputable def draymanlaw13_HoldsTurn_inl : FuncId → Bool := fun f => false

noncomputable def draymanlaw13_HoldsTurn_ann : FuncId → AnnT := fun f p => ⟨[], [], [], [], 0, [], [], none⟩

noncomputable def draymanlaw13_HoldsTurn_loops {α : Type} (draymanref13_Few : draymanref13_Few_T α) (draymanref11_Few : draymanref11_Few_T α) (draymanlaw13_awake : draymanlaw13_awake_T α) (holds_Put : holds_Put_T α) (draymanref13_Put : draymanref13_Put_T α) (holds_Drop : holds_Drop_T α) (draymanref13_Drop : draymanref13_Drop_T α) (draymanref13_Same : draymanref13_Same_T α) : List (LoopSpec α) := []

theorem draymanlaw13_HoldsTurn_ev {α : Type} (draymanref13_Few : draymanref13_Few_T α) (draymanref11_Few : draymanref11_Few_T α) (draymanlaw13_awake : draymanlaw13_awake_T α) (holds_Put : holds_Put_T α) (draymanref13_Put : draymanref13_Put_T α) (holds_Drop : holds_Drop_T α) (draymanref13_Drop : draymanref13_Drop_T α) (draymanref13_Same : draymanref13_Same_T α) : EvOk (α := α) Go.Proofs.Tryd.prog (envOf (draymanlaw13_HoldsTurn_C draymanref13_Few draymanref11_Few draymanlaw13_awake holds_Put draymanref13_Put holds_Drop draymanref13_Drop draymanref13_Same) draymanlaw13_HoldsTurn_q draymanlaw13_HoldsTurn_inl 1000 draymanlaw13_HoldsTurn_ann false (draymanlaw13_HoldsTurn_loops draymanref13_Few draymanref11_Few draymanlaw13_awake holds_Put draymanref13_Put holds_Drop draymanref13_Drop draymanref13_Same) (fun _ => none)) 6 (draymanlaw13_HoldsTurn_sp (draymanlaw13_HoldsTurn_g draymanref13_Few draymanref11_Few draymanlaw13_awake holds_Put draymanref13_Put holds_Drop draymanref13_Drop draymanref13_Same)) := by intro ds k; kernel_rfl

theorem draymanlaw13_HoldsTurn_ok {α : Type} : (draymanlaw13_HoldsTurn_spec : FunSpec α).ok Go.Proofs.Tryd.prog :=
  FunSpec.ok_of (sp := draymanlaw13_HoldsTurn_spec) (C := draymanlaw13_HoldsTurn_C draymanref13_Few draymanref11_Few draymanlaw13_awake holds_Put draymanref13_Put holds_Drop draymanref13_Drop draymanref13_Same) (q := draymanlaw13_HoldsTurn_q) (inl := draymanlaw13_HoldsTurn_inl) (N := 1000) (ann := draymanlaw13_HoldsTurn_ann) (fr := false) (D := 6) (l := (draymanlaw13_HoldsTurn_loops draymanref13_Few draymanref11_Few draymanlaw13_awake holds_Put draymanref13_Put holds_Drop draymanref13_Drop draymanref13_Same)) (hk := (fun _ => none)) (okCons draymanref13_Few_ok (okCons draymanref11_Few_ok (okCons draymanlaw13_awake_ok (okCons holds_Put_ok (okCons draymanref13_Put_ok (okCons holds_Drop_ok (okCons draymanref13_Drop_ok (okCons draymanref13_Same_ok okNil)))))))) lokNil noHooks (draymanlaw13_HoldsTurn_ev draymanref13_Few draymanref11_Few draymanlaw13_awake holds_Put draymanref13_Put holds_Drop draymanref13_Drop draymanref13_Same)

end
end Go.Rv.Tryd
