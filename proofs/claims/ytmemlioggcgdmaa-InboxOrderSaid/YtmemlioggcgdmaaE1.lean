/- What the functions of the program compute, each with the proof that its code computes it. Written by a program (rvp2.py). -/
import Derived.Test.YtmemlioggcgdmaaProg
import Derived.Test.YtmemlioggcgdmaaRvP
import Derived.Test.YtmemlioggcgdmaaE0

set_option linter.unusedVariables false
set_option maxRecDepth 100000
set_option maxHeartbeats 4000000
namespace Go.Rv.Try
open Go Go.Rv Go.RowKit
noncomputable section

-- drayman/draymanref18.Fit

abbrev draymanref18_Fit_T (α : Type) : Type := (Int × Int × (Seq (Int × Unit)) × Unit) → (Bool → Option α) → Option α

noncomputable def draymanref18_Fit_l0_step {α : Type} (draymanref01_Fit : draymanref01_Fit_T α) (kr : (Bool) → (Int × Int × (Seq (Int × Unit)) × Unit) → Option α) (k0 : (Int × Int × (Seq (Int × Unit)) × Unit) → Option α) (rec : (Int) → (Int × Int × (Seq (Int × Unit)) × Unit) → Option α) (x1 : Int) (x2 : Int × Int × (Seq (Int × Unit)) × Unit) : Option α :=
  (cond (decide (x1 < (x2.2.2.1.n : Int)))
    (cond ((decide ((0 : Int) ≤ x1)) && (decide (x1 < (x2.2.2.1.n : Int))))
      (draymanref01_Fit ((x2.2.2.1.g x1.toNat).1) fun r3 =>
        (cond (!(!r3))
          (cond ((decide ((0 : Int) ≤ x1)) && (decide (x1 < (x2.2.2.1.n : Int))))
            (cond (!(decide ((x2.2.2.1.g x1.toNat).1 ≤ (IntKind.i64.wrap (x2.2.1 + 1)))))
              (cond (decide (x1 > 0))
                (cond ((decide ((0 : Int) ≤ x1)) && (decide (x1 < (x2.2.2.1.n : Int))))
                  (cond ((decide ((0 : Int) ≤ (IntKind.i64.wrap (x1 - 1)))) && (decide ((IntKind.i64.wrap (x1 - 1)) < (x2.2.2.1.n : Int))))
                    (cond (decide ((x2.2.2.1.g x1.toNat).1 ≤ (x2.2.2.1.g (IntKind.i64.wrap (x1 - 1)).toNat).1))
                      (kr false x2)
                      (rec (IntKind.i64.wrap (x1 + 1)) x2))
                    none)
                  none)
                (rec (IntKind.i64.wrap (x1 + 1)) x2))
              (kr false x2))
            none)
          (kr false x2)))
      none)
    (k0 x2))

noncomputable def draymanref18_Fit_l0_run {α : Type} (draymanref01_Fit : draymanref01_Fit_T α) (kr : (Bool) → (Int × Int × (Seq (Int × Unit)) × Unit) → Option α) (k0 : (Int × Int × (Seq (Int × Unit)) × Unit) → Option α) : Nat → (Int) → (Int × Int × (Seq (Int × Unit)) × Unit) → Option α
  | 0, _, _ => none
  | n + 1, x1, x2 => draymanref18_Fit_l0_step draymanref01_Fit kr k0 (fun x1 x2 => draymanref18_Fit_l0_run draymanref01_Fit kr k0 n x1 x2) x1 x2

noncomputable def draymanref18_Fit_g {α : Type} (draymanref01_Fit : draymanref01_Fit_T α) (x1 : Int × Int × (Seq (Int × Unit)) × Unit) (k : Bool → Option α) : Option α :=
  (cond (x1.1 != 1)
    (cond (!(x1.1 != 2))
      (draymanref01_Fit x1.2.1 fun r2 =>
        (cond (!(!r2))
          (cond (decide ((x1.2.2.1.n : Int) > 16))
            (k false)
            (draymanref18_Fit_l0_run draymanref01_Fit
              (fun x3 x4 =>
                (k x3))
              (fun x5 =>
                (k true))
              1000 0 x1))
          (k false)))
      (k false))
    (draymanref01_Fit x1.2.1 fun r6 =>
      (cond (!(!r6))
        (cond (decide ((x1.2.2.1.n : Int) > 16))
          (k false)
          (draymanref18_Fit_l0_run draymanref01_Fit
            (fun x7 x8 =>
              (k x7))
            (fun x9 =>
              (k true))
            1000 0 x1))
        (k false))))

noncomputable def draymanref18_Fit {α : Type} : draymanref18_Fit_T α := draymanref18_Fit_g draymanref01_Fit

noncomputable def draymanref18_Fit_sp {α : Type} (draymanref18_Fit : draymanref18_Fit_T α) : FunSpec α := ⟨67, [.agg [.int .i64, .int .i64, .sl (.int .i64 (.nil))]], [], fun ds k => draymanref18_Fit (hdI ds, hdI ds.tail, hdQ (.int .i64 (.nil)) ds.tail.tail, ()) (fun r1 => k (enc dep (.bool) [.b r1]).1 [])⟩

noncomputable def draymanref18_Fit_spec {α : Type} : FunSpec α := draymanref18_Fit_sp draymanref18_Fit

noncomputable def draymanref18_Fit_C {α : Type} (draymanref01_Fit : draymanref01_Fit_T α) : List (FunSpec α) := [draymanref01_Fit_sp draymanref01_Fit]

noncomputable def draymanref18_Fit_q : FuncId → Bool := fun f => Nat.beq f 77

noncomputable def draymanref18_Fit_inl : FuncId → Bool := fun f => false

noncomputable def draymanref18_Fit_ann : FuncId → AnnT := fun f p => if f = 67 then (if p = [true, false, true, true] then ⟨[1, 3], [], [], [2], 0, [], []⟩ else if p = [false, false, true, false, true, false, true, true] then ⟨[], [], [], [], 2, [], []⟩ else ⟨[], [], [], [], 0, [], []⟩) else ⟨[], [], [], [], 0, [], []⟩

noncomputable def draymanref18_Fit_l0_t : List Sh := [.dead, .ref 0 0, .dead, .int .i64, .dead, .dead, .dead, .dead, .dead, .dead, .dead, .dead, .dead, .dead, .dead, .dead, .dead, .dead, .dead, .dead, .dead, .dead, .dead, .dead, .dead, .dead, .dead, .dead, .dead, .dead, .dead, .dead, .dead, .dead, .dead, .dead, .dead, .dead, .dead, .dead, .dead, .dead, .dead, .dead, .dead, .dead, .dead, .dead, .dead, .dead, .dead, .dead, .dead, .dead, .dead, .dead, .dead, .dead, .dead, .dead, .dead, .dead, .dead, .dead, .dead, .dead, .dead]
noncomputable def draymanref18_Fit_l0_s : List (List Sh) := []
noncomputable def draymanref18_Fit_l0_h : List BSh := [.box [.int .i64, .int .i64, .sl (.int .i64 (.nil))]]

noncomputable def draymanref18_Fit_l0_spec {α : Type} (draymanref01_Fit : draymanref01_Fit_T α) : LoopSpec α := ⟨6, 67, [true, false, true, true], draymanref18_Fit_l0_t, draymanref18_Fit_l0_s, draymanref18_Fit_l0_h, fun ds k => draymanref18_Fit_l0_run draymanref01_Fit (fun y1 y2 => k .ret (encSt [.dead, .dead, .bool, .dead, .dead, .dead, .dead, .dead, .dead, .dead, .dead, .dead, .dead, .dead, .dead, .dead, .dead, .dead, .dead, .dead, .dead, .dead, .dead, .dead, .dead, .dead, .dead, .dead, .dead, .dead, .dead, .dead, .dead, .dead, .dead, .dead, .dead, .dead, .dead, .dead, .dead, .dead, .dead, .dead, .dead, .dead, .dead, .dead, .dead, .dead, .dead, .dead, .dead, .dead, .dead, .dead, .dead, .dead, .dead, .dead, .dead, .dead, .dead, .dead, .dead, .dead, .dead] [] [.box [.int .i64, .int .i64, .sl (.int .i64 (.nil))]] [.b y1, .i y2.1, .i y2.2.1, .q (.int .i64 (.nil)) y2.2.2.1])) (fun y1 => k (.exit 0) (encSt [.dead, .dead, .dead, .dead, .dead, .dead, .dead, .dead, .dead, .dead, .dead, .dead, .dead, .dead, .dead, .dead, .dead, .dead, .dead, .dead, .dead, .dead, .dead, .dead, .dead, .dead, .dead, .dead, .dead, .dead, .dead, .dead, .dead, .dead, .dead, .dead, .dead, .dead, .dead, .dead, .dead, .dead, .dead, .dead, .dead, .dead, .dead, .dead, .dead, .dead, .dead, .dead, .dead, .dead, .dead, .dead, .dead, .dead, .dead, .dead, .dead, .dead, .dead, .dead, .dead, .dead, .dead] [] [.box [.int .i64, .int .i64, .sl (.int .i64 (.nil))]] [.i y1.1, .i y1.2.1, .q (.int .i64 (.nil)) y1.2.2.1])) 1000 (hdI ds) (hdI ds.tail, hdI ds.tail.tail, hdQ (.int .i64 (.nil)) ds.tail.tail.tail, ())⟩

noncomputable def draymanref18_Fit_loops {α : Type} (draymanref01_Fit : draymanref01_Fit_T α) : List (LoopSpec α) := [draymanref18_Fit_l0_spec draymanref01_Fit]

noncomputable def draymanref18_Fit_l0_ev {α : Type} (draymanref01_Fit : draymanref01_Fit_T α) (n : Nat) (st : St) (k : X → St → Option α) : Option α := loopN (evCode Go.Proofs.Try.prog (callD Go.Proofs.Try.prog (envOf (draymanref18_Fit_C draymanref01_Fit) draymanref18_Fit_q draymanref18_Fit_inl 1000 draymanref18_Fit_ann false (draymanref18_Fit_loops draymanref01_Fit) (fun _ => none)) 6) (((envOf (draymanref18_Fit_C draymanref01_Fit) draymanref18_Fit_q draymanref18_Fit_inl 1000 draymanref18_Fit_ann false (draymanref18_Fit_loops draymanref01_Fit) (fun _ => none)) : Env α).L 6 67) 1000 (draymanref18_Fit_ann 67) (false :: [true, false, true, true]) (loopC Go.Proofs.Try.prog 67 [true, false, true, true])) ((draymanref18_Fit_ann 67 [true, false, true, true]).head 1) ((draymanref18_Fit_ann 67 [true, false, true, true]).leave 1) n st k

theorem draymanref18_Fit_l0_eq {α : Type} (draymanref01_Fit : draymanref01_Fit_T α) : ∀ (n : Nat) (x1 : Int) (x2 : Int × Int × (Seq (Int × Unit)) × Unit) (k : X → St → Option α), draymanref18_Fit_l0_ev draymanref01_Fit n (encSt draymanref18_Fit_l0_t draymanref18_Fit_l0_s draymanref18_Fit_l0_h [.i x1, .i x2.1, .i x2.2.1, .q (.int .i64 (.nil)) x2.2.2.1]) k = draymanref18_Fit_l0_run draymanref01_Fit (fun y1 y2 => k .ret (encSt [.dead, .dead, .bool, .dead, .dead, .dead, .dead, .dead, .dead, .dead, .dead, .dead, .dead, .dead, .dead, .dead, .dead, .dead, .dead, .dead, .dead, .dead, .dead, .dead, .dead, .dead, .dead, .dead, .dead, .dead, .dead, .dead, .dead, .dead, .dead, .dead, .dead, .dead, .dead, .dead, .dead, .dead, .dead, .dead, .dead, .dead, .dead, .dead, .dead, .dead, .dead, .dead, .dead, .dead, .dead, .dead, .dead, .dead, .dead, .dead, .dead, .dead, .dead, .dead, .dead, .dead, .dead] [] [.box [.int .i64, .int .i64, .sl (.int .i64 (.nil))]] [.b y1, .i y2.1, .i y2.2.1, .q (.int .i64 (.nil)) y2.2.2.1])) (fun y1 => k (.exit 0) (encSt [.dead, .dead, .dead, .dead, .dead, .dead, .dead, .dead, .dead, .dead, .dead, .dead, .dead, .dead, .dead, .dead, .dead, .dead, .dead, .dead, .dead, .dead, .dead, .dead, .dead, .dead, .dead, .dead, .dead, .dead, .dead, .dead, .dead, .dead, .dead, .dead, .dead, .dead, .dead, .dead, .dead, .dead, .dead, .dead, .dead, .dead, .dead, .dead, .dead, .dead, .dead, .dead, .dead, .dead, .dead, .dead, .dead, .dead, .dead, .dead, .dead, .dead, .dead, .dead, .dead, .dead, .dead] [] [.box [.int .i64, .int .i64, .sl (.int .i64 (.nil))]] [.i y1.1, .i y1.2.1, .q (.int .i64 (.nil)) y1.2.2.1])) n x1 x2 := by
  intro n
  induction n with
  | zero => intros; kernel_rfl
  | succ n ih =>
    intro x1 x2 k
    have e : (fun (x1 : Int) (x2 : Int × Int × (Seq (Int × Unit)) × Unit) => draymanref18_Fit_l0_ev draymanref01_Fit n (encSt draymanref18_Fit_l0_t draymanref18_Fit_l0_s draymanref18_Fit_l0_h [.i x1, .i x2.1, .i x2.2.1, .q (.int .i64 (.nil)) x2.2.2.1]) k) = (fun (x1 : Int) (x2 : Int × Int × (Seq (Int × Unit)) × Unit) => draymanref18_Fit_l0_run draymanref01_Fit (fun y1 y2 => k .ret (encSt [.dead, .dead, .bool, .dead, .dead, .dead, .dead, .dead, .dead, .dead, .dead, .dead, .dead, .dead, .dead, .dead, .dead, .dead, .dead, .dead, .dead, .dead, .dead, .dead, .dead, .dead, .dead, .dead, .dead, .dead, .dead, .dead, .dead, .dead, .dead, .dead, .dead, .dead, .dead, .dead, .dead, .dead, .dead, .dead, .dead, .dead, .dead, .dead, .dead, .dead, .dead, .dead, .dead, .dead, .dead, .dead, .dead, .dead, .dead, .dead, .dead, .dead, .dead, .dead, .dead, .dead, .dead] [] [.box [.int .i64, .int .i64, .sl (.int .i64 (.nil))]] [.b y1, .i y2.1, .i y2.2.1, .q (.int .i64 (.nil)) y2.2.2.1])) (fun y1 => k (.exit 0) (encSt [.dead, .dead, .dead, .dead, .dead, .dead, .dead, .dead, .dead, .dead, .dead, .dead, .dead, .dead, .dead, .dead, .dead, .dead, .dead, .dead, .dead, .dead, .dead, .dead, .dead, .dead, .dead, .dead, .dead, .dead, .dead, .dead, .dead, .dead, .dead, .dead, .dead, .dead, .dead, .dead, .dead, .dead, .dead, .dead, .dead, .dead, .dead, .dead, .dead, .dead, .dead, .dead, .dead, .dead, .dead, .dead, .dead, .dead, .dead, .dead, .dead, .dead, .dead, .dead, .dead, .dead, .dead] [] [.box [.int .i64, .int .i64, .sl (.int .i64 (.nil))]] [.i y1.1, .i y1.2.1, .q (.int .i64 (.nil)) y1.2.2.1])) n x1 x2) := by
      funext x1 x2
      exact ih x1 x2 k
    have h1 : draymanref18_Fit_l0_ev draymanref01_Fit (n + 1) (encSt draymanref18_Fit_l0_t draymanref18_Fit_l0_s draymanref18_Fit_l0_h [.i x1, .i x2.1, .i x2.2.1, .q (.int .i64 (.nil)) x2.2.2.1]) k = draymanref18_Fit_l0_step draymanref01_Fit (fun y1 y2 => k .ret (encSt [.dead, .dead, .bool, .dead, .dead, .dead, .dead, .dead, .dead, .dead, .dead, .dead, .dead, .dead, .dead, .dead, .dead, .dead, .dead, .dead, .dead, .dead, .dead, .dead, .dead, .dead, .dead, .dead, .dead, .dead, .dead, .dead, .dead, .dead, .dead, .dead, .dead, .dead, .dead, .dead, .dead, .dead, .dead, .dead, .dead, .dead, .dead, .dead, .dead, .dead, .dead, .dead, .dead, .dead, .dead, .dead, .dead, .dead, .dead, .dead, .dead, .dead, .dead, .dead, .dead, .dead, .dead] [] [.box [.int .i64, .int .i64, .sl (.int .i64 (.nil))]] [.b y1, .i y2.1, .i y2.2.1, .q (.int .i64 (.nil)) y2.2.2.1])) (fun y1 => k (.exit 0) (encSt [.dead, .dead, .dead, .dead, .dead, .dead, .dead, .dead, .dead, .dead, .dead, .dead, .dead, .dead, .dead, .dead, .dead, .dead, .dead, .dead, .dead, .dead, .dead, .dead, .dead, .dead, .dead, .dead, .dead, .dead, .dead, .dead, .dead, .dead, .dead, .dead, .dead, .dead, .dead, .dead, .dead, .dead, .dead, .dead, .dead, .dead, .dead, .dead, .dead, .dead, .dead, .dead, .dead, .dead, .dead, .dead, .dead, .dead, .dead, .dead, .dead, .dead, .dead, .dead, .dead, .dead, .dead] [] [.box [.int .i64, .int .i64, .sl (.int .i64 (.nil))]] [.i y1.1, .i y1.2.1, .q (.int .i64 (.nil)) y1.2.2.1])) (fun (x1 : Int) (x2 : Int × Int × (Seq (Int × Unit)) × Unit) => draymanref18_Fit_l0_ev draymanref01_Fit n (encSt draymanref18_Fit_l0_t draymanref18_Fit_l0_s draymanref18_Fit_l0_h [.i x1, .i x2.1, .i x2.2.1, .q (.int .i64 (.nil)) x2.2.2.1]) k) x1 x2 := by kernel_rfl
    have h2 := congrArg (fun r => draymanref18_Fit_l0_step draymanref01_Fit (fun y1 y2 => k .ret (encSt [.dead, .dead, .bool, .dead, .dead, .dead, .dead, .dead, .dead, .dead, .dead, .dead, .dead, .dead, .dead, .dead, .dead, .dead, .dead, .dead, .dead, .dead, .dead, .dead, .dead, .dead, .dead, .dead, .dead, .dead, .dead, .dead, .dead, .dead, .dead, .dead, .dead, .dead, .dead, .dead, .dead, .dead, .dead, .dead, .dead, .dead, .dead, .dead, .dead, .dead, .dead, .dead, .dead, .dead, .dead, .dead, .dead, .dead, .dead, .dead, .dead, .dead, .dead, .dead, .dead, .dead, .dead] [] [.box [.int .i64, .int .i64, .sl (.int .i64 (.nil))]] [.b y1, .i y2.1, .i y2.2.1, .q (.int .i64 (.nil)) y2.2.2.1])) (fun y1 => k (.exit 0) (encSt [.dead, .dead, .dead, .dead, .dead, .dead, .dead, .dead, .dead, .dead, .dead, .dead, .dead, .dead, .dead, .dead, .dead, .dead, .dead, .dead, .dead, .dead, .dead, .dead, .dead, .dead, .dead, .dead, .dead, .dead, .dead, .dead, .dead, .dead, .dead, .dead, .dead, .dead, .dead, .dead, .dead, .dead, .dead, .dead, .dead, .dead, .dead, .dead, .dead, .dead, .dead, .dead, .dead, .dead, .dead, .dead, .dead, .dead, .dead, .dead, .dead, .dead, .dead, .dead, .dead, .dead, .dead] [] [.box [.int .i64, .int .i64, .sl (.int .i64 (.nil))]] [.i y1.1, .i y1.2.1, .q (.int .i64 (.nil)) y1.2.2.1])) r x1 x2) e
    have h3 : draymanref18_Fit_l0_step draymanref01_Fit (fun y1 y2 => k .ret (encSt [.dead, .dead, .bool, .dead, .dead, .dead, .dead, .dead, .dead, .dead, .dead, .dead, .dead, .dead, .dead, .dead, .dead, .dead, .dead, .dead, .dead, .dead, .dead, .dead, .dead, .dead, .dead, .dead, .dead, .dead, .dead, .dead, .dead, .dead, .dead, .dead, .dead, .dead, .dead, .dead, .dead, .dead, .dead, .dead, .dead, .dead, .dead, .dead, .dead, .dead, .dead, .dead, .dead, .dead, .dead, .dead, .dead, .dead, .dead, .dead, .dead, .dead, .dead, .dead, .dead, .dead, .dead] [] [.box [.int .i64, .int .i64, .sl (.int .i64 (.nil))]] [.b y1, .i y2.1, .i y2.2.1, .q (.int .i64 (.nil)) y2.2.2.1])) (fun y1 => k (.exit 0) (encSt [.dead, .dead, .dead, .dead, .dead, .dead, .dead, .dead, .dead, .dead, .dead, .dead, .dead, .dead, .dead, .dead, .dead, .dead, .dead, .dead, .dead, .dead, .dead, .dead, .dead, .dead, .dead, .dead, .dead, .dead, .dead, .dead, .dead, .dead, .dead, .dead, .dead, .dead, .dead, .dead, .dead, .dead, .dead, .dead, .dead, .dead, .dead, .dead, .dead, .dead, .dead, .dead, .dead, .dead, .dead, .dead, .dead, .dead, .dead, .dead, .dead, .dead, .dead, .dead, .dead, .dead, .dead] [] [.box [.int .i64, .int .i64, .sl (.int .i64 (.nil))]] [.i y1.1, .i y1.2.1, .q (.int .i64 (.nil)) y1.2.2.1])) (fun (x1 : Int) (x2 : Int × Int × (Seq (Int × Unit)) × Unit) => draymanref18_Fit_l0_run draymanref01_Fit (fun y1 y2 => k .ret (encSt [.dead, .dead, .bool, .dead, .dead, .dead, .dead, .dead, .dead, .dead, .dead, .dead, .dead, .dead, .dead, .dead, .dead, .dead, .dead, .dead, .dead, .dead, .dead, .dead, .dead, .dead, .dead, .dead, .dead, .dead, .dead, .dead, .dead, .dead, .dead, .dead, .dead, .dead, .dead, .dead, .dead, .dead, .dead, .dead, .dead, .dead, .dead, .dead, .dead, .dead, .dead, .dead, .dead, .dead, .dead, .dead, .dead, .dead, .dead, .dead, .dead, .dead, .dead, .dead, .dead, .dead, .dead] [] [.box [.int .i64, .int .i64, .sl (.int .i64 (.nil))]] [.b y1, .i y2.1, .i y2.2.1, .q (.int .i64 (.nil)) y2.2.2.1])) (fun y1 => k (.exit 0) (encSt [.dead, .dead, .dead, .dead, .dead, .dead, .dead, .dead, .dead, .dead, .dead, .dead, .dead, .dead, .dead, .dead, .dead, .dead, .dead, .dead, .dead, .dead, .dead, .dead, .dead, .dead, .dead, .dead, .dead, .dead, .dead, .dead, .dead, .dead, .dead, .dead, .dead, .dead, .dead, .dead, .dead, .dead, .dead, .dead, .dead, .dead, .dead, .dead, .dead, .dead, .dead, .dead, .dead, .dead, .dead, .dead, .dead, .dead, .dead, .dead, .dead, .dead, .dead, .dead, .dead, .dead, .dead] [] [.box [.int .i64, .int .i64, .sl (.int .i64 (.nil))]] [.i y1.1, .i y1.2.1, .q (.int .i64 (.nil)) y1.2.2.1])) n x1 x2) x1 x2 = draymanref18_Fit_l0_run draymanref01_Fit (fun y1 y2 => k .ret (encSt [.dead, .dead, .bool, .dead, .dead, .dead, .dead, .dead, .dead, .dead, .dead, .dead, .dead, .dead, .dead, .dead, .dead, .dead, .dead, .dead, .dead, .dead, .dead, .dead, .dead, .dead, .dead, .dead, .dead, .dead, .dead, .dead, .dead, .dead, .dead, .dead, .dead, .dead, .dead, .dead, .dead, .dead, .dead, .dead, .dead, .dead, .dead, .dead, .dead, .dead, .dead, .dead, .dead, .dead, .dead, .dead, .dead, .dead, .dead, .dead, .dead, .dead, .dead, .dead, .dead, .dead, .dead] [] [.box [.int .i64, .int .i64, .sl (.int .i64 (.nil))]] [.b y1, .i y2.1, .i y2.2.1, .q (.int .i64 (.nil)) y2.2.2.1])) (fun y1 => k (.exit 0) (encSt [.dead, .dead, .dead, .dead, .dead, .dead, .dead, .dead, .dead, .dead, .dead, .dead, .dead, .dead, .dead, .dead, .dead, .dead, .dead, .dead, .dead, .dead, .dead, .dead, .dead, .dead, .dead, .dead, .dead, .dead, .dead, .dead, .dead, .dead, .dead, .dead, .dead, .dead, .dead, .dead, .dead, .dead, .dead, .dead, .dead, .dead, .dead, .dead, .dead, .dead, .dead, .dead, .dead, .dead, .dead, .dead, .dead, .dead, .dead, .dead, .dead, .dead, .dead, .dead, .dead, .dead, .dead] [] [.box [.int .i64, .int .i64, .sl (.int .i64 (.nil))]] [.i y1.1, .i y1.2.1, .q (.int .i64 (.nil)) y1.2.2.1])) (n + 1) x1 x2 := by kernel_rfl
    exact h1.trans (h2.trans h3)

theorem draymanref18_Fit_l0_ok {α : Type} (draymanref01_Fit : draymanref01_Fit_T α) : (draymanref18_Fit_l0_spec draymanref01_Fit : LoopSpec α).ok Go.Proofs.Try.prog (envOf (draymanref18_Fit_C draymanref01_Fit) draymanref18_Fit_q draymanref18_Fit_inl 1000 draymanref18_Fit_ann false (draymanref18_Fit_loops draymanref01_Fit) (fun _ => none)) := by
  intro ds k
  have h1 : draymanref18_Fit_l0_ev draymanref01_Fit 1000 (encSt draymanref18_Fit_l0_t draymanref18_Fit_l0_s draymanref18_Fit_l0_h ds) k = draymanref18_Fit_l0_ev draymanref01_Fit 1000 (encSt draymanref18_Fit_l0_t draymanref18_Fit_l0_s draymanref18_Fit_l0_h [.i (hdI ds), .i ((hdI ds.tail, hdI ds.tail.tail, hdQ (.int .i64 (.nil)) ds.tail.tail.tail, ()).1), .i ((hdI ds.tail, hdI ds.tail.tail, hdQ (.int .i64 (.nil)) ds.tail.tail.tail, ()).2.1), .q (.int .i64 (.nil)) ((hdI ds.tail, hdI ds.tail.tail, hdQ (.int .i64 (.nil)) ds.tail.tail.tail, ()).2.2.1)]) k := by kernel_rfl
  have h2 := draymanref18_Fit_l0_eq draymanref01_Fit 1000 (hdI ds) (hdI ds.tail, hdI ds.tail.tail, hdQ (.int .i64 (.nil)) ds.tail.tail.tail, ()) k
  exact h1.trans h2

theorem draymanref18_Fit_ev {α : Type} (draymanref01_Fit : draymanref01_Fit_T α) : EvOk (α := α) Go.Proofs.Try.prog (envOf (draymanref18_Fit_C draymanref01_Fit) draymanref18_Fit_q draymanref18_Fit_inl 1000 draymanref18_Fit_ann false (draymanref18_Fit_loops draymanref01_Fit) (fun _ => none)) 6 (draymanref18_Fit_sp (draymanref18_Fit_g draymanref01_Fit)) := by intro ds k; kernel_rfl

theorem draymanref18_Fit_ok {α : Type} : (draymanref18_Fit_spec : FunSpec α).ok Go.Proofs.Try.prog :=
  FunSpec.ok_of (sp := draymanref18_Fit_spec) (C := draymanref18_Fit_C draymanref01_Fit) (q := draymanref18_Fit_q) (inl := draymanref18_Fit_inl) (N := 1000) (ann := draymanref18_Fit_ann) (fr := false) (D := 6) (l := (draymanref18_Fit_loops draymanref01_Fit)) (hk := (fun _ => none)) (okCons draymanref01_Fit_ok okNil) (lokCons (draymanref18_Fit_l0_ok draymanref01_Fit) lokNil) noHooks (draymanref18_Fit_ev draymanref01_Fit)

end
end Go.Rv.Try

set_option linter.unusedVariables false
set_option maxRecDepth 100000
set_option maxHeartbeats 4000000
namespace Go.Rv.Try
open Go Go.Rv Go.RowKit
noncomputable section

-- drayman/draymanref01.Has

abbrev draymanref01_Has_T (α : Type) : Type := (Seq (Int × Unit)) → Int → (Bool → Option α) → Option α

noncomputable def draymanref01_Has_l0_step {α : Type} (kr : (Bool) → Option α) (k0 : Option α) (rec : (Seq (Int × Unit)) → (Int) → (Int) → Option α) (l1 : Seq (Int × Unit)) (n2 : Int) (i3 : Int) : Option α :=
  (cond (decide (i3 < (l1.n : Int)))
    (cond ((decide ((0 : Int) ≤ i3)) && (decide (i3 < (l1.n : Int))))
      (cond ((l1.g i3.toNat).1 == n2)
        (kr true)
        (rec l1 n2 (IntKind.i64.wrap (i3 + 1))))
      none)
    (k0))

noncomputable def draymanref01_Has_l0_run {α : Type} (kr : (Bool) → Option α) (k0 : Option α) : Nat → (Seq (Int × Unit)) → (Int) → (Int) → Option α
  | 0, _, _, _ => none
  | n + 1, l1, n2, i3 => draymanref01_Has_l0_step kr k0 (fun l1 n2 i3 => draymanref01_Has_l0_run kr k0 n l1 n2 i3) l1 n2 i3

noncomputable def draymanref01_Has {α : Type} (l1 : Seq (Int × Unit)) (n2 : Int) (k : Bool → Option α) : Option α :=
  (draymanref01_Has_l0_run
    (fun x3 =>
      (k x3))
    ((k false))
    1000 l1 n2 0)

noncomputable def draymanref01_Has_sp {α : Type} (draymanref01_Has : draymanref01_Has_T α) : FunSpec α := ⟨90, [.sl (.int .i64 (.nil)), .int .i64], [], fun ds k => draymanref01_Has (hdQ (.int .i64 (.nil)) ds) (hdI ds.tail) (fun r1 => k (enc dep (.bool) [.b r1]).1 [])⟩

noncomputable def draymanref01_Has_spec {α : Type} : FunSpec α := draymanref01_Has_sp draymanref01_Has

noncomputable def draymanref01_Has_C {α : Type} : List (FunSpec α) := []

noncomputable def draymanref01_Has_q : FuncId → Bool := fun f => false

noncomputable def draymanref01_Has_inl : FuncId → Bool := fun f => false

noncomputable def draymanref01_Has_ann : FuncId → AnnT := fun f p => if f = 90 then (if p = [true, false, true] then ⟨[0, 1, 5], [], [], [4], 0, [], []⟩ else ⟨[], [], [], [], 0, [], []⟩) else ⟨[], [], [], [], 0, [], []⟩

noncomputable def draymanref01_Has_l0_t : List Sh := [.sl (.int .i64 (.nil)), .int .i64, .dead, .dead, .dead, .int .i64, .dead, .dead, .dead, .dead, .dead, .dead, .dead, .dead, .dead, .dead, .dead, .dead]
noncomputable def draymanref01_Has_l0_s : List (List Sh) := []
noncomputable def draymanref01_Has_l0_h : List BSh := []

noncomputable def draymanref01_Has_l0_spec {α : Type} : LoopSpec α := ⟨6, 90, [true, false, true], draymanref01_Has_l0_t, draymanref01_Has_l0_s, draymanref01_Has_l0_h, fun ds k => draymanref01_Has_l0_run (fun y1 => k .ret (encSt [.dead, .dead, .dead, .dead, .bool, .dead, .dead, .dead, .dead, .dead, .dead, .dead, .dead, .dead, .dead, .dead, .dead, .dead] [] [] [.b y1])) (k (.exit 0) (encSt [.dead, .dead, .dead, .dead, .dead, .dead, .dead, .dead, .dead, .dead, .dead, .dead, .dead, .dead, .dead, .dead, .dead, .dead] [] [] [])) 1000 (hdQ (.int .i64 (.nil)) ds) (hdI ds.tail) (hdI ds.tail.tail)⟩

noncomputable def draymanref01_Has_loops {α : Type} : List (LoopSpec α) := [draymanref01_Has_l0_spec]

noncomputable def draymanref01_Has_l0_ev {α : Type} (n : Nat) (st : St) (k : X → St → Option α) : Option α := loopN (evCode Go.Proofs.Try.prog (callD Go.Proofs.Try.prog (envOf (draymanref01_Has_C) draymanref01_Has_q draymanref01_Has_inl 1000 draymanref01_Has_ann false (draymanref01_Has_loops) (fun _ => none)) 6) (((envOf (draymanref01_Has_C) draymanref01_Has_q draymanref01_Has_inl 1000 draymanref01_Has_ann false (draymanref01_Has_loops) (fun _ => none)) : Env α).L 6 90) 1000 (draymanref01_Has_ann 90) (false :: [true, false, true]) (loopC Go.Proofs.Try.prog 90 [true, false, true])) ((draymanref01_Has_ann 90 [true, false, true]).head 0) ((draymanref01_Has_ann 90 [true, false, true]).leave 0) n st k

theorem draymanref01_Has_l0_eq {α : Type} : ∀ (n : Nat) (l1 : Seq (Int × Unit)) (n2 : Int) (i3 : Int) (k : X → St → Option α), draymanref01_Has_l0_ev n (encSt draymanref01_Has_l0_t draymanref01_Has_l0_s draymanref01_Has_l0_h [.q (.int .i64 (.nil)) l1, .i n2, .i i3]) k = draymanref01_Has_l0_run (fun y1 => k .ret (encSt [.dead, .dead, .dead, .dead, .bool, .dead, .dead, .dead, .dead, .dead, .dead, .dead, .dead, .dead, .dead, .dead, .dead, .dead] [] [] [.b y1])) (k (.exit 0) (encSt [.dead, .dead, .dead, .dead, .dead, .dead, .dead, .dead, .dead, .dead, .dead, .dead, .dead, .dead, .dead, .dead, .dead, .dead] [] [] [])) n l1 n2 i3 := by
  intro n
  induction n with
  | zero => intros; kernel_rfl
  | succ n ih =>
    intro l1 n2 i3 k
    have e : (fun (l1 : Seq (Int × Unit)) (n2 : Int) (i3 : Int) => draymanref01_Has_l0_ev n (encSt draymanref01_Has_l0_t draymanref01_Has_l0_s draymanref01_Has_l0_h [.q (.int .i64 (.nil)) l1, .i n2, .i i3]) k) = (fun (l1 : Seq (Int × Unit)) (n2 : Int) (i3 : Int) => draymanref01_Has_l0_run (fun y1 => k .ret (encSt [.dead, .dead, .dead, .dead, .bool, .dead, .dead, .dead, .dead, .dead, .dead, .dead, .dead, .dead, .dead, .dead, .dead, .dead] [] [] [.b y1])) (k (.exit 0) (encSt [.dead, .dead, .dead, .dead, .dead, .dead, .dead, .dead, .dead, .dead, .dead, .dead, .dead, .dead, .dead, .dead, .dead, .dead] [] [] [])) n l1 n2 i3) := by
      funext l1 n2 i3
      exact ih l1 n2 i3 k
    have h1 : draymanref01_Has_l0_ev (n + 1) (encSt draymanref01_Has_l0_t draymanref01_Has_l0_s draymanref01_Has_l0_h [.q (.int .i64 (.nil)) l1, .i n2, .i i3]) k = draymanref01_Has_l0_step (fun y1 => k .ret (encSt [.dead, .dead, .dead, .dead, .bool, .dead, .dead, .dead, .dead, .dead, .dead, .dead, .dead, .dead, .dead, .dead, .dead, .dead] [] [] [.b y1])) (k (.exit 0) (encSt [.dead, .dead, .dead, .dead, .dead, .dead, .dead, .dead, .dead, .dead, .dead, .dead, .dead, .dead, .dead, .dead, .dead, .dead] [] [] [])) (fun (l1 : Seq (Int × Unit)) (n2 : Int) (i3 : Int) => draymanref01_Has_l0_ev n (encSt draymanref01_Has_l0_t draymanref01_Has_l0_s draymanref01_Has_l0_h [.q (.int .i64 (.nil)) l1, .i n2, .i i3]) k) l1 n2 i3 := by kernel_rfl
    have h2 := congrArg (fun r => draymanref01_Has_l0_step (fun y1 => k .ret (encSt [.dead, .dead, .dead, .dead, .bool, .dead, .dead, .dead, .dead, .dead, .dead, .dead, .dead, .dead, .dead, .dead, .dead, .dead] [] [] [.b y1])) (k (.exit 0) (encSt [.dead, .dead, .dead, .dead, .dead, .dead, .dead, .dead, .dead, .dead, .dead, .dead, .dead, .dead, .dead, .dead, .dead, .dead] [] [] [])) r l1 n2 i3) e
    have h3 : draymanref01_Has_l0_step (fun y1 => k .ret (encSt [.dead, .dead, .dead, .dead, .bool, .dead, .dead, .dead, .dead, .dead, .dead, .dead, .dead, .dead, .dead, .dead, .dead, .dead] [] [] [.b y1])) (k (.exit 0) (encSt [.dead, .dead, .dead, .dead, .dead, .dead, .dead, .dead, .dead, .dead, .dead, .dead, .dead, .dead, .dead, .dead, .dead, .dead] [] [] [])) (fun (l1 : Seq (Int × Unit)) (n2 : Int) (i3 : Int) => draymanref01_Has_l0_run (fun y1 => k .ret (encSt [.dead, .dead, .dead, .dead, .bool, .dead, .dead, .dead, .dead, .dead, .dead, .dead, .dead, .dead, .dead, .dead, .dead, .dead] [] [] [.b y1])) (k (.exit 0) (encSt [.dead, .dead, .dead, .dead, .dead, .dead, .dead, .dead, .dead, .dead, .dead, .dead, .dead, .dead, .dead, .dead, .dead, .dead] [] [] [])) n l1 n2 i3) l1 n2 i3 = draymanref01_Has_l0_run (fun y1 => k .ret (encSt [.dead, .dead, .dead, .dead, .bool, .dead, .dead, .dead, .dead, .dead, .dead, .dead, .dead, .dead, .dead, .dead, .dead, .dead] [] [] [.b y1])) (k (.exit 0) (encSt [.dead, .dead, .dead, .dead, .dead, .dead, .dead, .dead, .dead, .dead, .dead, .dead, .dead, .dead, .dead, .dead, .dead, .dead] [] [] [])) (n + 1) l1 n2 i3 := by kernel_rfl
    exact h1.trans (h2.trans h3)

theorem draymanref01_Has_l0_ok {α : Type} : (draymanref01_Has_l0_spec : LoopSpec α).ok Go.Proofs.Try.prog (envOf (draymanref01_Has_C) draymanref01_Has_q draymanref01_Has_inl 1000 draymanref01_Has_ann false (draymanref01_Has_loops) (fun _ => none)) := by
  intro ds k
  have h1 : draymanref01_Has_l0_ev 1000 (encSt draymanref01_Has_l0_t draymanref01_Has_l0_s draymanref01_Has_l0_h ds) k = draymanref01_Has_l0_ev 1000 (encSt draymanref01_Has_l0_t draymanref01_Has_l0_s draymanref01_Has_l0_h [.q (.int .i64 (.nil)) (hdQ (.int .i64 (.nil)) ds), .i (hdI ds.tail), .i (hdI ds.tail.tail)]) k := by kernel_rfl
  have h2 := draymanref01_Has_l0_eq 1000 (hdQ (.int .i64 (.nil)) ds) (hdI ds.tail) (hdI ds.tail.tail) k
  exact h1.trans h2

theorem draymanref01_Has_ev {α : Type} : EvOk (α := α) Go.Proofs.Try.prog (envOf (draymanref01_Has_C) draymanref01_Has_q draymanref01_Has_inl 1000 draymanref01_Has_ann false (draymanref01_Has_loops) (fun _ => none)) 6 (draymanref01_Has_sp (draymanref01_Has)) := by intro ds k; kernel_rfl

theorem draymanref01_Has_ok {α : Type} : (draymanref01_Has_spec : FunSpec α).ok Go.Proofs.Try.prog :=
  FunSpec.ok_of (sp := draymanref01_Has_spec) (C := draymanref01_Has_C) (q := draymanref01_Has_q) (inl := draymanref01_Has_inl) (N := 1000) (ann := draymanref01_Has_ann) (fr := false) (D := 6) (l := (draymanref01_Has_loops)) (hk := (fun _ => none)) okNil (lokCons (draymanref01_Has_l0_ok) lokNil) noHooks (draymanref01_Has_ev)

end
end Go.Rv.Try

set_option linter.unusedVariables false
set_option maxRecDepth 100000
set_option maxHeartbeats 4000000
namespace Go.Rv.Try
open Go Go.Rv Go.RowKit
noncomputable section

-- drayman/draymanref18.Had

abbrev draymanref18_Had_T (α : Type) : Type := (Int × Int × (Seq (Int × Unit)) × Unit) → Int → (Bool → Option α) → Option α

noncomputable def draymanref18_Had_g {α : Type} (draymanref01_Has : draymanref01_Has_T α) (b1 : Int × Int × (Seq (Int × Unit)) × Unit) (id2 : Int) (k : Bool → Option α) : Option α :=
  (cond (!(decide (id2 ≤ b1.2.1)))
    (draymanref01_Has b1.2.2.1 id2 fun r3 =>
      (k r3))
    (k true))

noncomputable def draymanref18_Had {α : Type} : draymanref18_Had_T α := draymanref18_Had_g draymanref01_Has

noncomputable def draymanref18_Had_sp {α : Type} (draymanref18_Had : draymanref18_Had_T α) : FunSpec α := ⟨68, [.agg [.int .i64, .int .i64, .sl (.int .i64 (.nil))], .int .i64], [], fun ds k => draymanref18_Had (hdI ds, hdI ds.tail, hdQ (.int .i64 (.nil)) ds.tail.tail, ()) (hdI ds.tail.tail.tail) (fun r1 => k (enc dep (.bool) [.b r1]).1 [])⟩

noncomputable def draymanref18_Had_spec {α : Type} : FunSpec α := draymanref18_Had_sp draymanref18_Had

noncomputable def draymanref18_Had_C {α : Type} (draymanref01_Has : draymanref01_Has_T α) : List (FunSpec α) := [draymanref01_Has_sp draymanref01_Has]

noncomputable def draymanref18_Had_q : FuncId → Bool := fun f => Nat.beq f 90

noncomputable def draymanref18_Had_inl : FuncId → Bool := fun f => false

noncomputable def draymanref18_Had_ann : FuncId → AnnT := fun f p => ⟨[], [], [], [], 0, [], []⟩

noncomputable def draymanref18_Had_loops {α : Type} (draymanref01_Has : draymanref01_Has_T α) : List (LoopSpec α) := []

theorem draymanref18_Had_ev {α : Type} (draymanref01_Has : draymanref01_Has_T α) : EvOk (α := α) Go.Proofs.Try.prog (envOf (draymanref18_Had_C draymanref01_Has) draymanref18_Had_q draymanref18_Had_inl 1000 draymanref18_Had_ann false (draymanref18_Had_loops draymanref01_Has) (fun _ => none)) 6 (draymanref18_Had_sp (draymanref18_Had_g draymanref01_Has)) := by intro ds k; kernel_rfl

theorem draymanref18_Had_ok {α : Type} : (draymanref18_Had_spec : FunSpec α).ok Go.Proofs.Try.prog :=
  FunSpec.ok_of (sp := draymanref18_Had_spec) (C := draymanref18_Had_C draymanref01_Has) (q := draymanref18_Had_q) (inl := draymanref18_Had_inl) (N := 1000) (ann := draymanref18_Had_ann) (fr := false) (D := 6) (l := (draymanref18_Had_loops draymanref01_Has)) (hk := (fun _ => none)) (okCons draymanref01_Has_ok okNil) lokNil noHooks (draymanref18_Had_ev draymanref01_Has)

end
end Go.Rv.Try

set_option linter.unusedVariables false
set_option maxRecDepth 100000
set_option maxHeartbeats 4000000
namespace Go.Rv.Try
open Go Go.Rv Go.RowKit
noncomputable section

-- drayman/draymanref18.Mark

abbrev draymanref18_Mark_T (α : Type) : Type := (Int × Int × (Seq (Int × Unit)) × Unit) → Int → ((Int × Int × (Seq (Int × Unit)) × Unit) → Int → Option α) → Option α

noncomputable def draymanref18_Mark_l0_step {α : Type} (draymanref18_Fit : draymanref18_Fit_T α) (draymanref18_Had : draymanref18_Had_T α) (k1 : (Int) → (Int) → (Int × Int × (Seq (Int × Unit)) × Unit) → (Int × Int × (Seq (Int × Unit)) × Unit) → (Seq (Int × Unit)) → Option α) (rec : (Int) → (Int) → (Int × Int × (Seq (Int × Unit)) × Unit) → (Int × Int × (Seq (Int × Unit)) × Unit) → (Seq (Int × Unit)) → Option α) (x1 : Int) (x2 : Int) (x3 : Int × Int × (Seq (Int × Unit)) × Unit) (x4 : Int × Int × (Seq (Int × Unit)) × Unit) (q5 : Seq (Int × Unit)) : Option α :=
  (cond (decide (x2 < (x3.2.2.1.n : Int)))
    (cond ((decide ((0 : Int) ≤ x2)) && (decide (x2 < (x3.2.2.1.n : Int))))
      (cond (decide ((x3.2.2.1.g x2.toNat).1 < x1))
        (rec x1 (IntKind.i64.wrap (x2 + 1)) x3 x4 q5)
        (k1 x1 x2 x3 x4 q5))
      none)
    (k1 x1 x2 x3 x4 q5))

noncomputable def draymanref18_Mark_l0_run {α : Type} (draymanref18_Fit : draymanref18_Fit_T α) (draymanref18_Had : draymanref18_Had_T α) (k1 : (Int) → (Int) → (Int × Int × (Seq (Int × Unit)) × Unit) → (Int × Int × (Seq (Int × Unit)) × Unit) → (Seq (Int × Unit)) → Option α) : Nat → (Int) → (Int) → (Int × Int × (Seq (Int × Unit)) × Unit) → (Int × Int × (Seq (Int × Unit)) × Unit) → (Seq (Int × Unit)) → Option α
  | 0, _, _, _, _, _ => none
  | n + 1, x1, x2, x3, x4, q5 => draymanref18_Mark_l0_step draymanref18_Fit draymanref18_Had k1 (fun x1 x2 x3 x4 q5 => draymanref18_Mark_l0_run draymanref18_Fit draymanref18_Had k1 n x1 x2 x3 x4 q5) x1 x2 x3 x4 q5

noncomputable def draymanref18_Mark_l1_step {α : Type} (draymanref18_Fit : draymanref18_Fit_T α) (draymanref18_Had : draymanref18_Had_T α) (k3 : (Seq (Int × Unit)) → (Int) → (Int × Int × (Seq (Int × Unit)) × Unit) → (Int × Int × (Seq (Int × Unit)) × Unit) → (Seq (Int × Unit)) → Option α) (rec : (Seq (Int × Unit)) → (Int) → (Int × Int × (Seq (Int × Unit)) × Unit) → (Int × Int × (Seq (Int × Unit)) × Unit) → (Seq (Int × Unit)) → Option α) (x1 : Seq (Int × Unit)) (x2 : Int) (x3 : Int × Int × (Seq (Int × Unit)) × Unit) (x4 : Int × Int × (Seq (Int × Unit)) × Unit) (q5 : Seq (Int × Unit)) : Option α :=
  (cond (decide ((x1.n : Int) > 0))
    (cond (decide ((0 : Int) < (x1.n : Int)))
      (cond ((x1.g 0).1 == (IntKind.i64.wrap (x2 + 1)))
        (cond (decide ((0 : Int) < (x1.n : Int)))
          (cond (decide ((1 : Int) ≤ (x1.n : Int)))
            (rec (⟨x1.nl, (x1.n - 1), (tShift 1 x1.g)⟩ : Seq (Int × Unit)) ((x1.g 0).1) x3 x4 q5)
            none)
          none)
        (k3 x1 x2 x3 x4 q5))
      none)
    (k3 x1 x2 x3 x4 q5))

noncomputable def draymanref18_Mark_l1_run {α : Type} (draymanref18_Fit : draymanref18_Fit_T α) (draymanref18_Had : draymanref18_Had_T α) (k3 : (Seq (Int × Unit)) → (Int) → (Int × Int × (Seq (Int × Unit)) × Unit) → (Int × Int × (Seq (Int × Unit)) × Unit) → (Seq (Int × Unit)) → Option α) : Nat → (Seq (Int × Unit)) → (Int) → (Int × Int × (Seq (Int × Unit)) × Unit) → (Int × Int × (Seq (Int × Unit)) × Unit) → (Seq (Int × Unit)) → Option α
  | 0, _, _, _, _, _ => none
  | n + 1, x1, x2, x3, x4, q5 => draymanref18_Mark_l1_step draymanref18_Fit draymanref18_Had k3 (fun x1 x2 x3 x4 q5 => draymanref18_Mark_l1_run draymanref18_Fit draymanref18_Had k3 n x1 x2 x3 x4 q5) x1 x2 x3 x4 q5

noncomputable def draymanref18_Mark_g {α : Type} (draymanref18_Fit : draymanref18_Fit_T α) (draymanref18_Had : draymanref18_Had_T α) (x1 : Int × Int × (Seq (Int × Unit)) × Unit) (x2 : Int) (k : (Int × Int × (Seq (Int × Unit)) × Unit) → Int → Option α) : Option α :=
  (draymanref18_Fit x1 fun r3 =>
    (cond (!r3)
      (k (0, 0, (⟨true, 0, (fun _ => (0, ()))⟩ : Seq (Int × Unit)), ()) 12)
      (cond (!(decide (x2 < 1)))
        (cond (decide (x2 > 1099511627776))
          (k (0, 0, (⟨true, 0, (fun _ => (0, ()))⟩ : Seq (Int × Unit)), ()) 1)
          (draymanref18_Had x1 x2 fun r4 =>
            (cond r4
              (k (0, 0, (⟨true, 0, (fun _ => (0, ()))⟩ : Seq (Int × Unit)), ()) 14)
              (draymanref18_Mark_l0_run draymanref18_Fit draymanref18_Had
                (fun x5 x6 x7 x8 q9 =>
                  (cond ((decide ((0 : Int) ≤ x6)) && (decide (x6 ≤ (x7.2.2.1.n : Int))))
                    (cond (decide (((q9.n + x6.toNat)) * 8 ≤ 140737488355328))
                      (cond (decide ((((q9.n + x6.toNat) + 1)) * 8 ≤ 140737488355328))
                        (cond ((decide ((0 : Int) ≤ x6)) && (decide (x6 ≤ (x7.2.2.1.n : Int))))
                          (cond (decide (((((q9.n + x6.toNat) + 1) + (x7.2.2.1.n - x6.toNat))) * 8 ≤ 140737488355328))
                            (cond (decide ((((((q9.n + x6.toNat) + 1) + (x7.2.2.1.n - x6.toNat)) : Nat) : Int) > 16))
                              (cond (decide ((0 : Int) < (((((q9.n + x6.toNat) + 1) + (x7.2.2.1.n - x6.toNat)) : Nat) : Int)))
                                (cond (Nat.blt 0 (((q9.n + x6.toNat) + 1) + (x7.2.2.1.n - x6.toNat)))
                                  (cond (decide ((1 : Int) ≤ (((((q9.n + x6.toNat) + 1) + (x7.2.2.1.n - x6.toNat)) : Nat) : Int)))
                                    (draymanref18_Mark_l1_run draymanref18_Fit draymanref18_Had
                                      (fun x10 x11 x12 x13 q14 =>
                                        (k (x12.1, x11, x10, ()) 0))
                                      1000 (⟨(((q9.nl && (Nat.beq x6.toNat 0)) && false) && (Nat.beq (x7.2.2.1.n - x6.toNat) 0)), ((((q9.n + x6.toNat) + 1) + (x7.2.2.1.n - x6.toNat)) - 1), (tShift 1 (tApp ((q9.n + x6.toNat) + 1) (tApp (q9.n + x6.toNat) (tApp q9.n q9.g x7.2.2.1.g) (fun _ => (x5, ()))) (tShift x6.toNat x7.2.2.1.g)))⟩ : Seq (Int × Unit)) (((tApp ((q9.n + x6.toNat) + 1) (tApp (q9.n + x6.toNat) (tApp q9.n q9.g x7.2.2.1.g) (fun _ => (x5, ()))) (tShift x6.toNat x7.2.2.1.g)) 0).1) x7 x8 (⟨false, 1, (fun _ => (x5, ()))⟩ : Seq (Int × Unit)))
                                    none)
                                  none)
                                none)
                              (draymanref18_Mark_l1_run draymanref18_Fit draymanref18_Had
                                (fun x15 x16 x17 x18 q19 =>
                                  (k (x17.1, x16, x15, ()) 0))
                                1000 (⟨(((q9.nl && (Nat.beq x6.toNat 0)) && false) && (Nat.beq (x7.2.2.1.n - x6.toNat) 0)), (((q9.n + x6.toNat) + 1) + (x7.2.2.1.n - x6.toNat)), (tApp ((q9.n + x6.toNat) + 1) (tApp (q9.n + x6.toNat) (tApp q9.n q9.g x7.2.2.1.g) (fun _ => (x5, ()))) (tShift x6.toNat x7.2.2.1.g))⟩ : Seq (Int × Unit)) x7.2.1 x7 x8 (⟨false, 1, (fun _ => (x5, ()))⟩ : Seq (Int × Unit))))
                            none)
                          none)
                        none)
                      none)
                    none))
                1000 x2 0 x1 (0, 0, (⟨true, 0, (fun _ => (0, ()))⟩ : Seq (Int × Unit)), ()) (⟨true, 0, (fun _ => (0, ()))⟩ : Seq (Int × Unit))))))
        (k (0, 0, (⟨true, 0, (fun _ => (0, ()))⟩ : Seq (Int × Unit)), ()) 1))))

noncomputable def draymanref18_Mark {α : Type} : draymanref18_Mark_T α := draymanref18_Mark_g draymanref18_Fit draymanref18_Had

noncomputable def draymanref18_Mark_sp {α : Type} (draymanref18_Mark : draymanref18_Mark_T α) : FunSpec α := ⟨66, [.agg [.int .i64, .int .i64, .sl (.int .i64 (.nil))], .int .i64], [], fun ds k => draymanref18_Mark (hdI ds, hdI ds.tail, hdQ (.int .i64 (.nil)) ds.tail.tail, ()) (hdI ds.tail.tail.tail) (fun r1 r2 => k (enc dep (.tup [.agg [.int .i64, .int .i64, .sl (.int .i64 (.nil))], .int .i64]) [.i r1.1, .i r1.2.1, .q (.int .i64 (.nil)) r1.2.2.1, .i r2]).1 [])⟩

noncomputable def draymanref18_Mark_spec {α : Type} : FunSpec α := draymanref18_Mark_sp draymanref18_Mark

noncomputable def draymanref18_Mark_C {α : Type} (draymanref18_Fit : draymanref18_Fit_T α) (draymanref18_Had : draymanref18_Had_T α) : List (FunSpec α) := [draymanref18_Fit_sp draymanref18_Fit, draymanref18_Had_sp draymanref18_Had]

noncomputable def draymanref18_Mark_q : FuncId → Bool := fun f => Nat.beq f 67 || Nat.beq f 68

noncomputable def draymanref18_Mark_inl : FuncId → Bool := fun f => false

noncomputable def draymanref18_Mark_ann : FuncId → AnnT := fun f p => if f = 66 then (if p = [false, true, true, true, true, true, true, true, true, true, true] then ⟨[2, 4, 6, 8], [3], [2, 4, 6, 8], [4, 5], 0, [], []⟩ else if p = [false, true, true, true, true] then ⟨[1, 2, 4, 6, 7], [2], [1, 2, 4, 6, 7], [4, 5], 0, [], []⟩ else ⟨[], [], [], [], 0, [], []⟩) else ⟨[], [], [], [], 0, [], []⟩

noncomputable def draymanref18_Mark_l0_t : List Sh := [.dead, .int .i64, .ref 0 0, .dead, .ref 1 0, .dead, .own 2, .int .i64, .dead, .dead, .dead, .dead, .dead, .dead, .dead, .dead, .dead, .dead, .dead, .dead, .dead, .dead, .dead, .dead, .dead, .dead, .dead, .dead, .dead, .dead, .dead, .dead, .dead, .dead, .dead, .dead, .dead, .dead, .dead, .dead, .dead, .dead, .dead, .dead, .dead, .dead, .dead, .dead, .dead, .dead, .dead, .dead, .dead, .dead, .dead, .dead, .dead, .dead, .dead, .dead, .dead, .dead, .dead, .dead, .dead, .dead, .dead, .dead, .dead, .dead, .dead, .dead, .dead, .dead, .dead, .dead, .dead, .dead, .dead, .dead, .dead, .dead, .dead, .dead, .dead, .dead, .dead, .dead, .dead, .dead]
noncomputable def draymanref18_Mark_l0_s : List (List Sh) := []
noncomputable def draymanref18_Mark_l0_h : List BSh := [.box [.int .i64, .int .i64, .sl (.int .i64 (.nil))], .box [.int .i64, .int .i64, .sl (.int .i64 (.nil))], .row true (.int .i64 (.nil))]

noncomputable def draymanref18_Mark_l0_spec {α : Type} (draymanref18_Fit : draymanref18_Fit_T α) (draymanref18_Had : draymanref18_Had_T α) : LoopSpec α := ⟨6, 66, [false, true, true, true, true], draymanref18_Mark_l0_t, draymanref18_Mark_l0_s, draymanref18_Mark_l0_h, fun ds k => draymanref18_Mark_l0_run draymanref18_Fit draymanref18_Had (fun y1 y2 y3 y4 y5 => k (.exit 1) (encSt [.dead, .int .i64, .ref 0 0, .dead, .ref 1 0, .dead, .own 2, .int .i64, .dead, .dead, .dead, .dead, .dead, .dead, .dead, .dead, .dead, .dead, .dead, .dead, .dead, .dead, .dead, .dead, .dead, .dead, .dead, .dead, .dead, .dead, .dead, .dead, .dead, .dead, .dead, .dead, .dead, .dead, .dead, .dead, .dead, .dead, .dead, .dead, .dead, .dead, .dead, .dead, .dead, .dead, .dead, .dead, .dead, .dead, .dead, .dead, .dead, .dead, .dead, .dead, .dead, .dead, .dead, .dead, .dead, .dead, .dead, .dead, .dead, .dead, .dead, .dead, .dead, .dead, .dead, .dead, .dead, .dead, .dead, .dead, .dead, .dead, .dead, .dead, .dead, .dead, .dead, .dead, .dead, .dead] [] [.box [.int .i64, .int .i64, .sl (.int .i64 (.nil))], .box [.int .i64, .int .i64, .sl (.int .i64 (.nil))], .row true (.int .i64 (.nil))] [.i y1, .i y2, .i y3.1, .i y3.2.1, .q (.int .i64 (.nil)) y3.2.2.1, .i y4.1, .i y4.2.1, .q (.int .i64 (.nil)) y4.2.2.1, .q (.int .i64 (.nil)) y5])) 1000 (hdI ds) (hdI ds.tail) (hdI ds.tail.tail, hdI ds.tail.tail.tail, hdQ (.int .i64 (.nil)) ds.tail.tail.tail.tail, ()) (hdI ds.tail.tail.tail.tail.tail, hdI ds.tail.tail.tail.tail.tail.tail, hdQ (.int .i64 (.nil)) ds.tail.tail.tail.tail.tail.tail.tail, ()) (hdQ (.int .i64 (.nil)) ds.tail.tail.tail.tail.tail.tail.tail.tail)⟩

noncomputable def draymanref18_Mark_l1_t : List Sh := [.dead, .dead, .ref 0 0, .dead, .ref 1 0, .dead, .sl (.int .i64 (.nil)), .dead, .int .i64, .dead, .dead, .dead, .dead, .dead, .dead, .dead, .dead, .dead, .dead, .dead, .dead, .dead, .dead, .dead, .dead, .dead, .dead, .dead, .dead, .dead, .dead, .dead, .dead, .dead, .dead, .dead, .dead, .dead, .dead, .dead, .dead, .dead, .dead, .dead, .dead, .dead, .dead, .dead, .dead, .dead, .dead, .dead, .dead, .dead, .dead, .dead, .dead, .dead, .dead, .dead, .dead, .dead, .dead, .dead, .dead, .dead, .dead, .dead, .dead, .dead, .dead, .dead, .dead, .dead, .dead, .dead, .dead, .dead, .dead, .dead, .dead, .dead, .dead, .dead, .dead, .dead, .dead, .dead, .dead, .dead]
noncomputable def draymanref18_Mark_l1_s : List (List Sh) := []
noncomputable def draymanref18_Mark_l1_h : List BSh := [.box [.int .i64, .int .i64, .sl (.int .i64 (.nil))], .box [.int .i64, .int .i64, .sl (.int .i64 (.nil))], .gone, .row true (.int .i64 (.nil))]

noncomputable def draymanref18_Mark_l1_spec {α : Type} (draymanref18_Fit : draymanref18_Fit_T α) (draymanref18_Had : draymanref18_Had_T α) : LoopSpec α := ⟨6, 66, [false, true, true, true, true, true, true, true, true, true, true], draymanref18_Mark_l1_t, draymanref18_Mark_l1_s, draymanref18_Mark_l1_h, fun ds k => draymanref18_Mark_l1_run draymanref18_Fit draymanref18_Had (fun y1 y2 y3 y4 y5 => k (.exit 3) (encSt [.dead, .dead, .ref 0 0, .dead, .ref 1 0, .dead, .sl (.int .i64 (.nil)), .dead, .int .i64, .dead, .dead, .dead, .dead, .dead, .dead, .dead, .dead, .dead, .dead, .dead, .dead, .dead, .dead, .dead, .dead, .dead, .dead, .dead, .dead, .dead, .dead, .dead, .dead, .dead, .dead, .dead, .dead, .dead, .dead, .dead, .dead, .dead, .dead, .dead, .dead, .dead, .dead, .dead, .dead, .dead, .dead, .dead, .dead, .dead, .dead, .dead, .dead, .dead, .dead, .dead, .dead, .dead, .dead, .dead, .dead, .dead, .dead, .dead, .dead, .dead, .dead, .dead, .dead, .dead, .dead, .dead, .dead, .dead, .dead, .dead, .dead, .dead, .dead, .dead, .dead, .dead, .dead, .dead, .dead, .dead] [] [.box [.int .i64, .int .i64, .sl (.int .i64 (.nil))], .box [.int .i64, .int .i64, .sl (.int .i64 (.nil))], .gone, .row true (.int .i64 (.nil))] [.q (.int .i64 (.nil)) y1, .i y2, .i y3.1, .i y3.2.1, .q (.int .i64 (.nil)) y3.2.2.1, .i y4.1, .i y4.2.1, .q (.int .i64 (.nil)) y4.2.2.1, .q (.int .i64 (.nil)) y5])) 1000 (hdQ (.int .i64 (.nil)) ds) (hdI ds.tail) (hdI ds.tail.tail, hdI ds.tail.tail.tail, hdQ (.int .i64 (.nil)) ds.tail.tail.tail.tail, ()) (hdI ds.tail.tail.tail.tail.tail, hdI ds.tail.tail.tail.tail.tail.tail, hdQ (.int .i64 (.nil)) ds.tail.tail.tail.tail.tail.tail.tail, ()) (hdQ (.int .i64 (.nil)) ds.tail.tail.tail.tail.tail.tail.tail.tail)⟩

noncomputable def draymanref18_Mark_loops {α : Type} (draymanref18_Fit : draymanref18_Fit_T α) (draymanref18_Had : draymanref18_Had_T α) : List (LoopSpec α) := [draymanref18_Mark_l0_spec draymanref18_Fit draymanref18_Had, draymanref18_Mark_l1_spec draymanref18_Fit draymanref18_Had]

noncomputable def draymanref18_Mark_l0_ev {α : Type} (draymanref18_Fit : draymanref18_Fit_T α) (draymanref18_Had : draymanref18_Had_T α) (n : Nat) (st : St) (k : X → St → Option α) : Option α := loopN (evCode Go.Proofs.Try.prog (callD Go.Proofs.Try.prog (envOf (draymanref18_Mark_C draymanref18_Fit draymanref18_Had) draymanref18_Mark_q draymanref18_Mark_inl 1000 draymanref18_Mark_ann false (draymanref18_Mark_loops draymanref18_Fit draymanref18_Had) (fun _ => none)) 6) (((envOf (draymanref18_Mark_C draymanref18_Fit draymanref18_Had) draymanref18_Mark_q draymanref18_Mark_inl 1000 draymanref18_Mark_ann false (draymanref18_Mark_loops draymanref18_Fit draymanref18_Had) (fun _ => none)) : Env α).L 6 66) 1000 (draymanref18_Mark_ann 66) (false :: [false, true, true, true, true]) (loopC Go.Proofs.Try.prog 66 [false, true, true, true, true])) ((draymanref18_Mark_ann 66 [false, true, true, true, true]).head 3) ((draymanref18_Mark_ann 66 [false, true, true, true, true]).leave 3) n st k

theorem draymanref18_Mark_l0_eq {α : Type} (draymanref18_Fit : draymanref18_Fit_T α) (draymanref18_Had : draymanref18_Had_T α) : ∀ (n : Nat) (x1 : Int) (x2 : Int) (x3 : Int × Int × (Seq (Int × Unit)) × Unit) (x4 : Int × Int × (Seq (Int × Unit)) × Unit) (q5 : Seq (Int × Unit)) (k : X → St → Option α), draymanref18_Mark_l0_ev draymanref18_Fit draymanref18_Had n (encSt draymanref18_Mark_l0_t draymanref18_Mark_l0_s draymanref18_Mark_l0_h [.i x1, .i x2, .i x3.1, .i x3.2.1, .q (.int .i64 (.nil)) x3.2.2.1, .i x4.1, .i x4.2.1, .q (.int .i64 (.nil)) x4.2.2.1, .q (.int .i64 (.nil)) q5]) k = draymanref18_Mark_l0_run draymanref18_Fit draymanref18_Had (fun y1 y2 y3 y4 y5 => k (.exit 1) (encSt [.dead, .int .i64, .ref 0 0, .dead, .ref 1 0, .dead, .own 2, .int .i64, .dead, .dead, .dead, .dead, .dead, .dead, .dead, .dead, .dead, .dead, .dead, .dead, .dead, .dead, .dead, .dead, .dead, .dead, .dead, .dead, .dead, .dead, .dead, .dead, .dead, .dead, .dead, .dead, .dead, .dead, .dead, .dead, .dead, .dead, .dead, .dead, .dead, .dead, .dead, .dead, .dead, .dead, .dead, .dead, .dead, .dead, .dead, .dead, .dead, .dead, .dead, .dead, .dead, .dead, .dead, .dead, .dead, .dead, .dead, .dead, .dead, .dead, .dead, .dead, .dead, .dead, .dead, .dead, .dead, .dead, .dead, .dead, .dead, .dead, .dead, .dead, .dead, .dead, .dead, .dead, .dead, .dead] [] [.box [.int .i64, .int .i64, .sl (.int .i64 (.nil))], .box [.int .i64, .int .i64, .sl (.int .i64 (.nil))], .row true (.int .i64 (.nil))] [.i y1, .i y2, .i y3.1, .i y3.2.1, .q (.int .i64 (.nil)) y3.2.2.1, .i y4.1, .i y4.2.1, .q (.int .i64 (.nil)) y4.2.2.1, .q (.int .i64 (.nil)) y5])) n x1 x2 x3 x4 q5 := by
  intro n
  induction n with
  | zero => intros; kernel_rfl
  | succ n ih =>
    intro x1 x2 x3 x4 q5 k
    have e : (fun (x1 : Int) (x2 : Int) (x3 : Int × Int × (Seq (Int × Unit)) × Unit) (x4 : Int × Int × (Seq (Int × Unit)) × Unit) (q5 : Seq (Int × Unit)) => draymanref18_Mark_l0_ev draymanref18_Fit draymanref18_Had n (encSt draymanref18_Mark_l0_t draymanref18_Mark_l0_s draymanref18_Mark_l0_h [.i x1, .i x2, .i x3.1, .i x3.2.1, .q (.int .i64 (.nil)) x3.2.2.1, .i x4.1, .i x4.2.1, .q (.int .i64 (.nil)) x4.2.2.1, .q (.int .i64 (.nil)) q5]) k) = (fun (x1 : Int) (x2 : Int) (x3 : Int × Int × (Seq (Int × Unit)) × Unit) (x4 : Int × Int × (Seq (Int × Unit)) × Unit) (q5 : Seq (Int × Unit)) => draymanref18_Mark_l0_run draymanref18_Fit draymanref18_Had (fun y1 y2 y3 y4 y5 => k (.exit 1) (encSt [.dead, .int .i64, .ref 0 0, .dead, .ref 1 0, .dead, .own 2, .int .i64, .dead, .dead, .dead, .dead, .dead, .dead, .dead, .dead, .dead, .dead, .dead, .dead, .dead, .dead, .dead, .dead, .dead, .dead, .dead, .dead, .dead, .dead, .dead, .dead, .dead, .dead, .dead, .dead, .dead, .dead, .dead, .dead, .dead, .dead, .dead, .dead, .dead, .dead, .dead, .dead, .dead, .dead, .dead, .dead, .dead, .dead, .dead, .dead, .dead, .dead, .dead, .dead, .dead, .dead, .dead, .dead, .dead, .dead, .dead, .dead, .dead, .dead, .dead, .dead, .dead, .dead, .dead, .dead, .dead, .dead, .dead, .dead, .dead, .dead, .dead, .dead, .dead, .dead, .dead, .dead, .dead, .dead] [] [.box [.int .i64, .int .i64, .sl (.int .i64 (.nil))], .box [.int .i64, .int .i64, .sl (.int .i64 (.nil))], .row true (.int .i64 (.nil))] [.i y1, .i y2, .i y3.1, .i y3.2.1, .q (.int .i64 (.nil)) y3.2.2.1, .i y4.1, .i y4.2.1, .q (.int .i64 (.nil)) y4.2.2.1, .q (.int .i64 (.nil)) y5])) n x1 x2 x3 x4 q5) := by
      funext x1 x2 x3 x4 q5
      exact ih x1 x2 x3 x4 q5 k
    have h1 : draymanref18_Mark_l0_ev draymanref18_Fit draymanref18_Had (n + 1) (encSt draymanref18_Mark_l0_t draymanref18_Mark_l0_s draymanref18_Mark_l0_h [.i x1, .i x2, .i x3.1, .i x3.2.1, .q (.int .i64 (.nil)) x3.2.2.1, .i x4.1, .i x4.2.1, .q (.int .i64 (.nil)) x4.2.2.1, .q (.int .i64 (.nil)) q5]) k = draymanref18_Mark_l0_step draymanref18_Fit draymanref18_Had (fun y1 y2 y3 y4 y5 => k (.exit 1) (encSt [.dead, .int .i64, .ref 0 0, .dead, .ref 1 0, .dead, .own 2, .int .i64, .dead, .dead, .dead, .dead, .dead, .dead, .dead, .dead, .dead, .dead, .dead, .dead, .dead, .dead, .dead, .dead, .dead, .dead, .dead, .dead, .dead, .dead, .dead, .dead, .dead, .dead, .dead, .dead, .dead, .dead, .dead, .dead, .dead, .dead, .dead, .dead, .dead, .dead, .dead, .dead, .dead, .dead, .dead, .dead, .dead, .dead, .dead, .dead, .dead, .dead, .dead, .dead, .dead, .dead, .dead, .dead, .dead, .dead, .dead, .dead, .dead, .dead, .dead, .dead, .dead, .dead, .dead, .dead, .dead, .dead, .dead, .dead, .dead, .dead, .dead, .dead, .dead, .dead, .dead, .dead, .dead, .dead] [] [.box [.int .i64, .int .i64, .sl (.int .i64 (.nil))], .box [.int .i64, .int .i64, .sl (.int .i64 (.nil))], .row true (.int .i64 (.nil))] [.i y1, .i y2, .i y3.1, .i y3.2.1, .q (.int .i64 (.nil)) y3.2.2.1, .i y4.1, .i y4.2.1, .q (.int .i64 (.nil)) y4.2.2.1, .q (.int .i64 (.nil)) y5])) (fun (x1 : Int) (x2 : Int) (x3 : Int × Int × (Seq (Int × Unit)) × Unit) (x4 : Int × Int × (Seq (Int × Unit)) × Unit) (q5 : Seq (Int × Unit)) => draymanref18_Mark_l0_ev draymanref18_Fit draymanref18_Had n (encSt draymanref18_Mark_l0_t draymanref18_Mark_l0_s draymanref18_Mark_l0_h [.i x1, .i x2, .i x3.1, .i x3.2.1, .q (.int .i64 (.nil)) x3.2.2.1, .i x4.1, .i x4.2.1, .q (.int .i64 (.nil)) x4.2.2.1, .q (.int .i64 (.nil)) q5]) k) x1 x2 x3 x4 q5 := by kernel_rfl
    have h2 := congrArg (fun r => draymanref18_Mark_l0_step draymanref18_Fit draymanref18_Had (fun y1 y2 y3 y4 y5 => k (.exit 1) (encSt [.dead, .int .i64, .ref 0 0, .dead, .ref 1 0, .dead, .own 2, .int .i64, .dead, .dead, .dead, .dead, .dead, .dead, .dead, .dead, .dead, .dead, .dead, .dead, .dead, .dead, .dead, .dead, .dead, .dead, .dead, .dead, .dead, .dead, .dead, .dead, .dead, .dead, .dead, .dead, .dead, .dead, .dead, .dead, .dead, .dead, .dead, .dead, .dead, .dead, .dead, .dead, .dead, .dead, .dead, .dead, .dead, .dead, .dead, .dead, .dead, .dead, .dead, .dead, .dead, .dead, .dead, .dead, .dead, .dead, .dead, .dead, .dead, .dead, .dead, .dead, .dead, .dead, .dead, .dead, .dead, .dead, .dead, .dead, .dead, .dead, .dead, .dead, .dead, .dead, .dead, .dead, .dead, .dead] [] [.box [.int .i64, .int .i64, .sl (.int .i64 (.nil))], .box [.int .i64, .int .i64, .sl (.int .i64 (.nil))], .row true (.int .i64 (.nil))] [.i y1, .i y2, .i y3.1, .i y3.2.1, .q (.int .i64 (.nil)) y3.2.2.1, .i y4.1, .i y4.2.1, .q (.int .i64 (.nil)) y4.2.2.1, .q (.int .i64 (.nil)) y5])) r x1 x2 x3 x4 q5) e
    have h3 : draymanref18_Mark_l0_step draymanref18_Fit draymanref18_Had (fun y1 y2 y3 y4 y5 => k (.exit 1) (encSt [.dead, .int .i64, .ref 0 0, .dead, .ref 1 0, .dead, .own 2, .int .i64, .dead, .dead, .dead, .dead, .dead, .dead, .dead, .dead, .dead, .dead, .dead, .dead, .dead, .dead, .dead, .dead, .dead, .dead, .dead, .dead, .dead, .dead, .dead, .dead, .dead, .dead, .dead, .dead, .dead, .dead, .dead, .dead, .dead, .dead, .dead, .dead, .dead, .dead, .dead, .dead, .dead, .dead, .dead, .dead, .dead, .dead, .dead, .dead, .dead, .dead, .dead, .dead, .dead, .dead, .dead, .dead, .dead, .dead, .dead, .dead, .dead, .dead, .dead, .dead, .dead, .dead, .dead, .dead, .dead, .dead, .dead, .dead, .dead, .dead, .dead, .dead, .dead, .dead, .dead, .dead, .dead, .dead] [] [.box [.int .i64, .int .i64, .sl (.int .i64 (.nil))], .box [.int .i64, .int .i64, .sl (.int .i64 (.nil))], .row true (.int .i64 (.nil))] [.i y1, .i y2, .i y3.1, .i y3.2.1, .q (.int .i64 (.nil)) y3.2.2.1, .i y4.1, .i y4.2.1, .q (.int .i64 (.nil)) y4.2.2.1, .q (.int .i64 (.nil)) y5])) (fun (x1 : Int) (x2 : Int) (x3 : Int × Int × (Seq (Int × Unit)) × Unit) (x4 : Int × Int × (Seq (Int × Unit)) × Unit) (q5 : Seq (Int × Unit)) => draymanref18_Mark_l0_run draymanref18_Fit draymanref18_Had (fun y1 y2 y3 y4 y5 => k (.exit 1) (encSt [.dead, .int .i64, .ref 0 0, .dead, .ref 1 0, .dead, .own 2, .int .i64, .dead, .dead, .dead, .dead, .dead, .dead, .dead, .dead, .dead, .dead, .dead, .dead, .dead, .dead, .dead, .dead, .dead, .dead, .dead, .dead, .dead, .dead, .dead, .dead, .dead, .dead, .dead, .dead, .dead, .dead, .dead, .dead, .dead, .dead, .dead, .dead, .dead, .dead, .dead, .dead, .dead, .dead, .dead, .dead, .dead, .dead, .dead, .dead, .dead, .dead, .dead, .dead, .dead, .dead, .dead, .dead, .dead, .dead, .dead, .dead, .dead, .dead, .dead, .dead, .dead, .dead, .dead, .dead, .dead, .dead, .dead, .dead, .dead, .dead, .dead, .dead, .dead, .dead, .dead, .dead, .dead, .dead] [] [.box [.int .i64, .int .i64, .sl (.int .i64 (.nil))], .box [.int .i64, .int .i64, .sl (.int .i64 (.nil))], .row true (.int .i64 (.nil))] [.i y1, .i y2, .i y3.1, .i y3.2.1, .q (.int .i64 (.nil)) y3.2.2.1, .i y4.1, .i y4.2.1, .q (.int .i64 (.nil)) y4.2.2.1, .q (.int .i64 (.nil)) y5])) n x1 x2 x3 x4 q5) x1 x2 x3 x4 q5 = draymanref18_Mark_l0_run draymanref18_Fit draymanref18_Had (fun y1 y2 y3 y4 y5 => k (.exit 1) (encSt [.dead, .int .i64, .ref 0 0, .dead, .ref 1 0, .dead, .own 2, .int .i64, .dead, .dead, .dead, .dead, .dead, .dead, .dead, .dead, .dead, .dead, .dead, .dead, .dead, .dead, .dead, .dead, .dead, .dead, .dead, .dead, .dead, .dead, .dead, .dead, .dead, .dead, .dead, .dead, .dead, .dead, .dead, .dead, .dead, .dead, .dead, .dead, .dead, .dead, .dead, .dead, .dead, .dead, .dead, .dead, .dead, .dead, .dead, .dead, .dead, .dead, .dead, .dead, .dead, .dead, .dead, .dead, .dead, .dead, .dead, .dead, .dead, .dead, .dead, .dead, .dead, .dead, .dead, .dead, .dead, .dead, .dead, .dead, .dead, .dead, .dead, .dead, .dead, .dead, .dead, .dead, .dead, .dead] [] [.box [.int .i64, .int .i64, .sl (.int .i64 (.nil))], .box [.int .i64, .int .i64, .sl (.int .i64 (.nil))], .row true (.int .i64 (.nil))] [.i y1, .i y2, .i y3.1, .i y3.2.1, .q (.int .i64 (.nil)) y3.2.2.1, .i y4.1, .i y4.2.1, .q (.int .i64 (.nil)) y4.2.2.1, .q (.int .i64 (.nil)) y5])) (n + 1) x1 x2 x3 x4 q5 := by kernel_rfl
    exact h1.trans (h2.trans h3)

theorem draymanref18_Mark_l0_ok {α : Type} (draymanref18_Fit : draymanref18_Fit_T α) (draymanref18_Had : draymanref18_Had_T α) : (draymanref18_Mark_l0_spec draymanref18_Fit draymanref18_Had : LoopSpec α).ok Go.Proofs.Try.prog (envOf (draymanref18_Mark_C draymanref18_Fit draymanref18_Had) draymanref18_Mark_q draymanref18_Mark_inl 1000 draymanref18_Mark_ann false (draymanref18_Mark_loops draymanref18_Fit draymanref18_Had) (fun _ => none)) := by
  intro ds k
  have h1 : draymanref18_Mark_l0_ev draymanref18_Fit draymanref18_Had 1000 (encSt draymanref18_Mark_l0_t draymanref18_Mark_l0_s draymanref18_Mark_l0_h ds) k = draymanref18_Mark_l0_ev draymanref18_Fit draymanref18_Had 1000 (encSt draymanref18_Mark_l0_t draymanref18_Mark_l0_s draymanref18_Mark_l0_h [.i (hdI ds), .i (hdI ds.tail), .i ((hdI ds.tail.tail, hdI ds.tail.tail.tail, hdQ (.int .i64 (.nil)) ds.tail.tail.tail.tail, ()).1), .i ((hdI ds.tail.tail, hdI ds.tail.tail.tail, hdQ (.int .i64 (.nil)) ds.tail.tail.tail.tail, ()).2.1), .q (.int .i64 (.nil)) ((hdI ds.tail.tail, hdI ds.tail.tail.tail, hdQ (.int .i64 (.nil)) ds.tail.tail.tail.tail, ()).2.2.1), .i ((hdI ds.tail.tail.tail.tail.tail, hdI ds.tail.tail.tail.tail.tail.tail, hdQ (.int .i64 (.nil)) ds.tail.tail.tail.tail.tail.tail.tail, ()).1), .i ((hdI ds.tail.tail.tail.tail.tail, hdI ds.tail.tail.tail.tail.tail.tail, hdQ (.int .i64 (.nil)) ds.tail.tail.tail.tail.tail.tail.tail, ()).2.1), .q (.int .i64 (.nil)) ((hdI ds.tail.tail.tail.tail.tail, hdI ds.tail.tail.tail.tail.tail.tail, hdQ (.int .i64 (.nil)) ds.tail.tail.tail.tail.tail.tail.tail, ()).2.2.1), .q (.int .i64 (.nil)) (hdQ (.int .i64 (.nil)) ds.tail.tail.tail.tail.tail.tail.tail.tail)]) k := by kernel_rfl
  have h2 := draymanref18_Mark_l0_eq draymanref18_Fit draymanref18_Had 1000 (hdI ds) (hdI ds.tail) (hdI ds.tail.tail, hdI ds.tail.tail.tail, hdQ (.int .i64 (.nil)) ds.tail.tail.tail.tail, ()) (hdI ds.tail.tail.tail.tail.tail, hdI ds.tail.tail.tail.tail.tail.tail, hdQ (.int .i64 (.nil)) ds.tail.tail.tail.tail.tail.tail.tail, ()) (hdQ (.int .i64 (.nil)) ds.tail.tail.tail.tail.tail.tail.tail.tail) k
  exact h1.trans h2

noncomputable def draymanref18_Mark_l1_ev {α : Type} (draymanref18_Fit : draymanref18_Fit_T α) (draymanref18_Had : draymanref18_Had_T α) (n : Nat) (st : St) (k : X → St → Option α) : Option α := loopN (evCode Go.Proofs.Try.prog (callD Go.Proofs.Try.prog (envOf (draymanref18_Mark_C draymanref18_Fit draymanref18_Had) draymanref18_Mark_q draymanref18_Mark_inl 1000 draymanref18_Mark_ann false (draymanref18_Mark_loops draymanref18_Fit draymanref18_Had) (fun _ => none)) 6) (((envOf (draymanref18_Mark_C draymanref18_Fit draymanref18_Had) draymanref18_Mark_q draymanref18_Mark_inl 1000 draymanref18_Mark_ann false (draymanref18_Mark_loops draymanref18_Fit draymanref18_Had) (fun _ => none)) : Env α).L 6 66) 1000 (draymanref18_Mark_ann 66) (false :: [false, true, true, true, true, true, true, true, true, true, true]) (loopC Go.Proofs.Try.prog 66 [false, true, true, true, true, true, true, true, true, true, true])) ((draymanref18_Mark_ann 66 [false, true, true, true, true, true, true, true, true, true, true]).head 4) ((draymanref18_Mark_ann 66 [false, true, true, true, true, true, true, true, true, true, true]).leave 4) n st k

theorem draymanref18_Mark_l1_eq {α : Type} (draymanref18_Fit : draymanref18_Fit_T α) (draymanref18_Had : draymanref18_Had_T α) : ∀ (n : Nat) (x1 : Seq (Int × Unit)) (x2 : Int) (x3 : Int × Int × (Seq (Int × Unit)) × Unit) (x4 : Int × Int × (Seq (Int × Unit)) × Unit) (q5 : Seq (Int × Unit)) (k : X → St → Option α), draymanref18_Mark_l1_ev draymanref18_Fit draymanref18_Had n (encSt draymanref18_Mark_l1_t draymanref18_Mark_l1_s draymanref18_Mark_l1_h [.q (.int .i64 (.nil)) x1, .i x2, .i x3.1, .i x3.2.1, .q (.int .i64 (.nil)) x3.2.2.1, .i x4.1, .i x4.2.1, .q (.int .i64 (.nil)) x4.2.2.1, .q (.int .i64 (.nil)) q5]) k = draymanref18_Mark_l1_run draymanref18_Fit draymanref18_Had (fun y1 y2 y3 y4 y5 => k (.exit 3) (encSt [.dead, .dead, .ref 0 0, .dead, .ref 1 0, .dead, .sl (.int .i64 (.nil)), .dead, .int .i64, .dead, .dead, .dead, .dead, .dead, .dead, .dead, .dead, .dead, .dead, .dead, .dead, .dead, .dead, .dead, .dead, .dead, .dead, .dead, .dead, .dead, .dead, .dead, .dead, .dead, .dead, .dead, .dead, .dead, .dead, .dead, .dead, .dead, .dead, .dead, .dead, .dead, .dead, .dead, .dead, .dead, .dead, .dead, .dead, .dead, .dead, .dead, .dead, .dead, .dead, .dead, .dead, .dead, .dead, .dead, .dead, .dead, .dead, .dead, .dead, .dead, .dead, .dead, .dead, .dead, .dead, .dead, .dead, .dead, .dead, .dead, .dead, .dead, .dead, .dead, .dead, .dead, .dead, .dead, .dead, .dead] [] [.box [.int .i64, .int .i64, .sl (.int .i64 (.nil))], .box [.int .i64, .int .i64, .sl (.int .i64 (.nil))], .gone, .row true (.int .i64 (.nil))] [.q (.int .i64 (.nil)) y1, .i y2, .i y3.1, .i y3.2.1, .q (.int .i64 (.nil)) y3.2.2.1, .i y4.1, .i y4.2.1, .q (.int .i64 (.nil)) y4.2.2.1, .q (.int .i64 (.nil)) y5])) n x1 x2 x3 x4 q5 := by
  intro n
  induction n with
  | zero => intros; kernel_rfl
  | succ n ih =>
    intro x1 x2 x3 x4 q5 k
    have e : (fun (x1 : Seq (Int × Unit)) (x2 : Int) (x3 : Int × Int × (Seq (Int × Unit)) × Unit) (x4 : Int × Int × (Seq (Int × Unit)) × Unit) (q5 : Seq (Int × Unit)) => draymanref18_Mark_l1_ev draymanref18_Fit draymanref18_Had n (encSt draymanref18_Mark_l1_t draymanref18_Mark_l1_s draymanref18_Mark_l1_h [.q (.int .i64 (.nil)) x1, .i x2, .i x3.1, .i x3.2.1, .q (.int .i64 (.nil)) x3.2.2.1, .i x4.1, .i x4.2.1, .q (.int .i64 (.nil)) x4.2.2.1, .q (.int .i64 (.nil)) q5]) k) = (fun (x1 : Seq (Int × Unit)) (x2 : Int) (x3 : Int × Int × (Seq (Int × Unit)) × Unit) (x4 : Int × Int × (Seq (Int × Unit)) × Unit) (q5 : Seq (Int × Unit)) => draymanref18_Mark_l1_run draymanref18_Fit draymanref18_Had (fun y1 y2 y3 y4 y5 => k (.exit 3) (encSt [.dead, .dead, .ref 0 0, .dead, .ref 1 0, .dead, .sl (.int .i64 (.nil)), .dead, .int .i64, .dead, .dead, .dead, .dead, .dead, .dead, .dead, .dead, .dead, .dead, .dead, .dead, .dead, .dead, .dead, .dead, .dead, .dead, .dead, .dead, .dead, .dead, .dead, .dead, .dead, .dead, .dead, .dead, .dead, .dead, .dead, .dead, .dead, .dead, .dead, .dead, .dead, .dead, .dead, .dead, .dead, .dead, .dead, .dead, .dead, .dead, .dead, .dead, .dead, .dead, .dead, .dead, .dead, .dead, .dead, .dead, .dead, .dead, .dead, .dead, .dead, .dead, .dead, .dead, .dead, .dead, .dead, .dead, .dead, .dead, .dead, .dead, .dead, .dead, .dead, .dead, .dead, .dead, .dead, .dead, .dead] [] [.box [.int .i64, .int .i64, .sl (.int .i64 (.nil))], .box [.int .i64, .int .i64, .sl (.int .i64 (.nil))], .gone, .row true (.int .i64 (.nil))] [.q (.int .i64 (.nil)) y1, .i y2, .i y3.1, .i y3.2.1, .q (.int .i64 (.nil)) y3.2.2.1, .i y4.1, .i y4.2.1, .q (.int .i64 (.nil)) y4.2.2.1, .q (.int .i64 (.nil)) y5])) n x1 x2 x3 x4 q5) := by
      funext x1 x2 x3 x4 q5
      exact ih x1 x2 x3 x4 q5 k
    have h1 : draymanref18_Mark_l1_ev draymanref18_Fit draymanref18_Had (n + 1) (encSt draymanref18_Mark_l1_t draymanref18_Mark_l1_s draymanref18_Mark_l1_h [.q (.int .i64 (.nil)) x1, .i x2, .i x3.1, .i x3.2.1, .q (.int .i64 (.nil)) x3.2.2.1, .i x4.1, .i x4.2.1, .q (.int .i64 (.nil)) x4.2.2.1, .q (.int .i64 (.nil)) q5]) k = draymanref18_Mark_l1_step draymanref18_Fit draymanref18_Had (fun y1 y2 y3 y4 y5 => k (.exit 3) (encSt [.dead, .dead, .ref 0 0, .dead, .ref 1 0, .dead, .sl (.int .i64 (.nil)), .dead, .int .i64, .dead, .dead, .dead, .dead, .dead, .dead, .dead, .dead, .dead, .dead, .dead, .dead, .dead, .dead, .dead, .dead, .dead, .dead, .dead, .dead, .dead, .dead, .dead, .dead, .dead, .dead, .dead, .dead, .dead, .dead, .dead, .dead, .dead, .dead, .dead, .dead, .dead, .dead, .dead, .dead, .dead, .dead, .dead, .dead, .dead, .dead, .dead, .dead, .dead, .dead, .dead, .dead, .dead, .dead, .dead, .dead, .dead, .dead, .dead, .dead, .dead, .dead, .dead, .dead, .dead, .dead, .dead, .dead, .dead, .dead, .dead, .dead, .dead, .dead, .dead, .dead, .dead, .dead, .dead, .dead, .dead] [] [.box [.int .i64, .int .i64, .sl (.int .i64 (.nil))], .box [.int .i64, .int .i64, .sl (.int .i64 (.nil))], .gone, .row true (.int .i64 (.nil))] [.q (.int .i64 (.nil)) y1, .i y2, .i y3.1, .i y3.2.1, .q (.int .i64 (.nil)) y3.2.2.1, .i y4.1, .i y4.2.1, .q (.int .i64 (.nil)) y4.2.2.1, .q (.int .i64 (.nil)) y5])) (fun (x1 : Seq (Int × Unit)) (x2 : Int) (x3 : Int × Int × (Seq (Int × Unit)) × Unit) (x4 : Int × Int × (Seq (Int × Unit)) × Unit) (q5 : Seq (Int × Unit)) => draymanref18_Mark_l1_ev draymanref18_Fit draymanref18_Had n (encSt draymanref18_Mark_l1_t draymanref18_Mark_l1_s draymanref18_Mark_l1_h [.q (.int .i64 (.nil)) x1, .i x2, .i x3.1, .i x3.2.1, .q (.int .i64 (.nil)) x3.2.2.1, .i x4.1, .i x4.2.1, .q (.int .i64 (.nil)) x4.2.2.1, .q (.int .i64 (.nil)) q5]) k) x1 x2 x3 x4 q5 := by kernel_rfl
    have h2 := congrArg (fun r => draymanref18_Mark_l1_step draymanref18_Fit draymanref18_Had (fun y1 y2 y3 y4 y5 => k (.exit 3) (encSt [.dead, .dead, .ref 0 0, .dead, .ref 1 0, .dead, .sl (.int .i64 (.nil)), .dead, .int .i64, .dead, .dead, .dead, .dead, .dead, .dead, .dead, .dead, .dead, .dead, .dead, .dead, .dead, .dead, .dead, .dead, .dead, .dead, .dead, .dead, .dead, .dead, .dead, .dead, .dead, .dead, .dead, .dead, .dead, .dead, .dead, .dead, .dead, .dead, .dead, .dead, .dead, .dead, .dead, .dead, .dead, .dead, .dead, .dead, .dead, .dead, .dead, .dead, .dead, .dead, .dead, .dead, .dead, .dead, .dead, .dead, .dead, .dead, .dead, .dead, .dead, .dead, .dead, .dead, .dead, .dead, .dead, .dead, .dead, .dead, .dead, .dead, .dead, .dead, .dead, .dead, .dead, .dead, .dead, .dead, .dead] [] [.box [.int .i64, .int .i64, .sl (.int .i64 (.nil))], .box [.int .i64, .int .i64, .sl (.int .i64 (.nil))], .gone, .row true (.int .i64 (.nil))] [.q (.int .i64 (.nil)) y1, .i y2, .i y3.1, .i y3.2.1, .q (.int .i64 (.nil)) y3.2.2.1, .i y4.1, .i y4.2.1, .q (.int .i64 (.nil)) y4.2.2.1, .q (.int .i64 (.nil)) y5])) r x1 x2 x3 x4 q5) e
    have h3 : draymanref18_Mark_l1_step draymanref18_Fit draymanref18_Had (fun y1 y2 y3 y4 y5 => k (.exit 3) (encSt [.dead, .dead, .ref 0 0, .dead, .ref 1 0, .dead, .sl (.int .i64 (.nil)), .dead, .int .i64, .dead, .dead, .dead, .dead, .dead, .dead, .dead, .dead, .dead, .dead, .dead, .dead, .dead, .dead, .dead, .dead, .dead, .dead, .dead, .dead, .dead, .dead, .dead, .dead, .dead, .dead, .dead, .dead, .dead, .dead, .dead, .dead, .dead, .dead, .dead, .dead, .dead, .dead, .dead, .dead, .dead, .dead, .dead, .dead, .dead, .dead, .dead, .dead, .dead, .dead, .dead, .dead, .dead, .dead, .dead, .dead, .dead, .dead, .dead, .dead, .dead, .dead, .dead, .dead, .dead, .dead, .dead, .dead, .dead, .dead, .dead, .dead, .dead, .dead, .dead, .dead, .dead, .dead, .dead, .dead, .dead] [] [.box [.int .i64, .int .i64, .sl (.int .i64 (.nil))], .box [.int .i64, .int .i64, .sl (.int .i64 (.nil))], .gone, .row true (.int .i64 (.nil))] [.q (.int .i64 (.nil)) y1, .i y2, .i y3.1, .i y3.2.1, .q (.int .i64 (.nil)) y3.2.2.1, .i y4.1, .i y4.2.1, .q (.int .i64 (.nil)) y4.2.2.1, .q (.int .i64 (.nil)) y5])) (fun (x1 : Seq (Int × Unit)) (x2 : Int) (x3 : Int × Int × (Seq (Int × Unit)) × Unit) (x4 : Int × Int × (Seq (Int × Unit)) × Unit) (q5 : Seq (Int × Unit)) => draymanref18_Mark_l1_run draymanref18_Fit draymanref18_Had (fun y1 y2 y3 y4 y5 => k (.exit 3) (encSt [.dead, .dead, .ref 0 0, .dead, .ref 1 0, .dead, .sl (.int .i64 (.nil)), .dead, .int .i64, .dead, .dead, .dead, .dead, .dead, .dead, .dead, .dead, .dead, .dead, .dead, .dead, .dead, .dead, .dead, .dead, .dead, .dead, .dead, .dead, .dead, .dead, .dead, .dead, .dead, .dead, .dead, .dead, .dead, .dead, .dead, .dead, .dead, .dead, .dead, .dead, .dead, .dead, .dead, .dead, .dead, .dead, .dead, .dead, .dead, .dead, .dead, .dead, .dead, .dead, .dead, .dead, .dead, .dead, .dead, .dead, .dead, .dead, .dead, .dead, .dead, .dead, .dead, .dead, .dead, .dead, .dead, .dead, .dead, .dead, .dead, .dead, .dead, .dead, .dead, .dead, .dead, .dead, .dead, .dead, .dead] [] [.box [.int .i64, .int .i64, .sl (.int .i64 (.nil))], .box [.int .i64, .int .i64, .sl (.int .i64 (.nil))], .gone, .row true (.int .i64 (.nil))] [.q (.int .i64 (.nil)) y1, .i y2, .i y3.1, .i y3.2.1, .q (.int .i64 (.nil)) y3.2.2.1, .i y4.1, .i y4.2.1, .q (.int .i64 (.nil)) y4.2.2.1, .q (.int .i64 (.nil)) y5])) n x1 x2 x3 x4 q5) x1 x2 x3 x4 q5 = draymanref18_Mark_l1_run draymanref18_Fit draymanref18_Had (fun y1 y2 y3 y4 y5 => k (.exit 3) (encSt [.dead, .dead, .ref 0 0, .dead, .ref 1 0, .dead, .sl (.int .i64 (.nil)), .dead, .int .i64, .dead, .dead, .dead, .dead, .dead, .dead, .dead, .dead, .dead, .dead, .dead, .dead, .dead, .dead, .dead, .dead, .dead, .dead, .dead, .dead, .dead, .dead, .dead, .dead, .dead, .dead, .dead, .dead, .dead, .dead, .dead, .dead, .dead, .dead, .dead, .dead, .dead, .dead, .dead, .dead, .dead, .dead, .dead, .dead, .dead, .dead, .dead, .dead, .dead, .dead, .dead, .dead, .dead, .dead, .dead, .dead, .dead, .dead, .dead, .dead, .dead, .dead, .dead, .dead, .dead, .dead, .dead, .dead, .dead, .dead, .dead, .dead, .dead, .dead, .dead, .dead, .dead, .dead, .dead, .dead, .dead] [] [.box [.int .i64, .int .i64, .sl (.int .i64 (.nil))], .box [.int .i64, .int .i64, .sl (.int .i64 (.nil))], .gone, .row true (.int .i64 (.nil))] [.q (.int .i64 (.nil)) y1, .i y2, .i y3.1, .i y3.2.1, .q (.int .i64 (.nil)) y3.2.2.1, .i y4.1, .i y4.2.1, .q (.int .i64 (.nil)) y4.2.2.1, .q (.int .i64 (.nil)) y5])) (n + 1) x1 x2 x3 x4 q5 := by kernel_rfl
    exact h1.trans (h2.trans h3)

theorem draymanref18_Mark_l1_ok {α : Type} (draymanref18_Fit : draymanref18_Fit_T α) (draymanref18_Had : draymanref18_Had_T α) : (draymanref18_Mark_l1_spec draymanref18_Fit draymanref18_Had : LoopSpec α).ok Go.Proofs.Try.prog (envOf (draymanref18_Mark_C draymanref18_Fit draymanref18_Had) draymanref18_Mark_q draymanref18_Mark_inl 1000 draymanref18_Mark_ann false (draymanref18_Mark_loops draymanref18_Fit draymanref18_Had) (fun _ => none)) := by
  intro ds k
  have h1 : draymanref18_Mark_l1_ev draymanref18_Fit draymanref18_Had 1000 (encSt draymanref18_Mark_l1_t draymanref18_Mark_l1_s draymanref18_Mark_l1_h ds) k = draymanref18_Mark_l1_ev draymanref18_Fit draymanref18_Had 1000 (encSt draymanref18_Mark_l1_t draymanref18_Mark_l1_s draymanref18_Mark_l1_h [.q (.int .i64 (.nil)) (hdQ (.int .i64 (.nil)) ds), .i (hdI ds.tail), .i ((hdI ds.tail.tail, hdI ds.tail.tail.tail, hdQ (.int .i64 (.nil)) ds.tail.tail.tail.tail, ()).1), .i ((hdI ds.tail.tail, hdI ds.tail.tail.tail, hdQ (.int .i64 (.nil)) ds.tail.tail.tail.tail, ()).2.1), .q (.int .i64 (.nil)) ((hdI ds.tail.tail, hdI ds.tail.tail.tail, hdQ (.int .i64 (.nil)) ds.tail.tail.tail.tail, ()).2.2.1), .i ((hdI ds.tail.tail.tail.tail.tail, hdI ds.tail.tail.tail.tail.tail.tail, hdQ (.int .i64 (.nil)) ds.tail.tail.tail.tail.tail.tail.tail, ()).1), .i ((hdI ds.tail.tail.tail.tail.tail, hdI ds.tail.tail.tail.tail.tail.tail, hdQ (.int .i64 (.nil)) ds.tail.tail.tail.tail.tail.tail.tail, ()).2.1), .q (.int .i64 (.nil)) ((hdI ds.tail.tail.tail.tail.tail, hdI ds.tail.tail.tail.tail.tail.tail, hdQ (.int .i64 (.nil)) ds.tail.tail.tail.tail.tail.tail.tail, ()).2.2.1), .q (.int .i64 (.nil)) (hdQ (.int .i64 (.nil)) ds.tail.tail.tail.tail.tail.tail.tail.tail)]) k := by kernel_rfl
  have h2 := draymanref18_Mark_l1_eq draymanref18_Fit draymanref18_Had 1000 (hdQ (.int .i64 (.nil)) ds) (hdI ds.tail) (hdI ds.tail.tail, hdI ds.tail.tail.tail, hdQ (.int .i64 (.nil)) ds.tail.tail.tail.tail, ()) (hdI ds.tail.tail.tail.tail.tail, hdI ds.tail.tail.tail.tail.tail.tail, hdQ (.int .i64 (.nil)) ds.tail.tail.tail.tail.tail.tail.tail, ()) (hdQ (.int .i64 (.nil)) ds.tail.tail.tail.tail.tail.tail.tail.tail) k
  exact h1.trans h2

theorem draymanref18_Mark_ev {α : Type} (draymanref18_Fit : draymanref18_Fit_T α) (draymanref18_Had : draymanref18_Had_T α) : EvOk (α := α) Go.Proofs.Try.prog (envOf (draymanref18_Mark_C draymanref18_Fit draymanref18_Had) draymanref18_Mark_q draymanref18_Mark_inl 1000 draymanref18_Mark_ann false (draymanref18_Mark_loops draymanref18_Fit draymanref18_Had) (fun _ => none)) 6 (draymanref18_Mark_sp (draymanref18_Mark_g draymanref18_Fit draymanref18_Had)) := by intro ds k; kernel_rfl

theorem draymanref18_Mark_ok {α : Type} : (draymanref18_Mark_spec : FunSpec α).ok Go.Proofs.Try.prog :=
  FunSpec.ok_of (sp := draymanref18_Mark_spec) (C := draymanref18_Mark_C draymanref18_Fit draymanref18_Had) (q := draymanref18_Mark_q) (inl := draymanref18_Mark_inl) (N := 1000) (ann := draymanref18_Mark_ann) (fr := false) (D := 6) (l := (draymanref18_Mark_loops draymanref18_Fit draymanref18_Had)) (hk := (fun _ => none)) (okCons draymanref18_Fit_ok (okCons draymanref18_Had_ok okNil)) (lokCons (draymanref18_Mark_l0_ok draymanref18_Fit draymanref18_Had) (lokCons (draymanref18_Mark_l1_ok draymanref18_Fit draymanref18_Had) lokNil)) noHooks (draymanref18_Mark_ev draymanref18_Fit draymanref18_Had)

end
end Go.Rv.Try

set_option linter.unusedVariables false
set_option maxRecDepth 100000
set_option maxHeartbeats 4000000
namespace Go.Rv.Try
open Go Go.Rv Go.RowKit
noncomputable section

-- drayman/draymanref01.Same

abbrev draymanref01_Same_T (α : Type) : Type := (Seq (Int × Unit)) → (Seq (Int × Unit)) → (Bool → Option α) → Option α

noncomputable def draymanref01_Same_l0_step {α : Type} (kr : (Bool) → Option α) (k0 : Option α) (rec : (Seq (Int × Unit)) → (Seq (Int × Unit)) → (Int) → Option α) (a1 : Seq (Int × Unit)) (b2 : Seq (Int × Unit)) (i3 : Int) : Option α :=
  (cond (decide (i3 < (a1.n : Int)))
    (cond (((decide ((0 : Int) ≤ i3)) && (decide (i3 < (a1.n : Int)))) && ((decide ((0 : Int) ≤ i3)) && (decide (i3 < (a1.n : Int)))))
      (cond (((decide ((0 : Int) ≤ i3)) && (decide (i3 < (b2.n : Int)))) && ((decide ((0 : Int) ≤ i3)) && (decide (i3 < (b2.n : Int)))))
        (cond ((a1.g i3.toNat).1 != (b2.g i3.toNat).1)
          (kr false)
          (rec a1 b2 (IntKind.i64.wrap (i3 + 1))))
        none)
      none)
    (k0))

noncomputable def draymanref01_Same_l0_run {α : Type} (kr : (Bool) → Option α) (k0 : Option α) : Nat → (Seq (Int × Unit)) → (Seq (Int × Unit)) → (Int) → Option α
  | 0, _, _, _ => none
  | n + 1, a1, b2, i3 => draymanref01_Same_l0_step kr k0 (fun a1 b2 i3 => draymanref01_Same_l0_run kr k0 n a1 b2 i3) a1 b2 i3

noncomputable def draymanref01_Same {α : Type} (a1 : Seq (Int × Unit)) (b2 : Seq (Int × Unit)) (k : Bool → Option α) : Option α :=
  (cond ((a1.n : Int) != (b2.n : Int))
    (k false)
    (draymanref01_Same_l0_run
      (fun x3 =>
        (k x3))
      ((k true))
      1000 a1 b2 0))

noncomputable def draymanref01_Same_sp {α : Type} (draymanref01_Same : draymanref01_Same_T α) : FunSpec α := ⟨91, [.sl (.int .i64 (.nil)), .sl (.int .i64 (.nil))], [], fun ds k => draymanref01_Same (hdQ (.int .i64 (.nil)) ds) (hdQ (.int .i64 (.nil)) ds.tail) (fun r1 => k (enc dep (.bool) [.b r1]).1 [])⟩

noncomputable def draymanref01_Same_spec {α : Type} : FunSpec α := draymanref01_Same_sp draymanref01_Same

noncomputable def draymanref01_Same_C {α : Type} : List (FunSpec α) := []

noncomputable def draymanref01_Same_q : FuncId → Bool := fun f => false

noncomputable def draymanref01_Same_inl : FuncId → Bool := fun f => false

noncomputable def draymanref01_Same_ann : FuncId → AnnT := fun f p => if f = 91 then (if p = [true, false, true, true] then ⟨[0, 1, 5], [], [], [4], 0, [], []⟩ else ⟨[], [], [], [], 0, [], []⟩) else ⟨[], [], [], [], 0, [], []⟩

noncomputable def draymanref01_Same_l0_t : List Sh := [.sl (.int .i64 (.nil)), .sl (.int .i64 (.nil)), .dead, .dead, .dead, .int .i64, .dead, .dead, .dead, .dead, .dead, .dead, .dead, .dead, .dead, .dead, .dead, .dead, .dead, .dead, .dead, .dead, .dead, .dead, .dead, .dead]
noncomputable def draymanref01_Same_l0_s : List (List Sh) := []
noncomputable def draymanref01_Same_l0_h : List BSh := []

noncomputable def draymanref01_Same_l0_spec {α : Type} : LoopSpec α := ⟨6, 91, [true, false, true, true], draymanref01_Same_l0_t, draymanref01_Same_l0_s, draymanref01_Same_l0_h, fun ds k => draymanref01_Same_l0_run (fun y1 => k .ret (encSt [.dead, .dead, .dead, .dead, .bool, .dead, .dead, .dead, .dead, .dead, .dead, .dead, .dead, .dead, .dead, .dead, .dead, .dead, .dead, .dead, .dead, .dead, .dead, .dead, .dead, .dead] [] [] [.b y1])) (k (.exit 0) (encSt [.dead, .dead, .dead, .dead, .dead, .dead, .dead, .dead, .dead, .dead, .dead, .dead, .dead, .dead, .dead, .dead, .dead, .dead, .dead, .dead, .dead, .dead, .dead, .dead, .dead, .dead] [] [] [])) 1000 (hdQ (.int .i64 (.nil)) ds) (hdQ (.int .i64 (.nil)) ds.tail) (hdI ds.tail.tail)⟩

noncomputable def draymanref01_Same_loops {α : Type} : List (LoopSpec α) := [draymanref01_Same_l0_spec]

noncomputable def draymanref01_Same_l0_ev {α : Type} (n : Nat) (st : St) (k : X → St → Option α) : Option α := loopN (evCode Go.Proofs.Try.prog (callD Go.Proofs.Try.prog (envOf (draymanref01_Same_C) draymanref01_Same_q draymanref01_Same_inl 1000 draymanref01_Same_ann false (draymanref01_Same_loops) (fun _ => none)) 6) (((envOf (draymanref01_Same_C) draymanref01_Same_q draymanref01_Same_inl 1000 draymanref01_Same_ann false (draymanref01_Same_loops) (fun _ => none)) : Env α).L 6 91) 1000 (draymanref01_Same_ann 91) (false :: [true, false, true, true]) (loopC Go.Proofs.Try.prog 91 [true, false, true, true])) ((draymanref01_Same_ann 91 [true, false, true, true]).head 0) ((draymanref01_Same_ann 91 [true, false, true, true]).leave 0) n st k

theorem draymanref01_Same_l0_eq {α : Type} : ∀ (n : Nat) (a1 : Seq (Int × Unit)) (b2 : Seq (Int × Unit)) (i3 : Int) (k : X → St → Option α), draymanref01_Same_l0_ev n (encSt draymanref01_Same_l0_t draymanref01_Same_l0_s draymanref01_Same_l0_h [.q (.int .i64 (.nil)) a1, .q (.int .i64 (.nil)) b2, .i i3]) k = draymanref01_Same_l0_run (fun y1 => k .ret (encSt [.dead, .dead, .dead, .dead, .bool, .dead, .dead, .dead, .dead, .dead, .dead, .dead, .dead, .dead, .dead, .dead, .dead, .dead, .dead, .dead, .dead, .dead, .dead, .dead, .dead, .dead] [] [] [.b y1])) (k (.exit 0) (encSt [.dead, .dead, .dead, .dead, .dead, .dead, .dead, .dead, .dead, .dead, .dead, .dead, .dead, .dead, .dead, .dead, .dead, .dead, .dead, .dead, .dead, .dead, .dead, .dead, .dead, .dead] [] [] [])) n a1 b2 i3 := by
  intro n
  induction n with
  | zero => intros; kernel_rfl
  | succ n ih =>
    intro a1 b2 i3 k
    have e : (fun (a1 : Seq (Int × Unit)) (b2 : Seq (Int × Unit)) (i3 : Int) => draymanref01_Same_l0_ev n (encSt draymanref01_Same_l0_t draymanref01_Same_l0_s draymanref01_Same_l0_h [.q (.int .i64 (.nil)) a1, .q (.int .i64 (.nil)) b2, .i i3]) k) = (fun (a1 : Seq (Int × Unit)) (b2 : Seq (Int × Unit)) (i3 : Int) => draymanref01_Same_l0_run (fun y1 => k .ret (encSt [.dead, .dead, .dead, .dead, .bool, .dead, .dead, .dead, .dead, .dead, .dead, .dead, .dead, .dead, .dead, .dead, .dead, .dead, .dead, .dead, .dead, .dead, .dead, .dead, .dead, .dead] [] [] [.b y1])) (k (.exit 0) (encSt [.dead, .dead, .dead, .dead, .dead, .dead, .dead, .dead, .dead, .dead, .dead, .dead, .dead, .dead, .dead, .dead, .dead, .dead, .dead, .dead, .dead, .dead, .dead, .dead, .dead, .dead] [] [] [])) n a1 b2 i3) := by
      funext a1 b2 i3
      exact ih a1 b2 i3 k
    have h1 : draymanref01_Same_l0_ev (n + 1) (encSt draymanref01_Same_l0_t draymanref01_Same_l0_s draymanref01_Same_l0_h [.q (.int .i64 (.nil)) a1, .q (.int .i64 (.nil)) b2, .i i3]) k = draymanref01_Same_l0_step (fun y1 => k .ret (encSt [.dead, .dead, .dead, .dead, .bool, .dead, .dead, .dead, .dead, .dead, .dead, .dead, .dead, .dead, .dead, .dead, .dead, .dead, .dead, .dead, .dead, .dead, .dead, .dead, .dead, .dead] [] [] [.b y1])) (k (.exit 0) (encSt [.dead, .dead, .dead, .dead, .dead, .dead, .dead, .dead, .dead, .dead, .dead, .dead, .dead, .dead, .dead, .dead, .dead, .dead, .dead, .dead, .dead, .dead, .dead, .dead, .dead, .dead] [] [] [])) (fun (a1 : Seq (Int × Unit)) (b2 : Seq (Int × Unit)) (i3 : Int) => draymanref01_Same_l0_ev n (encSt draymanref01_Same_l0_t draymanref01_Same_l0_s draymanref01_Same_l0_h [.q (.int .i64 (.nil)) a1, .q (.int .i64 (.nil)) b2, .i i3]) k) a1 b2 i3 := by kernel_rfl
    have h2 := congrArg (fun r => draymanref01_Same_l0_step (fun y1 => k .ret (encSt [.dead, .dead, .dead, .dead, .bool, .dead, .dead, .dead, .dead, .dead, .dead, .dead, .dead, .dead, .dead, .dead, .dead, .dead, .dead, .dead, .dead, .dead, .dead, .dead, .dead, .dead] [] [] [.b y1])) (k (.exit 0) (encSt [.dead, .dead, .dead, .dead, .dead, .dead, .dead, .dead, .dead, .dead, .dead, .dead, .dead, .dead, .dead, .dead, .dead, .dead, .dead, .dead, .dead, .dead, .dead, .dead, .dead, .dead] [] [] [])) r a1 b2 i3) e
    have h3 : draymanref01_Same_l0_step (fun y1 => k .ret (encSt [.dead, .dead, .dead, .dead, .bool, .dead, .dead, .dead, .dead, .dead, .dead, .dead, .dead, .dead, .dead, .dead, .dead, .dead, .dead, .dead, .dead, .dead, .dead, .dead, .dead, .dead] [] [] [.b y1])) (k (.exit 0) (encSt [.dead, .dead, .dead, .dead, .dead, .dead, .dead, .dead, .dead, .dead, .dead, .dead, .dead, .dead, .dead, .dead, .dead, .dead, .dead, .dead, .dead, .dead, .dead, .dead, .dead, .dead] [] [] [])) (fun (a1 : Seq (Int × Unit)) (b2 : Seq (Int × Unit)) (i3 : Int) => draymanref01_Same_l0_run (fun y1 => k .ret (encSt [.dead, .dead, .dead, .dead, .bool, .dead, .dead, .dead, .dead, .dead, .dead, .dead, .dead, .dead, .dead, .dead, .dead, .dead, .dead, .dead, .dead, .dead, .dead, .dead, .dead, .dead] [] [] [.b y1])) (k (.exit 0) (encSt [.dead, .dead, .dead, .dead, .dead, .dead, .dead, .dead, .dead, .dead, .dead, .dead, .dead, .dead, .dead, .dead, .dead, .dead, .dead, .dead, .dead, .dead, .dead, .dead, .dead, .dead] [] [] [])) n a1 b2 i3) a1 b2 i3 = draymanref01_Same_l0_run (fun y1 => k .ret (encSt [.dead, .dead, .dead, .dead, .bool, .dead, .dead, .dead, .dead, .dead, .dead, .dead, .dead, .dead, .dead, .dead, .dead, .dead, .dead, .dead, .dead, .dead, .dead, .dead, .dead, .dead] [] [] [.b y1])) (k (.exit 0) (encSt [.dead, .dead, .dead, .dead, .dead, .dead, .dead, .dead, .dead, .dead, .dead, .dead, .dead, .dead, .dead, .dead, .dead, .dead, .dead, .dead, .dead, .dead, .dead, .dead, .dead, .dead] [] [] [])) (n + 1) a1 b2 i3 := by kernel_rfl
    exact h1.trans (h2.trans h3)

theorem draymanref01_Same_l0_ok {α : Type} : (draymanref01_Same_l0_spec : LoopSpec α).ok Go.Proofs.Try.prog (envOf (draymanref01_Same_C) draymanref01_Same_q draymanref01_Same_inl 1000 draymanref01_Same_ann false (draymanref01_Same_loops) (fun _ => none)) := by
  intro ds k
  have h1 : draymanref01_Same_l0_ev 1000 (encSt draymanref01_Same_l0_t draymanref01_Same_l0_s draymanref01_Same_l0_h ds) k = draymanref01_Same_l0_ev 1000 (encSt draymanref01_Same_l0_t draymanref01_Same_l0_s draymanref01_Same_l0_h [.q (.int .i64 (.nil)) (hdQ (.int .i64 (.nil)) ds), .q (.int .i64 (.nil)) (hdQ (.int .i64 (.nil)) ds.tail), .i (hdI ds.tail.tail)]) k := by kernel_rfl
  have h2 := draymanref01_Same_l0_eq 1000 (hdQ (.int .i64 (.nil)) ds) (hdQ (.int .i64 (.nil)) ds.tail) (hdI ds.tail.tail) k
  exact h1.trans h2

theorem draymanref01_Same_ev {α : Type} : EvOk (α := α) Go.Proofs.Try.prog (envOf (draymanref01_Same_C) draymanref01_Same_q draymanref01_Same_inl 1000 draymanref01_Same_ann false (draymanref01_Same_loops) (fun _ => none)) 6 (draymanref01_Same_sp (draymanref01_Same)) := by intro ds k; kernel_rfl

theorem draymanref01_Same_ok {α : Type} : (draymanref01_Same_spec : FunSpec α).ok Go.Proofs.Try.prog :=
  FunSpec.ok_of (sp := draymanref01_Same_spec) (C := draymanref01_Same_C) (q := draymanref01_Same_q) (inl := draymanref01_Same_inl) (N := 1000) (ann := draymanref01_Same_ann) (fr := false) (D := 6) (l := (draymanref01_Same_loops)) (hk := (fun _ => none)) okNil (lokCons (draymanref01_Same_l0_ok) lokNil) noHooks (draymanref01_Same_ev)

end
end Go.Rv.Try

set_option linter.unusedVariables false
set_option maxRecDepth 100000
set_option maxHeartbeats 4000000
namespace Go.Rv.Try
open Go Go.Rv Go.RowKit
noncomputable section

-- drayman/draymanref18.Same

abbrev draymanref18_Same_T (α : Type) : Type := (Int × Int × (Seq (Int × Unit)) × Unit) → (Int × Int × (Seq (Int × Unit)) × Unit) → (Bool → Option α) → Option α

noncomputable def draymanref18_Same_g {α : Type} (draymanref01_Same : draymanref01_Same_T α) (a1 : Int × Int × (Seq (Int × Unit)) × Unit) (b2 : Int × Int × (Seq (Int × Unit)) × Unit) (k : Bool → Option α) : Option α :=
  (cond (a1.1 == b2.1)
    (cond (a1.2.1 == b2.2.1)
      (draymanref01_Same a1.2.2.1 b2.2.2.1 fun r3 =>
        (k r3))
      (k false))
    (k false))

noncomputable def draymanref18_Same {α : Type} : draymanref18_Same_T α := draymanref18_Same_g draymanref01_Same

noncomputable def draymanref18_Same_sp {α : Type} (draymanref18_Same : draymanref18_Same_T α) : FunSpec α := ⟨69, [.agg [.int .i64, .int .i64, .sl (.int .i64 (.nil))], .agg [.int .i64, .int .i64, .sl (.int .i64 (.nil))]], [], fun ds k => draymanref18_Same (hdI ds, hdI ds.tail, hdQ (.int .i64 (.nil)) ds.tail.tail, ()) (hdI ds.tail.tail.tail, hdI ds.tail.tail.tail.tail, hdQ (.int .i64 (.nil)) ds.tail.tail.tail.tail.tail, ()) (fun r1 => k (enc dep (.bool) [.b r1]).1 [])⟩

noncomputable def draymanref18_Same_spec {α : Type} : FunSpec α := draymanref18_Same_sp draymanref18_Same

noncomputable def draymanref18_Same_C {α : Type} (draymanref01_Same : draymanref01_Same_T α) : List (FunSpec α) := [draymanref01_Same_sp draymanref01_Same]

noncomputable def draymanref18_Same_q : FuncId → Bool := fun f => Nat.beq f 91

noncomputable def draymanref18_Same_inl : FuncId → Bool := fun f => false

noncomputable def draymanref18_Same_ann : FuncId → AnnT := fun f p => ⟨[], [], [], [], 0, [], []⟩

noncomputable def draymanref18_Same_loops {α : Type} (draymanref01_Same : draymanref01_Same_T α) : List (LoopSpec α) := []

theorem draymanref18_Same_ev {α : Type} (draymanref01_Same : draymanref01_Same_T α) : EvOk (α := α) Go.Proofs.Try.prog (envOf (draymanref18_Same_C draymanref01_Same) draymanref18_Same_q draymanref18_Same_inl 1000 draymanref18_Same_ann false (draymanref18_Same_loops draymanref01_Same) (fun _ => none)) 6 (draymanref18_Same_sp (draymanref18_Same_g draymanref01_Same)) := by intro ds k; kernel_rfl

theorem draymanref18_Same_ok {α : Type} : (draymanref18_Same_spec : FunSpec α).ok Go.Proofs.Try.prog :=
  FunSpec.ok_of (sp := draymanref18_Same_spec) (C := draymanref18_Same_C draymanref01_Same) (q := draymanref18_Same_q) (inl := draymanref18_Same_inl) (N := 1000) (ann := draymanref18_Same_ann) (fr := false) (D := 6) (l := (draymanref18_Same_loops draymanref01_Same)) (hk := (fun _ => none)) (okCons draymanref01_Same_ok okNil) lokNil noHooks (draymanref18_Same_ev draymanref01_Same)

end
end Go.Rv.Try

set_option linter.unusedVariables false
set_option maxRecDepth 100000
set_option maxHeartbeats 4000000
namespace Go.Rv.Try
open Go Go.Rv Go.RowKit
noncomputable section

-- slices.Equal[[]int,int]

abbrev slices_Equal_int_int_T (α : Type) : Type := (Seq (Int × Unit)) → (Seq (Int × Unit)) → (Bool → Option α) → Option α

noncomputable def slices_Equal_int_int_l0_step {α : Type} (kr : (Bool) → Option α) (k0 : Option α) (rec : (Seq (Int × Unit)) → (Seq (Int × Unit)) → (Int) → (Int) → Option α) (x1 : Seq (Int × Unit)) (x2 : Seq (Int × Unit)) (x3 : Int) (x4 : Int) : Option α :=
  (cond (decide (x4 < x3))
    (cond (((decide ((0 : Int) ≤ x4)) && (decide (x4 < (x1.n : Int)))) && ((decide ((0 : Int) ≤ x4)) && (decide (x4 < (x1.n : Int)))))
      (cond (((decide ((0 : Int) ≤ x4)) && (decide (x4 < (x2.n : Int)))) && ((decide ((0 : Int) ≤ x4)) && (decide (x4 < (x2.n : Int)))))
        (cond ((x1.g x4.toNat).1 != (x2.g x4.toNat).1)
          (kr false)
          (rec x1 x2 x3 (IntKind.i64.wrap (x4 + 1))))
        none)
      none)
    (k0))

noncomputable def slices_Equal_int_int_l0_run {α : Type} (kr : (Bool) → Option α) (k0 : Option α) : Nat → (Seq (Int × Unit)) → (Seq (Int × Unit)) → (Int) → (Int) → Option α
  | 0, _, _, _, _ => none
  | n + 1, x1, x2, x3, x4 => slices_Equal_int_int_l0_step kr k0 (fun x1 x2 x3 x4 => slices_Equal_int_int_l0_run kr k0 n x1 x2 x3 x4) x1 x2 x3 x4

noncomputable def slices_Equal_int_int {α : Type} (x1 : Seq (Int × Unit)) (x2 : Seq (Int × Unit)) (k : Bool → Option α) : Option α :=
  (cond ((x1.n : Int) != (x2.n : Int))
    (k false)
    (slices_Equal_int_int_l0_run
      (fun x3 =>
        (k x3))
      ((k true))
      1000 x1 x2 (x1.n : Int) 0))

noncomputable def slices_Equal_int_int_sp {α : Type} (slices_Equal_int_int : slices_Equal_int_int_T α) : FunSpec α := ⟨92, [.sl (.int .i64 (.nil)), .sl (.int .i64 (.nil))], [], fun ds k => slices_Equal_int_int (hdQ (.int .i64 (.nil)) ds) (hdQ (.int .i64 (.nil)) ds.tail) (fun r1 => k (enc dep (.bool) [.b r1]).1 [])⟩

noncomputable def slices_Equal_int_int_spec {α : Type} : FunSpec α := slices_Equal_int_int_sp slices_Equal_int_int

noncomputable def slices_Equal_int_int_C {α : Type} : List (FunSpec α) := []

noncomputable def slices_Equal_int_int_q : FuncId → Bool := fun f => false

noncomputable def slices_Equal_int_int_inl : FuncId → Bool := fun f => false

noncomputable def slices_Equal_int_int_ann : FuncId → AnnT := fun f p => if f = 92 then (if p = [true, false, true, true] then ⟨[0, 1, 12, 13], [], [], [4], 0, [], []⟩ else ⟨[], [], [], [], 0, [], []⟩) else ⟨[], [], [], [], 0, [], []⟩

noncomputable def slices_Equal_int_int_l0_t : List Sh := [.sl (.int .i64 (.nil)), .sl (.int .i64 (.nil)), .dead, .dead, .dead, .dead, .dead, .dead, .dead, .dead, .dead, .dead, .int .i64, .int .i64, .dead, .dead, .dead, .dead, .dead, .dead, .dead, .dead, .dead, .dead, .dead, .dead]
noncomputable def slices_Equal_int_int_l0_s : List (List Sh) := []
noncomputable def slices_Equal_int_int_l0_h : List BSh := []

noncomputable def slices_Equal_int_int_l0_spec {α : Type} : LoopSpec α := ⟨6, 92, [true, false, true, true], slices_Equal_int_int_l0_t, slices_Equal_int_int_l0_s, slices_Equal_int_int_l0_h, fun ds k => slices_Equal_int_int_l0_run (fun y1 => k .ret (encSt [.dead, .dead, .dead, .dead, .bool, .dead, .dead, .dead, .dead, .dead, .dead, .dead, .dead, .dead, .dead, .dead, .dead, .dead, .dead, .dead, .dead, .dead, .dead, .dead, .dead, .dead] [] [] [.b y1])) (k (.exit 0) (encSt [.dead, .dead, .dead, .dead, .dead, .dead, .dead, .dead, .dead, .dead, .dead, .dead, .dead, .dead, .dead, .dead, .dead, .dead, .dead, .dead, .dead, .dead, .dead, .dead, .dead, .dead] [] [] [])) 1000 (hdQ (.int .i64 (.nil)) ds) (hdQ (.int .i64 (.nil)) ds.tail) (hdI ds.tail.tail) (hdI ds.tail.tail.tail)⟩

noncomputable def slices_Equal_int_int_loops {α : Type} : List (LoopSpec α) := [slices_Equal_int_int_l0_spec]

noncomputable def slices_Equal_int_int_l0_ev {α : Type} (n : Nat) (st : St) (k : X → St → Option α) : Option α := loopN (evCode Go.Proofs.Try.prog (callD Go.Proofs.Try.prog (envOf (slices_Equal_int_int_C) slices_Equal_int_int_q slices_Equal_int_int_inl 1000 slices_Equal_int_int_ann false (slices_Equal_int_int_loops) (fun _ => none)) 6) (((envOf (slices_Equal_int_int_C) slices_Equal_int_int_q slices_Equal_int_int_inl 1000 slices_Equal_int_int_ann false (slices_Equal_int_int_loops) (fun _ => none)) : Env α).L 6 92) 1000 (slices_Equal_int_int_ann 92) (false :: [true, false, true, true]) (loopC Go.Proofs.Try.prog 92 [true, false, true, true])) ((slices_Equal_int_int_ann 92 [true, false, true, true]).head 0) ((slices_Equal_int_int_ann 92 [true, false, true, true]).leave 0) n st k

theorem slices_Equal_int_int_l0_eq {α : Type} : ∀ (n : Nat) (x1 : Seq (Int × Unit)) (x2 : Seq (Int × Unit)) (x3 : Int) (x4 : Int) (k : X → St → Option α), slices_Equal_int_int_l0_ev n (encSt slices_Equal_int_int_l0_t slices_Equal_int_int_l0_s slices_Equal_int_int_l0_h [.q (.int .i64 (.nil)) x1, .q (.int .i64 (.nil)) x2, .i x3, .i x4]) k = slices_Equal_int_int_l0_run (fun y1 => k .ret (encSt [.dead, .dead, .dead, .dead, .bool, .dead, .dead, .dead, .dead, .dead, .dead, .dead, .dead, .dead, .dead, .dead, .dead, .dead, .dead, .dead, .dead, .dead, .dead, .dead, .dead, .dead] [] [] [.b y1])) (k (.exit 0) (encSt [.dead, .dead, .dead, .dead, .dead, .dead, .dead, .dead, .dead, .dead, .dead, .dead, .dead, .dead, .dead, .dead, .dead, .dead, .dead, .dead, .dead, .dead, .dead, .dead, .dead, .dead] [] [] [])) n x1 x2 x3 x4 := by
  intro n
  induction n with
  | zero => intros; kernel_rfl
  | succ n ih =>
    intro x1 x2 x3 x4 k
    have e : (fun (x1 : Seq (Int × Unit)) (x2 : Seq (Int × Unit)) (x3 : Int) (x4 : Int) => slices_Equal_int_int_l0_ev n (encSt slices_Equal_int_int_l0_t slices_Equal_int_int_l0_s slices_Equal_int_int_l0_h [.q (.int .i64 (.nil)) x1, .q (.int .i64 (.nil)) x2, .i x3, .i x4]) k) = (fun (x1 : Seq (Int × Unit)) (x2 : Seq (Int × Unit)) (x3 : Int) (x4 : Int) => slices_Equal_int_int_l0_run (fun y1 => k .ret (encSt [.dead, .dead, .dead, .dead, .bool, .dead, .dead, .dead, .dead, .dead, .dead, .dead, .dead, .dead, .dead, .dead, .dead, .dead, .dead, .dead, .dead, .dead, .dead, .dead, .dead, .dead] [] [] [.b y1])) (k (.exit 0) (encSt [.dead, .dead, .dead, .dead, .dead, .dead, .dead, .dead, .dead, .dead, .dead, .dead, .dead, .dead, .dead, .dead, .dead, .dead, .dead, .dead, .dead, .dead, .dead, .dead, .dead, .dead] [] [] [])) n x1 x2 x3 x4) := by
      funext x1 x2 x3 x4
      exact ih x1 x2 x3 x4 k
    have h1 : slices_Equal_int_int_l0_ev (n + 1) (encSt slices_Equal_int_int_l0_t slices_Equal_int_int_l0_s slices_Equal_int_int_l0_h [.q (.int .i64 (.nil)) x1, .q (.int .i64 (.nil)) x2, .i x3, .i x4]) k = slices_Equal_int_int_l0_step (fun y1 => k .ret (encSt [.dead, .dead, .dead, .dead, .bool, .dead, .dead, .dead, .dead, .dead, .dead, .dead, .dead, .dead, .dead, .dead, .dead, .dead, .dead, .dead, .dead, .dead, .dead, .dead, .dead, .dead] [] [] [.b y1])) (k (.exit 0) (encSt [.dead, .dead, .dead, .dead, .dead, .dead, .dead, .dead, .dead, .dead, .dead, .dead, .dead, .dead, .dead, .dead, .dead, .dead, .dead, .dead, .dead, .dead, .dead, .dead, .dead, .dead] [] [] [])) (fun (x1 : Seq (Int × Unit)) (x2 : Seq (Int × Unit)) (x3 : Int) (x4 : Int) => slices_Equal_int_int_l0_ev n (encSt slices_Equal_int_int_l0_t slices_Equal_int_int_l0_s slices_Equal_int_int_l0_h [.q (.int .i64 (.nil)) x1, .q (.int .i64 (.nil)) x2, .i x3, .i x4]) k) x1 x2 x3 x4 := by kernel_rfl
    have h2 := congrArg (fun r => slices_Equal_int_int_l0_step (fun y1 => k .ret (encSt [.dead, .dead, .dead, .dead, .bool, .dead, .dead, .dead, .dead, .dead, .dead, .dead, .dead, .dead, .dead, .dead, .dead, .dead, .dead, .dead, .dead, .dead, .dead, .dead, .dead, .dead] [] [] [.b y1])) (k (.exit 0) (encSt [.dead, .dead, .dead, .dead, .dead, .dead, .dead, .dead, .dead, .dead, .dead, .dead, .dead, .dead, .dead, .dead, .dead, .dead, .dead, .dead, .dead, .dead, .dead, .dead, .dead, .dead] [] [] [])) r x1 x2 x3 x4) e
    have h3 : slices_Equal_int_int_l0_step (fun y1 => k .ret (encSt [.dead, .dead, .dead, .dead, .bool, .dead, .dead, .dead, .dead, .dead, .dead, .dead, .dead, .dead, .dead, .dead, .dead, .dead, .dead, .dead, .dead, .dead, .dead, .dead, .dead, .dead] [] [] [.b y1])) (k (.exit 0) (encSt [.dead, .dead, .dead, .dead, .dead, .dead, .dead, .dead, .dead, .dead, .dead, .dead, .dead, .dead, .dead, .dead, .dead, .dead, .dead, .dead, .dead, .dead, .dead, .dead, .dead, .dead] [] [] [])) (fun (x1 : Seq (Int × Unit)) (x2 : Seq (Int × Unit)) (x3 : Int) (x4 : Int) => slices_Equal_int_int_l0_run (fun y1 => k .ret (encSt [.dead, .dead, .dead, .dead, .bool, .dead, .dead, .dead, .dead, .dead, .dead, .dead, .dead, .dead, .dead, .dead, .dead, .dead, .dead, .dead, .dead, .dead, .dead, .dead, .dead, .dead] [] [] [.b y1])) (k (.exit 0) (encSt [.dead, .dead, .dead, .dead, .dead, .dead, .dead, .dead, .dead, .dead, .dead, .dead, .dead, .dead, .dead, .dead, .dead, .dead, .dead, .dead, .dead, .dead, .dead, .dead, .dead, .dead] [] [] [])) n x1 x2 x3 x4) x1 x2 x3 x4 = slices_Equal_int_int_l0_run (fun y1 => k .ret (encSt [.dead, .dead, .dead, .dead, .bool, .dead, .dead, .dead, .dead, .dead, .dead, .dead, .dead, .dead, .dead, .dead, .dead, .dead, .dead, .dead, .dead, .dead, .dead, .dead, .dead, .dead] [] [] [.b y1])) (k (.exit 0) (encSt [.dead, .dead, .dead, .dead, .dead, .dead, .dead, .dead, .dead, .dead, .dead, .dead, .dead, .dead, .dead, .dead, .dead, .dead, .dead, .dead, .dead, .dead, .dead, .dead, .dead, .dead] [] [] [])) (n + 1) x1 x2 x3 x4 := by kernel_rfl
    exact h1.trans (h2.trans h3)

theorem slices_Equal_int_int_l0_ok {α : Type} : (slices_Equal_int_int_l0_spec : LoopSpec α).ok Go.Proofs.Try.prog (envOf (slices_Equal_int_int_C) slices_Equal_int_int_q slices_Equal_int_int_inl 1000 slices_Equal_int_int_ann false (slices_Equal_int_int_loops) (fun _ => none)) := by
  intro ds k
  have h1 : slices_Equal_int_int_l0_ev 1000 (encSt slices_Equal_int_int_l0_t slices_Equal_int_int_l0_s slices_Equal_int_int_l0_h ds) k = slices_Equal_int_int_l0_ev 1000 (encSt slices_Equal_int_int_l0_t slices_Equal_int_int_l0_s slices_Equal_int_int_l0_h [.q (.int .i64 (.nil)) (hdQ (.int .i64 (.nil)) ds), .q (.int .i64 (.nil)) (hdQ (.int .i64 (.nil)) ds.tail), .i (hdI ds.tail.tail), .i (hdI ds.tail.tail.tail)]) k := by kernel_rfl
  have h2 := slices_Equal_int_int_l0_eq 1000 (hdQ (.int .i64 (.nil)) ds) (hdQ (.int .i64 (.nil)) ds.tail) (hdI ds.tail.tail) (hdI ds.tail.tail.tail) k
  exact h1.trans h2

theorem slices_Equal_int_int_ev {α : Type} : EvOk (α := α) Go.Proofs.Try.prog (envOf (slices_Equal_int_int_C) slices_Equal_int_int_q slices_Equal_int_int_inl 1000 slices_Equal_int_int_ann false (slices_Equal_int_int_loops) (fun _ => none)) 6 (slices_Equal_int_int_sp (slices_Equal_int_int)) := by intro ds k; kernel_rfl

theorem slices_Equal_int_int_ok {α : Type} : (slices_Equal_int_int_spec : FunSpec α).ok Go.Proofs.Try.prog :=
  FunSpec.ok_of (sp := slices_Equal_int_int_spec) (C := slices_Equal_int_int_C) (q := slices_Equal_int_int_q) (inl := slices_Equal_int_int_inl) (N := 1000) (ann := slices_Equal_int_int_ann) (fr := false) (D := 6) (l := (slices_Equal_int_int_loops)) (hk := (fun _ => none)) okNil (lokCons (slices_Equal_int_int_l0_ok) lokNil) noHooks (slices_Equal_int_int_ev)

end
end Go.Rv.Try

set_option linter.unusedVariables false
set_option maxRecDepth 100000
set_option maxHeartbeats 4000000
namespace Go.Rv.Try
open Go Go.Rv Go.RowKit
noncomputable section

-- drayman/inbox.Same

abbrev inbox_Same_T (α : Type) : Type := (Int × Int × (Seq (Int × Unit)) × Unit) → (Int × Int × (Seq (Int × Unit)) × Unit) → (Bool → Option α) → Option α

noncomputable def inbox_Same_g {α : Type} (slices_Equal_int_int : slices_Equal_int_int_T α) (a1 : Int × Int × (Seq (Int × Unit)) × Unit) (b2 : Int × Int × (Seq (Int × Unit)) × Unit) (k : Bool → Option α) : Option α :=
  (cond (a1.1 == b2.1)
    (cond (a1.2.1 == b2.2.1)
      (slices_Equal_int_int a1.2.2.1 b2.2.2.1 fun r3 =>
        (k r3))
      (k false))
    (k false))

noncomputable def inbox_Same {α : Type} : inbox_Same_T α := inbox_Same_g slices_Equal_int_int

noncomputable def inbox_Same_sp {α : Type} (inbox_Same : inbox_Same_T α) : FunSpec α := ⟨70, [.agg [.int .i64, .int .i64, .sl (.int .i64 (.nil))], .agg [.int .i64, .int .i64, .sl (.int .i64 (.nil))]], [], fun ds k => inbox_Same (hdI ds, hdI ds.tail, hdQ (.int .i64 (.nil)) ds.tail.tail, ()) (hdI ds.tail.tail.tail, hdI ds.tail.tail.tail.tail, hdQ (.int .i64 (.nil)) ds.tail.tail.tail.tail.tail, ()) (fun r1 => k (enc dep (.bool) [.b r1]).1 [])⟩

noncomputable def inbox_Same_spec {α : Type} : FunSpec α := inbox_Same_sp inbox_Same

noncomputable def inbox_Same_C {α : Type} (slices_Equal_int_int : slices_Equal_int_int_T α) : List (FunSpec α) := [slices_Equal_int_int_sp slices_Equal_int_int]

noncomputable def inbox_Same_q : FuncId → Bool := fun f => Nat.beq f 92

noncomputable def inbox_Same_inl : FuncId → Bool := fun f => false

noncomputable def inbox_Same_ann : FuncId → AnnT := fun f p => ⟨[], [], [], [], 0, [], []⟩

noncomputable def inbox_Same_loops {α : Type} (slices_Equal_int_int : slices_Equal_int_int_T α) : List (LoopSpec α) := []

theorem inbox_Same_ev {α : Type} (slices_Equal_int_int : slices_Equal_int_int_T α) : EvOk (α := α) Go.Proofs.Try.prog (envOf (inbox_Same_C slices_Equal_int_int) inbox_Same_q inbox_Same_inl 1000 inbox_Same_ann false (inbox_Same_loops slices_Equal_int_int) (fun _ => none)) 6 (inbox_Same_sp (inbox_Same_g slices_Equal_int_int)) := by intro ds k; kernel_rfl

theorem inbox_Same_ok {α : Type} : (inbox_Same_spec : FunSpec α).ok Go.Proofs.Try.prog :=
  FunSpec.ok_of (sp := inbox_Same_spec) (C := inbox_Same_C slices_Equal_int_int) (q := inbox_Same_q) (inl := inbox_Same_inl) (N := 1000) (ann := inbox_Same_ann) (fr := false) (D := 6) (l := (inbox_Same_loops slices_Equal_int_int)) (hk := (fun _ => none)) (okCons slices_Equal_int_int_ok okNil) lokNil noHooks (inbox_Same_ev slices_Equal_int_int)

end
end Go.Rv.Try

set_option linter.unusedVariables false
set_option maxRecDepth 100000
set_option maxHeartbeats 4000000
namespace Go.Rv.Try
open Go Go.Rv Go.RowKit
noncomputable section

-- drayman/draymanlaw18.InboxTells

abbrev draymanlaw18_InboxTells_T (α : Type) : Type := (Int × Int × (Seq (Int × Unit)) × Unit) → (Int × Int × (Seq (Int × Unit)) × Unit) → Int → (Bool → Option α) → Option α

noncomputable def draymanlaw18_InboxTells_g {α : Type} (draymanlaw18_awake : draymanlaw18_awake_T α) (inbox_Mark : inbox_Mark_T α) (draymanref18_Mark : draymanref18_Mark_T α) (inbox_Fit : inbox_Fit_T α) (draymanref18_Fit : draymanref18_Fit_T α) (inbox_Had : inbox_Had_T α) (draymanref18_Had : draymanref18_Had_T α) (draymanref18_Same : draymanref18_Same_T α) (inbox_Same : inbox_Same_T α) (inbox_New : inbox_New_T α) (x1 : Int × Int × (Seq (Int × Unit)) × Unit) (x2 : Int × Int × (Seq (Int × Unit)) × Unit) (x3 : Int) (k : Bool → Option α) : Option α :=
  (cond (!(decide ((x1.2.2.1.n : Int) > 20)))
    (cond (decide ((x2.2.2.1.n : Int) > 20))
      (draymanlaw18_awake fun r4 =>
        (k r4))
      (inbox_Mark x1 x3 fun r5 r6 =>
        (draymanref18_Mark x1 x3 fun r7 r8 =>
          (inbox_Fit x1 fun r9 =>
            (draymanref18_Fit x1 fun r10 =>
              (cond (r9 == r10)
                (inbox_Had x1 x3 fun r11 =>
                  (draymanref18_Had x1 x3 fun r12 =>
                    (cond (r11 == r12)
                      (draymanref18_Same r5 r7 fun r13 =>
                        (cond r13
                          (cond (r6 == r8)
                            (inbox_Same x1 x2 fun r14 =>
                              (draymanref18_Same x1 x2 fun r15 =>
                                (cond (r14 == r15)
                                  (inbox_New x3 fun r16 =>
                                    (draymanref18_Same r16 (x3, 0, (⟨true, 0, (fun _ => (0, ()))⟩ : Seq (Int × Unit)), ()) fun r17 =>
                                      (cond r17
                                        (draymanlaw18_awake fun r18 =>
                                          (k r18))
                                        (k false))))
                                  (k false))))
                            (k false))
                          (k false)))
                      (k false))))
                (k false)))))))
    (draymanlaw18_awake fun r19 =>
      (k r19)))

noncomputable def draymanlaw18_InboxTells {α : Type} : draymanlaw18_InboxTells_T α := draymanlaw18_InboxTells_g draymanlaw18_awake inbox_Mark draymanref18_Mark inbox_Fit draymanref18_Fit inbox_Had draymanref18_Had draymanref18_Same inbox_Same inbox_New

noncomputable def draymanlaw18_InboxTells_sp {α : Type} (draymanlaw18_InboxTells : draymanlaw18_InboxTells_T α) : FunSpec α := ⟨14, [.agg [.int .i64, .int .i64, .sl (.int .i64 (.nil))], .agg [.int .i64, .int .i64, .sl (.int .i64 (.nil))], .int .i64], [], fun ds k => draymanlaw18_InboxTells (hdI ds, hdI ds.tail, hdQ (.int .i64 (.nil)) ds.tail.tail, ()) (hdI ds.tail.tail.tail, hdI ds.tail.tail.tail.tail, hdQ (.int .i64 (.nil)) ds.tail.tail.tail.tail.tail, ()) (hdI ds.tail.tail.tail.tail.tail.tail) (fun r1 => k (enc dep (.bool) [.b r1]).1 [])⟩

noncomputable def draymanlaw18_InboxTells_spec {α : Type} : FunSpec α := draymanlaw18_InboxTells_sp draymanlaw18_InboxTells

noncomputable def draymanlaw18_InboxTells_C {α : Type} (draymanlaw18_awake : draymanlaw18_awake_T α) (inbox_Mark : inbox_Mark_T α) (draymanref18_Mark : draymanref18_Mark_T α) (inbox_Fit : inbox_Fit_T α) (draymanref18_Fit : draymanref18_Fit_T α) (inbox_Had : inbox_Had_T α) (draymanref18_Had : draymanref18_Had_T α) (draymanref18_Same : draymanref18_Same_T α) (inbox_Same : inbox_Same_T α) (inbox_New : inbox_New_T α) : List (FunSpec α) := [draymanlaw18_awake_sp draymanlaw18_awake, inbox_Mark_sp inbox_Mark, draymanref18_Mark_sp draymanref18_Mark, inbox_Fit_sp inbox_Fit, draymanref18_Fit_sp draymanref18_Fit, inbox_Had_sp inbox_Had, draymanref18_Had_sp draymanref18_Had, draymanref18_Same_sp draymanref18_Same, inbox_Same_sp inbox_Same, inbox_New_sp inbox_New]

noncomputable def draymanlaw18_InboxTells_q : FuncId → Bool := fun f => Nat.beq f 61 || Nat.beq f 63 || Nat.beq f 65 || Nat.beq f 67 || Nat.beq f 68 || Nat.beq f 69 || Nat.beq f 70

noncomputable def draymanlaw18_InboxTells_inl : FuncId → Bool := fun f => false

noncomputable def draymanlaw18_InboxTells_ann : FuncId → AnnT := fun f p => if f = 14 then (if p = [false, true, true, true, true] then ⟨[], [], [], [], 2, [], []⟩ else ⟨[], [], [], [], 0, [], []⟩) else ⟨[], [], [], [], 0, [], []⟩

noncomputable def draymanlaw18_InboxTells_loops {α : Type} (draymanlaw18_awake : draymanlaw18_awake_T α) (inbox_Mark : inbox_Mark_T α) (draymanref18_Mark : draymanref18_Mark_T α) (inbox_Fit : inbox_Fit_T α) (draymanref18_Fit : draymanref18_Fit_T α) (inbox_Had : inbox_Had_T α) (draymanref18_Had : draymanref18_Had_T α) (draymanref18_Same : draymanref18_Same_T α) (inbox_Same : inbox_Same_T α) (inbox_New : inbox_New_T α) : List (LoopSpec α) := []

theorem draymanlaw18_InboxTells_ev {α : Type} (draymanlaw18_awake : draymanlaw18_awake_T α) (inbox_Mark : inbox_Mark_T α) (draymanref18_Mark : draymanref18_Mark_T α) (inbox_Fit : inbox_Fit_T α) (draymanref18_Fit : draymanref18_Fit_T α) (inbox_Had : inbox_Had_T α) (draymanref18_Had : draymanref18_Had_T α) (draymanref18_Same : draymanref18_Same_T α) (inbox_Same : inbox_Same_T α) (inbox_New : inbox_New_T α) : EvOk (α := α) Go.Proofs.Try.prog (envOf (draymanlaw18_InboxTells_C draymanlaw18_awake inbox_Mark draymanref18_Mark inbox_Fit draymanref18_Fit inbox_Had draymanref18_Had draymanref18_Same inbox_Same inbox_New) draymanlaw18_InboxTells_q draymanlaw18_InboxTells_inl 1000 draymanlaw18_InboxTells_ann false (draymanlaw18_InboxTells_loops draymanlaw18_awake inbox_Mark draymanref18_Mark inbox_Fit draymanref18_Fit inbox_Had draymanref18_Had draymanref18_Same inbox_Same inbox_New) (fun _ => none)) 6 (draymanlaw18_InboxTells_sp (draymanlaw18_InboxTells_g draymanlaw18_awake inbox_Mark draymanref18_Mark inbox_Fit draymanref18_Fit inbox_Had draymanref18_Had draymanref18_Same inbox_Same inbox_New)) := by intro ds k; kernel_rfl

theorem draymanlaw18_InboxTells_ok {α : Type} : (draymanlaw18_InboxTells_spec : FunSpec α).ok Go.Proofs.Try.prog :=
  FunSpec.ok_of (sp := draymanlaw18_InboxTells_spec) (C := draymanlaw18_InboxTells_C draymanlaw18_awake inbox_Mark draymanref18_Mark inbox_Fit draymanref18_Fit inbox_Had draymanref18_Had draymanref18_Same inbox_Same inbox_New) (q := draymanlaw18_InboxTells_q) (inl := draymanlaw18_InboxTells_inl) (N := 1000) (ann := draymanlaw18_InboxTells_ann) (fr := false) (D := 6) (l := (draymanlaw18_InboxTells_loops draymanlaw18_awake inbox_Mark draymanref18_Mark inbox_Fit draymanref18_Fit inbox_Had draymanref18_Had draymanref18_Same inbox_Same inbox_New)) (hk := (fun _ => none)) (okCons draymanlaw18_awake_ok (okCons inbox_Mark_ok (okCons draymanref18_Mark_ok (okCons inbox_Fit_ok (okCons draymanref18_Fit_ok (okCons inbox_Had_ok (okCons draymanref18_Had_ok (okCons draymanref18_Same_ok (okCons inbox_Same_ok (okCons inbox_New_ok okNil)))))))))) lokNil noHooks (draymanlaw18_InboxTells_ev draymanlaw18_awake inbox_Mark draymanref18_Mark inbox_Fit draymanref18_Fit inbox_Had draymanref18_Had draymanref18_Same inbox_Same inbox_New)

end
end Go.Rv.Try
