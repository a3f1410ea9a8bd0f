/- What the functions of the program compute, each with the proof that its code computes it. Written by a program (rvp2.py). -/
import Derived.Test.YtmoeohjaafpmgaaDoorProg
import Derived.Test.YtmoeohjaafpmgaaDoorRvP
import Derived.Test.YtmoeohjaafpmgaaDoorFx
import Derived.Test.YtmoeohjaafpmgaaDoorUtf8
import Derived.Test.YtmoeohjaafpmgaaDoorE2

set_option linter.unusedVariables false
set_option maxRecDepth 100000
set_option maxHeartbeats 4000000
namespace Go.Rv.Tryd
open Go Go.Rv Go.RowKit
noncomputable section

-- drayman/num.all

abbrev num_all_T (α : Type) : Type := (Seq (Int × Unit)) → (Bool → Option α) → Option α

noncomputable def num_all_l0_step {α : Type} (num_Fit : num_Fit_T α) (kr : (Bool) → Option α) (k0 : Option α) (rec : (Seq (Int × Unit)) → (Int) → (Int) → Option α) (x2 : Seq (Int × Unit)) (x3 : Int) (x4 : Int) : Option α :=
  (cond (decide (x4 < x3))
    (cond ((decide ((0 : Int) ≤ x4)) && (decide (x4 < (x2.n : Int))))
      (num_Fit ((x2.g x4.toNat).1) fun r5 =>
        (cond (!r5)
          (kr false)
          (rec x2 x3 (IntKind.i64.wrap (x4 + 1)))))
      none)
    (k0))

noncomputable def num_all_l0_run {α : Type} (num_Fit : num_Fit_T α) (kr : (Bool) → Option α) (k0 : Option α) : Nat → (Seq (Int × Unit)) → (Int) → (Int) → Option α
  | 0, _, _, _ => none
  | n + 1, x2, x3, x4 => num_all_l0_step num_Fit kr k0 (fun x2 x3 x4 => num_all_l0_run num_Fit kr k0 n x2 x3 x4) x2 x3 x4

noncomputable def num_all_g {α : Type} (num_Fit : num_Fit_T α) (l1 : Seq (Int × Unit)) (k : Bool → Option α) : Option α :=
  (num_all_l0_run num_Fit
    (fun x6 =>
      (k x6))
    ((k true))
    1000 l1 (l1.n : Int) 0)

noncomputable def num_all {α : Type} : num_all_T α := num_all_g num_Fit

noncomputable def num_all_sp {α : Type} (num_all : num_all_T α) : FunSpec α := ⟨99, [.sl (.int .i64 (.nil))], [], fun ds k => num_all (hdQ (.int .i64 (.nil)) ds) (fun r1 => k (enc dep (.bool) [.b r1]).1 [])⟩

noncomputable def num_all_spec {α : Type} : FunSpec α := num_all_sp num_all

noncomputable def num_all_C {α : Type} (num_Fit : num_Fit_T α) : List (FunSpec α) := [num_Fit_sp num_Fit]

noncomputable def num_all_q : FuncId → Bool := fun f => Nat.beq f 74

noncomputable def num_all_inl : FuncId → Bool := fun f => false

noncomputable def num_all_ann : FuncId → AnnT := fun f p => if f = 99 then (if p = [true, false, true] then ⟨[5, 6, 7], [], [], [2], 0, [], [], none⟩ else ⟨[], [], [], [], 0, [], [], none⟩) else ⟨[], [], [], [], 0, [], [], none⟩

noncomputable def num_all_l0_t : List Sh := [.dead, .dead, .dead, .dead, .dead, .sl (.int .i64 (.nil)), .int .i64, .int .i64, .dead, .dead, .dead, .dead, .dead, .dead, .dead]
noncomputable def num_all_l0_s : List (List Sh) := []
noncomputable def num_all_l0_h : List BSh := []

noncomputable def num_all_l0_spec {α : Type} (num_Fit : num_Fit_T α) : LoopSpec α := ⟨6, 99, [true, false, true], num_all_l0_t, num_all_l0_s, num_all_l0_h, fun ds k => num_all_l0_run num_Fit (fun y1 => k .ret (encSt [.dead, .dead, .bool, .dead, .dead, .dead, .dead, .dead, .dead, .dead, .dead, .dead, .dead, .dead, .dead] [] [] [.b y1])) (k (.exit 0) (encSt [.dead, .dead, .dead, .dead, .dead, .dead, .dead, .dead, .dead, .dead, .dead, .dead, .dead, .dead, .dead] [] [] [])) 1000 (hdQ (.int .i64 (.nil)) ds) (hdI ds.tail) (hdI ds.tail.tail)⟩

noncomputable def num_all_loops {α : Type} (num_Fit : num_Fit_T α) : List (LoopSpec α) := [num_all_l0_spec num_Fit]

noncomputable def num_all_l0_ev {α : Type} (num_Fit : num_Fit_T α) (n : Nat) (st : St) (k : X → St → Option α) : Option α := loopN (evCode Go.Proofs.Tryd.prog (callD Go.Proofs.Tryd.prog (envOf (num_all_C num_Fit) num_all_q num_all_inl 1000 num_all_ann false (num_all_loops num_Fit) (fun _ => none)) 6) (((envOf (num_all_C num_Fit) num_all_q num_all_inl 1000 num_all_ann false (num_all_loops num_Fit) (fun _ => none)) : Env α).L 6 99) 1000 (num_all_ann 99) (false :: [true, false, true]) (loopC Go.Proofs.Tryd.prog 99 [true, false, true])) ((num_all_ann 99 [true, false, true]).head 0) ((num_all_ann 99 [true, false, true]).leave 0) n st k

theorem num_all_l0_eq {α : Type} (num_Fit : num_Fit_T α) : ∀ (n : Nat) (x2 : Seq (Int × Unit)) (x3 : Int) (x4 : Int) (k : X → St → Option α), num_all_l0_ev num_Fit n (encSt num_all_l0_t num_all_l0_s num_all_l0_h [.q (.int .i64 (.nil)) x2, .i x3, .i x4]) k = num_all_l0_run num_Fit (fun y1 => k .ret (encSt [.dead, .dead, .bool, .dead, .dead, .dead, .dead, .dead, .dead, .dead, .dead, .dead, .dead, .dead, .dead] [] [] [.b y1])) (k (.exit 0) (encSt [.dead, .dead, .dead, .dead, .dead, .dead, .dead, .dead, .dead, .dead, .dead, .dead, .dead, .dead, .dead] [] [] [])) n x2 x3 x4 := by
  intro n
  induction n with
  | zero => intros; kernel_rfl
  | succ n ih =>
    intro x2 x3 x4 k
    have e : (fun (x2 : Seq (Int × Unit)) (x3 : Int) (x4 : Int) => num_all_l0_ev num_Fit n (encSt num_all_l0_t num_all_l0_s num_all_l0_h [.q (.int .i64 (.nil)) x2, .i x3, .i x4]) k) = (fun (x2 : Seq (Int × Unit)) (x3 : Int) (x4 : Int) => num_all_l0_run num_Fit (fun y1 => k .ret (encSt [.dead, .dead, .bool, .dead, .dead, .dead, .dead, .dead, .dead, .dead, .dead, .dead, .dead, .dead, .dead] [] [] [.b y1])) (k (.exit 0) (encSt [.dead, .dead, .dead, .dead, .dead, .dead, .dead, .dead, .dead, .dead, .dead, .dead, .dead, .dead, .dead] [] [] [])) n x2 x3 x4) := by
      funext x2 x3 x4
      exact ih x2 x3 x4 k
    have h1 : num_all_l0_ev num_Fit (n + 1) (encSt num_all_l0_t num_all_l0_s num_all_l0_h [.q (.int .i64 (.nil)) x2, .i x3, .i x4]) k = num_all_l0_step num_Fit (fun y1 => k .ret (encSt [.dead, .dead, .bool, .dead, .dead, .dead, .dead, .dead, .dead, .dead, .dead, .dead, .dead, .dead, .dead] [] [] [.b y1])) (k (.exit 0) (encSt [.dead, .dead, .dead, .dead, .dead, .dead, .dead, .dead, .dead, .dead, .dead, .dead, .dead, .dead, .dead] [] [] [])) (fun (x2 : Seq (Int × Unit)) (x3 : Int) (x4 : Int) => num_all_l0_ev num_Fit n (encSt num_all_l0_t num_all_l0_s num_all_l0_h [.q (.int .i64 (.nil)) x2, .i x3, .i x4]) k) x2 x3 x4 := by kernel_rfl
    have h2 := congrArg (fun r => num_all_l0_step num_Fit (fun y1 => k .ret (encSt [.dead, .dead, .bool, .dead, .dead, .dead, .dead, .dead, .dead, .dead, .dead, .dead, .dead, .dead, .dead] [] [] [.b y1])) (k (.exit 0) (encSt [.dead, .dead, .dead, .dead, .dead, .dead, .dead, .dead, .dead, .dead, .dead, .dead, .dead, .dead, .dead] [] [] [])) r x2 x3 x4) e
    have h3 : num_all_l0_step num_Fit (fun y1 => k .ret (encSt [.dead, .dead, .bool, .dead, .dead, .dead, .dead, .dead, .dead, .dead, .dead, .dead, .dead, .dead, .dead] [] [] [.b y1])) (k (.exit 0) (encSt [.dead, .dead, .dead, .dead, .dead, .dead, .dead, .dead, .dead, .dead, .dead, .dead, .dead, .dead, .dead] [] [] [])) (fun (x2 : Seq (Int × Unit)) (x3 : Int) (x4 : Int) => num_all_l0_run num_Fit (fun y1 => k .ret (encSt [.dead, .dead, .bool, .dead, .dead, .dead, .dead, .dead, .dead, .dead, .dead, .dead, .dead, .dead, .dead] [] [] [.b y1])) (k (.exit 0) (encSt [.dead, .dead, .dead, .dead, .dead, .dead, .dead, .dead, .dead, .dead, .dead, .dead, .dead, .dead, .dead] [] [] [])) n x2 x3 x4) x2 x3 x4 = num_all_l0_run num_Fit (fun y1 => k .ret (encSt [.dead, .dead, .bool, .dead, .dead, .dead, .dead, .dead, .dead, .dead, .dead, .dead, .dead, .dead, .dead] [] [] [.b y1])) (k (.exit 0) (encSt [.dead, .dead, .dead, .dead, .dead, .dead, .dead, .dead, .dead, .dead, .dead, .dead, .dead, .dead, .dead] [] [] [])) (n + 1) x2 x3 x4 := by kernel_rfl
    exact h1.trans (h2.trans h3)

theorem num_all_l0_ok {α : Type} (num_Fit : num_Fit_T α) : (num_all_l0_spec num_Fit : LoopSpec α).ok Go.Proofs.Tryd.prog (envOf (num_all_C num_Fit) num_all_q num_all_inl 1000 num_all_ann false (num_all_loops num_Fit) (fun _ => none)) := by
  intro ds k
  have h1 : num_all_l0_ev num_Fit 1000 (encSt num_all_l0_t num_all_l0_s num_all_l0_h ds) k = num_all_l0_ev num_Fit 1000 (encSt num_all_l0_t num_all_l0_s num_all_l0_h [.q (.int .i64 (.nil)) (hdQ (.int .i64 (.nil)) ds), .i (hdI ds.tail), .i (hdI ds.tail.tail)]) k := by kernel_rfl
  have h2 := num_all_l0_eq num_Fit 1000 (hdQ (.int .i64 (.nil)) ds) (hdI ds.tail) (hdI ds.tail.tail) k
  exact h1.trans h2

theorem num_all_ev {α : Type} (num_Fit : num_Fit_T α) : EvOk (α := α) Go.Proofs.Tryd.prog (envOf (num_all_C num_Fit) num_all_q num_all_inl 1000 num_all_ann false (num_all_loops num_Fit) (fun _ => none)) 6 (num_all_sp (num_all_g num_Fit)) := by intro ds k; kernel_rfl

theorem num_all_ok {α : Type} : (num_all_spec : FunSpec α).ok Go.Proofs.Tryd.prog :=
  FunSpec.ok_of (sp := num_all_spec) (C := num_all_C num_Fit) (q := num_all_q) (inl := num_all_inl) (N := 1000) (ann := num_all_ann) (fr := false) (D := 6) (l := (num_all_loops num_Fit)) (hk := (fun _ => none)) (okCons num_Fit_ok okNil) (lokCons (num_all_l0_ok num_Fit) lokNil) noHooks (num_all_ev num_Fit)

end
end Go.Rv.Tryd

set_option linter.unusedVariables false
set_option maxRecDepth 100000
set_option maxHeartbeats 4000000
namespace Go.Rv.Tryd
open Go Go.Rv Go.RowKit
noncomputable section

-- drayman/num.Sum

abbrev num_Sum_T (α : Type) : Type := (Seq (Int × Unit)) → (Int → Int → Option α) → Option α

noncomputable def num_Sum_l0_step {α : Type} (num_all : num_all_T α) (kr : (Int) → (Int) → Option α) (k0 : (Int) → Option α) (rec : (Int) → (Seq (Int × Unit)) → (Int) → (Int) → Option α) (sum3 : Int) (x4 : Seq (Int × Unit)) (x5 : Int) (x6 : Int) : Option α :=
  (cond (decide (x6 < x5))
    (cond ((decide ((0 : Int) ≤ x6)) && (decide (x6 < (x4.n : Int))))
      (cond (decide ((IntKind.i64.wrap (sum3 + (x4.g x6.toNat).1)) > 1099511627776))
        (kr 0 5)
        (rec (IntKind.i64.wrap (sum3 + (x4.g x6.toNat).1)) x4 x5 (IntKind.i64.wrap (x6 + 1))))
      none)
    (k0 sum3))

noncomputable def num_Sum_l0_run {α : Type} (num_all : num_all_T α) (kr : (Int) → (Int) → Option α) (k0 : (Int) → Option α) : Nat → (Int) → (Seq (Int × Unit)) → (Int) → (Int) → Option α
  | 0, _, _, _, _ => none
  | n + 1, sum3, x4, x5, x6 => num_Sum_l0_step num_all kr k0 (fun sum3 x4 x5 x6 => num_Sum_l0_run num_all kr k0 n sum3 x4 x5 x6) sum3 x4 x5 x6

noncomputable def num_Sum_g {α : Type} (num_all : num_all_T α) (l1 : Seq (Int × Unit)) (k : Int → Int → Option α) : Option α :=
  (num_all l1 fun r2 =>
    (cond (!r2)
      (k 0 11)
      (num_Sum_l0_run num_all
        (fun x7 x8 =>
          (k x7 x8))
        (fun x9 =>
          (k x9 0))
        1000 0 l1 (l1.n : Int) 0)))

noncomputable def num_Sum {α : Type} : num_Sum_T α := num_Sum_g num_all

noncomputable def num_Sum_sp {α : Type} (num_Sum : num_Sum_T α) : FunSpec α := ⟨58, [.sl (.int .i64 (.nil))], [], fun ds k => num_Sum (hdQ (.int .i64 (.nil)) ds) (fun r1 r2 => k (enc dep (.tup [.int .i64, .int .i64]) [.i r1, .i r2]).1 [])⟩

noncomputable def num_Sum_spec {α : Type} : FunSpec α := num_Sum_sp num_Sum

noncomputable def num_Sum_C {α : Type} (num_all : num_all_T α) : List (FunSpec α) := [num_all_sp num_all]

noncomputable def num_Sum_q : FuncId → Bool := fun f => Nat.beq f 99

noncomputable def num_Sum_inl : FuncId → Bool := fun f => false

noncomputable def num_Sum_ann : FuncId → AnnT := fun f p => if f = 58 then (if p = [true, false, true, true, true] then ⟨[4, 10, 11, 12], [], [4], [2, 3], 0, [], [], none⟩ else ⟨[], [], [], [], 0, [], [], none⟩) else ⟨[], [], [], [], 0, [], [], none⟩

noncomputable def num_Sum_l0_t : List Sh := [.dead, .dead, .dead, .dead, .int .i64, .dead, .dead, .dead, .dead, .dead, .sl (.int .i64 (.nil)), .int .i64, .int .i64, .dead, .dead, .dead, .dead, .dead, .dead, .dead, .dead, .dead, .dead]
noncomputable def num_Sum_l0_s : List (List Sh) := []
noncomputable def num_Sum_l0_h : List BSh := []

noncomputable def num_Sum_l0_spec {α : Type} (num_all : num_all_T α) : LoopSpec α := ⟨6, 58, [true, false, true, true, true], num_Sum_l0_t, num_Sum_l0_s, num_Sum_l0_h, fun ds k => num_Sum_l0_run num_all (fun y1 y2 => k .ret (encSt [.dead, .dead, .int .i64, .int .i64, .dead, .dead, .dead, .dead, .dead, .dead, .dead, .dead, .dead, .dead, .dead, .dead, .dead, .dead, .dead, .dead, .dead, .dead, .dead] [] [] [.i y1, .i y2])) (fun y1 => k (.exit 0) (encSt [.dead, .dead, .dead, .dead, .int .i64, .dead, .dead, .dead, .dead, .dead, .dead, .dead, .dead, .dead, .dead, .dead, .dead, .dead, .dead, .dead, .dead, .dead, .dead] [] [] [.i y1])) 1000 (hdI ds) (hdQ (.int .i64 (.nil)) ds.tail) (hdI ds.tail.tail) (hdI ds.tail.tail.tail)⟩

noncomputable def num_Sum_loops {α : Type} (num_all : num_all_T α) : List (LoopSpec α) := [num_Sum_l0_spec num_all]

noncomputable def num_Sum_l0_ev {α : Type} (num_all : num_all_T α) (n : Nat) (st : St) (k : X → St → Option α) : Option α := loopN (evCode Go.Proofs.Tryd.prog (callD Go.Proofs.Tryd.prog (envOf (num_Sum_C num_all) num_Sum_q num_Sum_inl 1000 num_Sum_ann false (num_Sum_loops num_all) (fun _ => none)) 6) (((envOf (num_Sum_C num_all) num_Sum_q num_Sum_inl 1000 num_Sum_ann false (num_Sum_loops num_all) (fun _ => none)) : Env α).L 6 58) 1000 (num_Sum_ann 58) (false :: [true, false, true, true, true]) (loopC Go.Proofs.Tryd.prog 58 [true, false, true, true, true])) ((num_Sum_ann 58 [true, false, true, true, true]).head 0) ((num_Sum_ann 58 [true, false, true, true, true]).leave 0) n st k

theorem num_Sum_l0_eq {α : Type} (num_all : num_all_T α) : ∀ (n : Nat) (sum3 : Int) (x4 : Seq (Int × Unit)) (x5 : Int) (x6 : Int) (k : X → St → Option α), num_Sum_l0_ev num_all n (encSt num_Sum_l0_t num_Sum_l0_s num_Sum_l0_h [.i sum3, .q (.int .i64 (.nil)) x4, .i x5, .i x6]) k = num_Sum_l0_run num_all (fun y1 y2 => k .ret (encSt [.dead, .dead, .int .i64, .int .i64, .dead, .dead, .dead, .dead, .dead, .dead, .dead, .dead, .dead, .dead, .dead, .dead, .dead, .dead, .dead, .dead, .dead, .dead, .dead] [] [] [.i y1, .i y2])) (fun y1 => k (.exit 0) (encSt [.dead, .dead, .dead, .dead, .int .i64, .dead, .dead, .dead, .dead, .dead, .dead, .dead, .dead, .dead, .dead, .dead, .dead, .dead, .dead, .dead, .dead, .dead, .dead] [] [] [.i y1])) n sum3 x4 x5 x6 := by
  intro n
  induction n with
  | zero => intros; kernel_rfl
  | succ n ih =>
    intro sum3 x4 x5 x6 k
    have e : (fun (sum3 : Int) (x4 : Seq (Int × Unit)) (x5 : Int) (x6 : Int) => num_Sum_l0_ev num_all n (encSt num_Sum_l0_t num_Sum_l0_s num_Sum_l0_h [.i sum3, .q (.int .i64 (.nil)) x4, .i x5, .i x6]) k) = (fun (sum3 : Int) (x4 : Seq (Int × Unit)) (x5 : Int) (x6 : Int) => num_Sum_l0_run num_all (fun y1 y2 => k .ret (encSt [.dead, .dead, .int .i64, .int .i64, .dead, .dead, .dead, .dead, .dead, .dead, .dead, .dead, .dead, .dead, .dead, .dead, .dead, .dead, .dead, .dead, .dead, .dead, .dead] [] [] [.i y1, .i y2])) (fun y1 => k (.exit 0) (encSt [.dead, .dead, .dead, .dead, .int .i64, .dead, .dead, .dead, .dead, .dead, .dead, .dead, .dead, .dead, .dead, .dead, .dead, .dead, .dead, .dead, .dead, .dead, .dead] [] [] [.i y1])) n sum3 x4 x5 x6) := by
      funext sum3 x4 x5 x6
      exact ih sum3 x4 x5 x6 k
    have h1 : num_Sum_l0_ev num_all (n + 1) (encSt num_Sum_l0_t num_Sum_l0_s num_Sum_l0_h [.i sum3, .q (.int .i64 (.nil)) x4, .i x5, .i x6]) k = num_Sum_l0_step num_all (fun y1 y2 => k .ret (encSt [.dead, .dead, .int .i64, .int .i64, .dead, .dead, .dead, .dead, .dead, .dead, .dead, .dead, .dead, .dead, .dead, .dead, .dead, .dead, .dead, .dead, .dead, .dead, .dead] [] [] [.i y1, .i y2])) (fun y1 => k (.exit 0) (encSt [.dead, .dead, .dead, .dead, .int .i64, .dead, .dead, .dead, .dead, .dead, .dead, .dead, .dead, .dead, .dead, .dead, .dead, .dead, .dead, .dead, .dead, .dead, .dead] [] [] [.i y1])) (fun (sum3 : Int) (x4 : Seq (Int × Unit)) (x5 : Int) (x6 : Int) => num_Sum_l0_ev num_all n (encSt num_Sum_l0_t num_Sum_l0_s num_Sum_l0_h [.i sum3, .q (.int .i64 (.nil)) x4, .i x5, .i x6]) k) sum3 x4 x5 x6 := by kernel_rfl
    have h2 := congrArg (fun r => num_Sum_l0_step num_all (fun y1 y2 => k .ret (encSt [.dead, .dead, .int .i64, .int .i64, .dead, .dead, .dead, .dead, .dead, .dead, .dead, .dead, .dead, .dead, .dead, .dead, .dead, .dead, .dead, .dead, .dead, .dead, .dead] [] [] [.i y1, .i y2])) (fun y1 => k (.exit 0) (encSt [.dead, .dead, .dead, .dead, .int .i64, .dead, .dead, .dead, .dead, .dead, .dead, .dead, .dead, .dead, .dead, .dead, .dead, .dead, .dead, .dead, .dead, .dead, .dead] [] [] [.i y1])) r sum3 x4 x5 x6) e
    have h3 : num_Sum_l0_step num_all (fun y1 y2 => k .ret (encSt [.dead, .dead, .int .i64, .int .i64, .dead, .dead, .dead, .dead, .dead, .dead, .dead, .dead, .dead, .dead, .dead, .dead, .dead, .dead, .dead, .dead, .dead, .dead, .dead] [] [] [.i y1, .i y2])) (fun y1 => k (.exit 0) (encSt [.dead, .dead, .dead, .dead, .int .i64, .dead, .dead, .dead, .dead, .dead, .dead, .dead, .dead, .dead, .dead, .dead, .dead, .dead, .dead, .dead, .dead, .dead, .dead] [] [] [.i y1])) (fun (sum3 : Int) (x4 : Seq (Int × Unit)) (x5 : Int) (x6 : Int) => num_Sum_l0_run num_all (fun y1 y2 => k .ret (encSt [.dead, .dead, .int .i64, .int .i64, .dead, .dead, .dead, .dead, .dead, .dead, .dead, .dead, .dead, .dead, .dead, .dead, .dead, .dead, .dead, .dead, .dead, .dead, .dead] [] [] [.i y1, .i y2])) (fun y1 => k (.exit 0) (encSt [.dead, .dead, .dead, .dead, .int .i64, .dead, .dead, .dead, .dead, .dead, .dead, .dead, .dead, .dead, .dead, .dead, .dead, .dead, .dead, .dead, .dead, .dead, .dead] [] [] [.i y1])) n sum3 x4 x5 x6) sum3 x4 x5 x6 = num_Sum_l0_run num_all (fun y1 y2 => k .ret (encSt [.dead, .dead, .int .i64, .int .i64, .dead, .dead, .dead, .dead, .dead, .dead, .dead, .dead, .dead, .dead, .dead, .dead, .dead, .dead, .dead, .dead, .dead, .dead, .dead] [] [] [.i y1, .i y2])) (fun y1 => k (.exit 0) (encSt [.dead, .dead, .dead, .dead, .int .i64, .dead, .dead, .dead, .dead, .dead, .dead, .dead, .dead, .dead, .dead, .dead, .dead, .dead, .dead, .dead, .dead, .dead, .dead] [] [] [.i y1])) (n + 1) sum3 x4 x5 x6 := by kernel_rfl
    exact h1.trans (h2.trans h3)

theorem num_Sum_l0_ok {α : Type} (num_all : num_all_T α) : (num_Sum_l0_spec num_all : LoopSpec α).ok Go.Proofs.Tryd.prog (envOf (num_Sum_C num_all) num_Sum_q num_Sum_inl 1000 num_Sum_ann false (num_Sum_loops num_all) (fun _ => none)) := by
  intro ds k
  have h1 : num_Sum_l0_ev num_all 1000 (encSt num_Sum_l0_t num_Sum_l0_s num_Sum_l0_h ds) k = num_Sum_l0_ev num_all 1000 (encSt num_Sum_l0_t num_Sum_l0_s num_Sum_l0_h [.i (hdI ds), .q (.int .i64 (.nil)) (hdQ (.int .i64 (.nil)) ds.tail), .i (hdI ds.tail.tail), .i (hdI ds.tail.tail.tail)]) k := by kernel_rfl
  have h2 := num_Sum_l0_eq num_all 1000 (hdI ds) (hdQ (.int .i64 (.nil)) ds.tail) (hdI ds.tail.tail) (hdI ds.tail.tail.tail) k
  exact h1.trans h2

theorem num_Sum_ev {α : Type} (num_all : num_all_T α) : EvOk (α := α) Go.Proofs.Tryd.prog (envOf (num_Sum_C num_all) num_Sum_q num_Sum_inl 1000 num_Sum_ann false (num_Sum_loops num_all) (fun _ => none)) 6 (num_Sum_sp (num_Sum_g num_all)) := by intro ds k; kernel_rfl

theorem num_Sum_ok {α : Type} : (num_Sum_spec : FunSpec α).ok Go.Proofs.Tryd.prog :=
  FunSpec.ok_of (sp := num_Sum_spec) (C := num_Sum_C num_all) (q := num_Sum_q) (inl := num_Sum_inl) (N := 1000) (ann := num_Sum_ann) (fr := false) (D := 6) (l := (num_Sum_loops num_all)) (hk := (fun _ => none)) (okCons num_all_ok okNil) (lokCons (num_Sum_l0_ok num_all) lokNil) noHooks (num_Sum_ev num_all)

end
end Go.Rv.Tryd

set_option linter.unusedVariables false
set_option maxRecDepth 100000
set_option maxHeartbeats 4000000
namespace Go.Rv.Tryd
open Go Go.Rv Go.RowKit
noncomputable section

-- drayman/holds.Find

abbrev holds_Find_T (α : Type) : Type := (Seq (Int × (Seq (ByteArray × Int × Unit)) × Int × Unit)) → Int → ((Int × (Seq (ByteArray × Int × Unit)) × Int × Unit) → Bool → Option α) → Option α

noncomputable def holds_Find_g {α : Type} (slices_IndexFunc_api_Hold_api_Hold : slices_IndexFunc_api_Hold_api_Hold_T α) (holds_own : holds_own_T α) (l1 : Seq (Int × (Seq (ByteArray × Int × Unit)) × Int × Unit)) (saga2 : Int) (k : (Int × (Seq (ByteArray × Int × Unit)) × Int × Unit) → Bool → Option α) : Option α :=
  (slices_IndexFunc_api_Hold_api_Hold l1 saga2 fun r3 x4 =>
    (cond (decide (r3 < 0))
      (k (0, (⟨true, 0, (fun _ => (ByteArray.empty, 0, ()))⟩ : Seq (ByteArray × Int × Unit)), 0, ()) false)
      (cond ((decide ((0 : Int) ≤ r3)) && (decide (r3 < (l1.n : Int))))
        (holds_own (l1.g r3.toNat) fun r5 r6 r7 =>
          (k (r5, r7, r6, ()) true))
        none)))

noncomputable def holds_Find {α : Type} : holds_Find_T α := holds_Find_g slices_IndexFunc_api_Hold_api_Hold holds_own

noncomputable def holds_Find_sp {α : Type} (holds_Find : holds_Find_T α) : FunSpec α := ⟨30, [.sl (.int .i64 (.sl (.str (.int .i64 (.nil))) (.int .i64 (.nil)))), .int .i64], [], fun ds k => holds_Find (hdQ (.int .i64 (.sl (.str (.int .i64 (.nil))) (.int .i64 (.nil)))) ds) (hdI ds.tail) (fun r1 r2 => k (enc dep (.tup [.agg [.int .i64, .sl (.str (.int .i64 (.nil))), .int .i64], .bool]) [.i r1.1, .q (.str (.int .i64 (.nil))) r1.2.1, .i r1.2.2.1, .b r2]).1 [])⟩

noncomputable def holds_Find_spec {α : Type} : FunSpec α := holds_Find_sp holds_Find

noncomputable def holds_Find_C {α : Type} (slices_IndexFunc_api_Hold_api_Hold : slices_IndexFunc_api_Hold_api_Hold_T α) (holds_own : holds_own_T α) : List (FunSpec α) := [slices_IndexFunc_api_Hold_api_Hold_sp slices_IndexFunc_api_Hold_api_Hold, holds_own_sp holds_own]

noncomputable def holds_Find_q : FuncId → Bool := fun f => Nat.beq f 63

noncomputable def holds_Find_inl : FuncId → Bool := fun f => Nat.beq f 62

noncomputable def holds_Find_ann : FuncId → AnnT := fun f p => ⟨[], [], [], [], 0, [], [], none⟩

noncomputable def holds_Find_loops {α : Type} (slices_IndexFunc_api_Hold_api_Hold : slices_IndexFunc_api_Hold_api_Hold_T α) (holds_own : holds_own_T α) : List (LoopSpec α) := []

theorem holds_Find_ev {α : Type} (slices_IndexFunc_api_Hold_api_Hold : slices_IndexFunc_api_Hold_api_Hold_T α) (holds_own : holds_own_T α) : EvOk (α := α) Go.Proofs.Tryd.prog (envOf (holds_Find_C slices_IndexFunc_api_Hold_api_Hold holds_own) holds_Find_q holds_Find_inl 1000 holds_Find_ann true (holds_Find_loops slices_IndexFunc_api_Hold_api_Hold holds_own) (fun _ => none)) 6 (holds_Find_sp (holds_Find_g slices_IndexFunc_api_Hold_api_Hold holds_own)) := by intro ds k; kernel_rfl

theorem holds_Find_ok {α : Type} : (holds_Find_spec : FunSpec α).ok Go.Proofs.Tryd.prog :=
  FunSpec.ok_of (sp := holds_Find_spec) (C := holds_Find_C slices_IndexFunc_api_Hold_api_Hold holds_own) (q := holds_Find_q) (inl := holds_Find_inl) (N := 1000) (ann := holds_Find_ann) (fr := true) (D := 6) (l := (holds_Find_loops slices_IndexFunc_api_Hold_api_Hold holds_own)) (hk := (fun _ => none)) (okCons slices_IndexFunc_api_Hold_api_Hold_ok (okCons holds_own_ok okNil)) lokNil noHooks (holds_Find_ev slices_IndexFunc_api_Hold_api_Hold holds_own)

end
end Go.Rv.Tryd

set_option linter.unusedVariables false
set_option maxRecDepth 100000
set_option maxHeartbeats 4000000
namespace Go.Rv.Tryd
open Go Go.Rv Go.RowKit
noncomputable section

-- slices.Equal[[]drayman/api.Line,drayman/api.Line]

abbrev slices_Equal_api_Line_api_Line_T (α : Type) : Type := (Seq (ByteArray × Int × Unit)) → (Seq (ByteArray × Int × Unit)) → (Bool → Option α) → Option α

noncomputable def slices_Equal_api_Line_api_Line_l0_step {α : Type} (kr : (Bool) → Option α) (k0 : Option α) (rec : (Seq (ByteArray × Int × Unit)) → (Seq (ByteArray × Int × Unit)) → (Int) → (Int) → Option α) (x3 : Seq (ByteArray × Int × Unit)) (x4 : Seq (ByteArray × Int × Unit)) (x5 : Int) (x6 : Int) : Option α :=
  (cond (decide (x6 < x5))
    (cond (((decide ((0 : Int) ≤ x6)) && (decide (x6 < (x3.n : Int)))) && ((decide ((0 : Int) ≤ x6)) && (decide (x6 < (x3.n : Int)))))
      (cond (((decide ((0 : Int) ≤ x6)) && (decide (x6 < (x4.n : Int)))) && ((decide ((0 : Int) ≤ x6)) && (decide (x6 < (x4.n : Int)))))
        (cond (!(((x3.g x6.toNat).1.toList == (x4.g x6.toNat).1.toList) && (((x3.g x6.toNat).2.1 == (x4.g x6.toNat).2.1) && true)))
          (kr false)
          (rec x3 x4 x5 (IntKind.i64.wrap (x6 + 1))))
        none)
      none)
    (k0))

noncomputable def slices_Equal_api_Line_api_Line_l0_run {α : Type} (kr : (Bool) → Option α) (k0 : Option α) : Nat → (Seq (ByteArray × Int × Unit)) → (Seq (ByteArray × Int × Unit)) → (Int) → (Int) → Option α
  | 0, _, _, _, _ => none
  | n + 1, x3, x4, x5, x6 => slices_Equal_api_Line_api_Line_l0_step kr k0 (fun x3 x4 x5 x6 => slices_Equal_api_Line_api_Line_l0_run kr k0 n x3 x4 x5 x6) x3 x4 x5 x6

noncomputable def slices_Equal_api_Line_api_Line {α : Type} (x1 : Seq (ByteArray × Int × Unit)) (x2 : Seq (ByteArray × Int × Unit)) (k : Bool → Option α) : Option α :=
  (cond ((x1.n : Int) != (x2.n : Int))
    (k false)
    (slices_Equal_api_Line_api_Line_l0_run
      (fun x7 =>
        (k x7))
      ((k true))
      1000 x1 x2 (x1.n : Int) 0))

noncomputable def slices_Equal_api_Line_api_Line_sp {α : Type} (slices_Equal_api_Line_api_Line : slices_Equal_api_Line_api_Line_T α) : FunSpec α := ⟨106, [.sl (.str (.int .i64 (.nil))), .sl (.str (.int .i64 (.nil)))], [], fun ds k => slices_Equal_api_Line_api_Line (hdQ (.str (.int .i64 (.nil))) ds) (hdQ (.str (.int .i64 (.nil))) ds.tail) (fun r1 => k (enc dep (.bool) [.b r1]).1 [])⟩

noncomputable def slices_Equal_api_Line_api_Line_spec {α : Type} : FunSpec α := slices_Equal_api_Line_api_Line_sp slices_Equal_api_Line_api_Line

noncomputable def slices_Equal_api_Line_api_Line_C {α : Type} : List (FunSpec α) := []

noncomputable def slices_Equal_api_Line_api_Line_q : FuncId → Bool := fun f => false

noncomputable def slices_Equal_api_Line_api_Line_inl : FuncId → Bool := fun f => false

noncomputable def slices_Equal_api_Line_api_Line_ann : FuncId → AnnT := fun f p => if f = 106 then (if p = [true, false, true, true] then ⟨[0, 1, 12, 13], [], [], [4], 0, [], [], none⟩ else ⟨[], [], [], [], 0, [], [], none⟩) else ⟨[], [], [], [], 0, [], [], none⟩

noncomputable def slices_Equal_api_Line_api_Line_l0_t : List Sh := [.sl (.str (.int .i64 (.nil))), .sl (.str (.int .i64 (.nil))), .dead, .dead, .dead, .dead, .dead, .dead, .dead, .dead, .dead, .dead, .int .i64, .int .i64, .dead, .dead, .dead, .dead, .dead, .dead, .dead, .dead, .dead, .dead, .dead, .dead]
noncomputable def slices_Equal_api_Line_api_Line_l0_s : List (List Sh) := []
noncomputable def slices_Equal_api_Line_api_Line_l0_h : List BSh := []

noncomputable def slices_Equal_api_Line_api_Line_l0_spec {α : Type} : LoopSpec α := ⟨6, 106, [true, false, true, true], slices_Equal_api_Line_api_Line_l0_t, slices_Equal_api_Line_api_Line_l0_s, slices_Equal_api_Line_api_Line_l0_h, fun ds k => slices_Equal_api_Line_api_Line_l0_run (fun y1 => k .ret (encSt [.dead, .dead, .dead, .dead, .bool, .dead, .dead, .dead, .dead, .dead, .dead, .dead, .dead, .dead, .dead, .dead, .dead, .dead, .dead, .dead, .dead, .dead, .dead, .dead, .dead, .dead] [] [] [.b y1])) (k (.exit 0) (encSt [.dead, .dead, .dead, .dead, .dead, .dead, .dead, .dead, .dead, .dead, .dead, .dead, .dead, .dead, .dead, .dead, .dead, .dead, .dead, .dead, .dead, .dead, .dead, .dead, .dead, .dead] [] [] [])) 1000 (hdQ (.str (.int .i64 (.nil))) ds) (hdQ (.str (.int .i64 (.nil))) ds.tail) (hdI ds.tail.tail) (hdI ds.tail.tail.tail)⟩

noncomputable def slices_Equal_api_Line_api_Line_loops {α : Type} : List (LoopSpec α) := [slices_Equal_api_Line_api_Line_l0_spec]

noncomputable def slices_Equal_api_Line_api_Line_l0_ev {α : Type} (n : Nat) (st : St) (k : X → St → Option α) : Option α := loopN (evCode Go.Proofs.Tryd.prog (callD Go.Proofs.Tryd.prog (envOf (slices_Equal_api_Line_api_Line_C) slices_Equal_api_Line_api_Line_q slices_Equal_api_Line_api_Line_inl 1000 slices_Equal_api_Line_api_Line_ann false (slices_Equal_api_Line_api_Line_loops) (fun _ => none)) 6) (((envOf (slices_Equal_api_Line_api_Line_C) slices_Equal_api_Line_api_Line_q slices_Equal_api_Line_api_Line_inl 1000 slices_Equal_api_Line_api_Line_ann false (slices_Equal_api_Line_api_Line_loops) (fun _ => none)) : Env α).L 6 106) 1000 (slices_Equal_api_Line_api_Line_ann 106) (false :: [true, false, true, true]) (loopC Go.Proofs.Tryd.prog 106 [true, false, true, true])) ((slices_Equal_api_Line_api_Line_ann 106 [true, false, true, true]).head 0) ((slices_Equal_api_Line_api_Line_ann 106 [true, false, true, true]).leave 0) n st k

theorem slices_Equal_api_Line_api_Line_l0_eq {α : Type} : ∀ (n : Nat) (x3 : Seq (ByteArray × Int × Unit)) (x4 : Seq (ByteArray × Int × Unit)) (x5 : Int) (x6 : Int) (k : X → St → Option α), slices_Equal_api_Line_api_Line_l0_ev n (encSt slices_Equal_api_Line_api_Line_l0_t slices_Equal_api_Line_api_Line_l0_s slices_Equal_api_Line_api_Line_l0_h [.q (.str (.int .i64 (.nil))) x3, .q (.str (.int .i64 (.nil))) x4, .i x5, .i x6]) k = slices_Equal_api_Line_api_Line_l0_run (fun y1 => k .ret (encSt [.dead, .dead, .dead, .dead, .bool, .dead, .dead, .dead, .dead, .dead, .dead, .dead, .dead, .dead, .dead, .dead, .dead, .dead, .dead, .dead, .dead, .dead, .dead, .dead, .dead, .dead] [] [] [.b y1])) (k (.exit 0) (encSt [.dead, .dead, .dead, .dead, .dead, .dead, .dead, .dead, .dead, .dead, .dead, .dead, .dead, .dead, .dead, .dead, .dead, .dead, .dead, .dead, .dead, .dead, .dead, .dead, .dead, .dead] [] [] [])) n x3 x4 x5 x6 := by
  intro n
  induction n with
  | zero => intros; kernel_rfl
  | succ n ih =>
    intro x3 x4 x5 x6 k
    have e : (fun (x3 : Seq (ByteArray × Int × Unit)) (x4 : Seq (ByteArray × Int × Unit)) (x5 : Int) (x6 : Int) => slices_Equal_api_Line_api_Line_l0_ev n (encSt slices_Equal_api_Line_api_Line_l0_t slices_Equal_api_Line_api_Line_l0_s slices_Equal_api_Line_api_Line_l0_h [.q (.str (.int .i64 (.nil))) x3, .q (.str (.int .i64 (.nil))) x4, .i x5, .i x6]) k) = (fun (x3 : Seq (ByteArray × Int × Unit)) (x4 : Seq (ByteArray × Int × Unit)) (x5 : Int) (x6 : Int) => slices_Equal_api_Line_api_Line_l0_run (fun y1 => k .ret (encSt [.dead, .dead, .dead, .dead, .bool, .dead, .dead, .dead, .dead, .dead, .dead, .dead, .dead, .dead, .dead, .dead, .dead, .dead, .dead, .dead, .dead, .dead, .dead, .dead, .dead, .dead] [] [] [.b y1])) (k (.exit 0) (encSt [.dead, .dead, .dead, .dead, .dead, .dead, .dead, .dead, .dead, .dead, .dead, .dead, .dead, .dead, .dead, .dead, .dead, .dead, .dead, .dead, .dead, .dead, .dead, .dead, .dead, .dead] [] [] [])) n x3 x4 x5 x6) := by
      funext x3 x4 x5 x6
      exact ih x3 x4 x5 x6 k
    have h1 : slices_Equal_api_Line_api_Line_l0_ev (n + 1) (encSt slices_Equal_api_Line_api_Line_l0_t slices_Equal_api_Line_api_Line_l0_s slices_Equal_api_Line_api_Line_l0_h [.q (.str (.int .i64 (.nil))) x3, .q (.str (.int .i64 (.nil))) x4, .i x5, .i x6]) k = slices_Equal_api_Line_api_Line_l0_step (fun y1 => k .ret (encSt [.dead, .dead, .dead, .dead, .bool, .dead, .dead, .dead, .dead, .dead, .dead, .dead, .dead, .dead, .dead, .dead, .dead, .dead, .dead, .dead, .dead, .dead, .dead, .dead, .dead, .dead] [] [] [.b y1])) (k (.exit 0) (encSt [.dead, .dead, .dead, .dead, .dead, .dead, .dead, .dead, .dead, .dead, .dead, .dead, .dead, .dead, .dead, .dead, .dead, .dead, .dead, .dead, .dead, .dead, .dead, .dead, .dead, .dead] [] [] [])) (fun (x3 : Seq (ByteArray × Int × Unit)) (x4 : Seq (ByteArray × Int × Unit)) (x5 : Int) (x6 : Int) => slices_Equal_api_Line_api_Line_l0_ev n (encSt slices_Equal_api_Line_api_Line_l0_t slices_Equal_api_Line_api_Line_l0_s slices_Equal_api_Line_api_Line_l0_h [.q (.str (.int .i64 (.nil))) x3, .q (.str (.int .i64 (.nil))) x4, .i x5, .i x6]) k) x3 x4 x5 x6 := by kernel_rfl
    have h2 := congrArg (fun r => slices_Equal_api_Line_api_Line_l0_step (fun y1 => k .ret (encSt [.dead, .dead, .dead, .dead, .bool, .dead, .dead, .dead, .dead, .dead, .dead, .dead, .dead, .dead, .dead, .dead, .dead, .dead, .dead, .dead, .dead, .dead, .dead, .dead, .dead, .dead] [] [] [.b y1])) (k (.exit 0) (encSt [.dead, .dead, .dead, .dead, .dead, .dead, .dead, .dead, .dead, .dead, .dead, .dead, .dead, .dead, .dead, .dead, .dead, .dead, .dead, .dead, .dead, .dead, .dead, .dead, .dead, .dead] [] [] [])) r x3 x4 x5 x6) e
    have h3 : slices_Equal_api_Line_api_Line_l0_step (fun y1 => k .ret (encSt [.dead, .dead, .dead, .dead, .bool, .dead, .dead, .dead, .dead, .dead, .dead, .dead, .dead, .dead, .dead, .dead, .dead, .dead, .dead, .dead, .dead, .dead, .dead, .dead, .dead, .dead] [] [] [.b y1])) (k (.exit 0) (encSt [.dead, .dead, .dead, .dead, .dead, .dead, .dead, .dead, .dead, .dead, .dead, .dead, .dead, .dead, .dead, .dead, .dead, .dead, .dead, .dead, .dead, .dead, .dead, .dead, .dead, .dead] [] [] [])) (fun (x3 : Seq (ByteArray × Int × Unit)) (x4 : Seq (ByteArray × Int × Unit)) (x5 : Int) (x6 : Int) => slices_Equal_api_Line_api_Line_l0_run (fun y1 => k .ret (encSt [.dead, .dead, .dead, .dead, .bool, .dead, .dead, .dead, .dead, .dead, .dead, .dead, .dead, .dead, .dead, .dead, .dead, .dead, .dead, .dead, .dead, .dead, .dead, .dead, .dead, .dead] [] [] [.b y1])) (k (.exit 0) (encSt [.dead, .dead, .dead, .dead, .dead, .dead, .dead, .dead, .dead, .dead, .dead, .dead, .dead, .dead, .dead, .dead, .dead, .dead, .dead, .dead, .dead, .dead, .dead, .dead, .dead, .dead] [] [] [])) n x3 x4 x5 x6) x3 x4 x5 x6 = slices_Equal_api_Line_api_Line_l0_run (fun y1 => k .ret (encSt [.dead, .dead, .dead, .dead, .bool, .dead, .dead, .dead, .dead, .dead, .dead, .dead, .dead, .dead, .dead, .dead, .dead, .dead, .dead, .dead, .dead, .dead, .dead, .dead, .dead, .dead] [] [] [.b y1])) (k (.exit 0) (encSt [.dead, .dead, .dead, .dead, .dead, .dead, .dead, .dead, .dead, .dead, .dead, .dead, .dead, .dead, .dead, .dead, .dead, .dead, .dead, .dead, .dead, .dead, .dead, .dead, .dead, .dead] [] [] [])) (n + 1) x3 x4 x5 x6 := by kernel_rfl
    exact h1.trans (h2.trans h3)

theorem slices_Equal_api_Line_api_Line_l0_ok {α : Type} : (slices_Equal_api_Line_api_Line_l0_spec : LoopSpec α).ok Go.Proofs.Tryd.prog (envOf (slices_Equal_api_Line_api_Line_C) slices_Equal_api_Line_api_Line_q slices_Equal_api_Line_api_Line_inl 1000 slices_Equal_api_Line_api_Line_ann false (slices_Equal_api_Line_api_Line_loops) (fun _ => none)) := by
  intro ds k
  have h1 : slices_Equal_api_Line_api_Line_l0_ev 1000 (encSt slices_Equal_api_Line_api_Line_l0_t slices_Equal_api_Line_api_Line_l0_s slices_Equal_api_Line_api_Line_l0_h ds) k = slices_Equal_api_Line_api_Line_l0_ev 1000 (encSt slices_Equal_api_Line_api_Line_l0_t slices_Equal_api_Line_api_Line_l0_s slices_Equal_api_Line_api_Line_l0_h [.q (.str (.int .i64 (.nil))) (hdQ (.str (.int .i64 (.nil))) ds), .q (.str (.int .i64 (.nil))) (hdQ (.str (.int .i64 (.nil))) ds.tail), .i (hdI ds.tail.tail), .i (hdI ds.tail.tail.tail)]) k := by kernel_rfl
  have h2 := slices_Equal_api_Line_api_Line_l0_eq 1000 (hdQ (.str (.int .i64 (.nil))) ds) (hdQ (.str (.int .i64 (.nil))) ds.tail) (hdI ds.tail.tail) (hdI ds.tail.tail.tail) k
  exact h1.trans h2

theorem slices_Equal_api_Line_api_Line_ev {α : Type} : EvOk (α := α) Go.Proofs.Tryd.prog (envOf (slices_Equal_api_Line_api_Line_C) slices_Equal_api_Line_api_Line_q slices_Equal_api_Line_api_Line_inl 1000 slices_Equal_api_Line_api_Line_ann false (slices_Equal_api_Line_api_Line_loops) (fun _ => none)) 6 (slices_Equal_api_Line_api_Line_sp (slices_Equal_api_Line_api_Line)) := by intro ds k; kernel_rfl

theorem slices_Equal_api_Line_api_Line_ok {α : Type} : (slices_Equal_api_Line_api_Line_spec : FunSpec α).ok Go.Proofs.Tryd.prog :=
  FunSpec.ok_of (sp := slices_Equal_api_Line_api_Line_spec) (C := slices_Equal_api_Line_api_Line_C) (q := slices_Equal_api_Line_api_Line_q) (inl := slices_Equal_api_Line_api_Line_inl) (N := 1000) (ann := slices_Equal_api_Line_api_Line_ann) (fr := false) (D := 6) (l := (slices_Equal_api_Line_api_Line_loops)) (hk := (fun _ => none)) okNil (lokCons (slices_Equal_api_Line_api_Line_l0_ok) lokNil) noHooks (slices_Equal_api_Line_api_Line_ev)

end
end Go.Rv.Tryd

set_option linter.unusedVariables false
set_option maxRecDepth 100000
set_option maxHeartbeats 4000000
namespace Go.Rv.Tryd
open Go Go.Rv Go.RowKit
noncomputable section

-- drayman/lines.Same

abbrev lines_Same_T (α : Type) : Type := (Seq (ByteArray × Int × Unit)) → (Seq (ByteArray × Int × Unit)) → (Bool → Option α) → Option α

noncomputable def lines_Same_g {α : Type} (slices_Equal_api_Line_api_Line : slices_Equal_api_Line_api_Line_T α) (a1 : Seq (ByteArray × Int × Unit)) (b2 : Seq (ByteArray × Int × Unit)) (k : Bool → Option α) : Option α :=
  (slices_Equal_api_Line_api_Line a1 b2 fun r3 =>
    (k r3))

noncomputable def lines_Same {α : Type} : lines_Same_T α := lines_Same_g slices_Equal_api_Line_api_Line

noncomputable def lines_Same_sp {α : Type} (lines_Same : lines_Same_T α) : FunSpec α := ⟨72, [.sl (.str (.int .i64 (.nil))), .sl (.str (.int .i64 (.nil)))], [], fun ds k => lines_Same (hdQ (.str (.int .i64 (.nil))) ds) (hdQ (.str (.int .i64 (.nil))) ds.tail) (fun r1 => k (enc dep (.bool) [.b r1]).1 [])⟩

noncomputable def lines_Same_spec {α : Type} : FunSpec α := lines_Same_sp lines_Same

noncomputable def lines_Same_C {α : Type} (slices_Equal_api_Line_api_Line : slices_Equal_api_Line_api_Line_T α) : List (FunSpec α) := [slices_Equal_api_Line_api_Line_sp slices_Equal_api_Line_api_Line]

noncomputable def lines_Same_q : FuncId → Bool := fun f => Nat.beq f 106

noncomputable def lines_Same_inl : FuncId → Bool := fun f => false

noncomputable def lines_Same_ann : FuncId → AnnT := fun f p => ⟨[], [], [], [], 0, [], [], none⟩

noncomputable def lines_Same_loops {α : Type} (slices_Equal_api_Line_api_Line : slices_Equal_api_Line_api_Line_T α) : List (LoopSpec α) := []

theorem lines_Same_ev {α : Type} (slices_Equal_api_Line_api_Line : slices_Equal_api_Line_api_Line_T α) : EvOk (α := α) Go.Proofs.Tryd.prog (envOf (lines_Same_C slices_Equal_api_Line_api_Line) lines_Same_q lines_Same_inl 1000 lines_Same_ann false (lines_Same_loops slices_Equal_api_Line_api_Line) (fun _ => none)) 6 (lines_Same_sp (lines_Same_g slices_Equal_api_Line_api_Line)) := by intro ds k; kernel_rfl

theorem lines_Same_ok {α : Type} : (lines_Same_spec : FunSpec α).ok Go.Proofs.Tryd.prog :=
  FunSpec.ok_of (sp := lines_Same_spec) (C := lines_Same_C slices_Equal_api_Line_api_Line) (q := lines_Same_q) (inl := lines_Same_inl) (N := 1000) (ann := lines_Same_ann) (fr := false) (D := 6) (l := (lines_Same_loops slices_Equal_api_Line_api_Line)) (hk := (fun _ => none)) (okCons slices_Equal_api_Line_api_Line_ok okNil) lokNil noHooks (lines_Same_ev slices_Equal_api_Line_api_Line)

end
end Go.Rv.Tryd

set_option linter.unusedVariables false
set_option maxRecDepth 100000
set_option maxHeartbeats 4000000
namespace Go.Rv.Tryd
open Go Go.Rv Go.RowKit
noncomputable section

-- drayman/holds.Same$1

abbrev holds_Same_1_T (α : Type) : Type := (Int × (Seq (ByteArray × Int × Unit)) × Int × Unit) → (Int × (Seq (ByteArray × Int × Unit)) × Int × Unit) → (Bool → Option α) → Option α

noncomputable def holds_Same_1_g {α : Type} (lines_Same : lines_Same_T α) (x1 : Int × (Seq (ByteArray × Int × Unit)) × Int × Unit) (y2 : Int × (Seq (ByteArray × Int × Unit)) × Int × Unit) (k : Bool → Option α) : Option α :=
  (cond (x1.1 == y2.1)
    (cond (x1.2.2.1 == y2.2.2.1)
      (lines_Same x1.2.1 y2.2.1 fun r3 =>
        (k r3))
      (k false))
    (k false))

noncomputable def holds_Same_1 {α : Type} : holds_Same_1_T α := holds_Same_1_g lines_Same

noncomputable def holds_Same_1_sp {α : Type} (holds_Same_1 : holds_Same_1_T α) : FunSpec α := ⟨71, [.agg [.int .i64, .sl (.str (.int .i64 (.nil))), .int .i64], .agg [.int .i64, .sl (.str (.int .i64 (.nil))), .int .i64]], [], fun ds k => holds_Same_1 (hdI ds, hdQ (.str (.int .i64 (.nil))) ds.tail, hdI ds.tail.tail, ()) (hdI ds.tail.tail.tail, hdQ (.str (.int .i64 (.nil))) ds.tail.tail.tail.tail, hdI ds.tail.tail.tail.tail.tail, ()) (fun r1 => k (enc dep (.bool) [.b r1]).1 [])⟩

noncomputable def holds_Same_1_spec {α : Type} : FunSpec α := holds_Same_1_sp holds_Same_1

noncomputable def holds_Same_1_C {α : Type} (lines_Same : lines_Same_T α) : List (FunSpec α) := [lines_Same_sp lines_Same]

noncomputable def holds_Same_1_q : FuncId → Bool := fun f => Nat.beq f 72

noncomputable def holds_Same_1_inl : FuncId → Bool := fun f => false

noncomputable def holds_Same_1_ann : FuncId → AnnT := fun f p => ⟨[], [], [], [], 0, [], [], none⟩

noncomputable def holds_Same_1_loops {α : Type} (lines_Same : lines_Same_T α) : List (LoopSpec α) := []

theorem holds_Same_1_ev {α : Type} (lines_Same : lines_Same_T α) : EvOk (α := α) Go.Proofs.Tryd.prog (envOf (holds_Same_1_C lines_Same) holds_Same_1_q holds_Same_1_inl 1000 holds_Same_1_ann false (holds_Same_1_loops lines_Same) (fun _ => none)) 6 (holds_Same_1_sp (holds_Same_1_g lines_Same)) := by intro ds k; kernel_rfl

theorem holds_Same_1_ok {α : Type} : (holds_Same_1_spec : FunSpec α).ok Go.Proofs.Tryd.prog :=
  FunSpec.ok_of (sp := holds_Same_1_spec) (C := holds_Same_1_C lines_Same) (q := holds_Same_1_q) (inl := holds_Same_1_inl) (N := 1000) (ann := holds_Same_1_ann) (fr := false) (D := 6) (l := (holds_Same_1_loops lines_Same)) (hk := (fun _ => none)) (okCons lines_Same_ok okNil) lokNil noHooks (holds_Same_1_ev lines_Same)

end
end Go.Rv.Tryd

set_option linter.unusedVariables false
set_option maxRecDepth 100000
set_option maxHeartbeats 4000000
namespace Go.Rv.Tryd
open Go Go.Rv Go.RowKit
noncomputable section

-- slices.EqualFunc[[]drayman/api.Hold,[]drayman/api.Hold,drayman/api.Hold,drayman/api.Hold]

abbrev slices_EqualFunc_api_Hold_api_Hold_api_Hold_api_Hold_T (α : Type) : Type := (Seq (Int × (Seq (ByteArray × Int × Unit)) × Int × Unit)) → (Seq (Int × (Seq (ByteArray × Int × Unit)) × Int × Unit)) → (Bool → Option α) → Option α

noncomputable def slices_EqualFunc_api_Hold_api_Hold_api_Hold_api_Hold_l0_step {α : Type} (holds_Same_1 : holds_Same_1_T α) (kr : (Bool) → Option α) (k0 : Option α) (rec : (Seq (Int × (Seq (ByteArray × Int × Unit)) × Int × Unit)) → (Seq (Int × (Seq (ByteArray × Int × Unit)) × Int × Unit)) → (Int) → (Int) → Option α) (x3 : Seq (Int × (Seq (ByteArray × Int × Unit)) × Int × Unit)) (x4 : Seq (Int × (Seq (ByteArray × Int × Unit)) × Int × Unit)) (x5 : Int) (x6 : Int) : Option α :=
  (cond (decide (x6 < x5))
    (cond ((decide ((0 : Int) ≤ x6)) && (decide (x6 < (x4.n : Int))))
      (cond ((decide ((0 : Int) ≤ x6)) && (decide (x6 < (x3.n : Int))))
        (holds_Same_1 (x4.g x6.toNat) (x3.g x6.toNat) fun r7 =>
          (cond (!r7)
            (kr false)
            (rec x3 x4 x5 (IntKind.i64.wrap (x6 + 1)))))
        none)
      none)
    (k0))

noncomputable def slices_EqualFunc_api_Hold_api_Hold_api_Hold_api_Hold_l0_run {α : Type} (holds_Same_1 : holds_Same_1_T α) (kr : (Bool) → Option α) (k0 : Option α) : Nat → (Seq (Int × (Seq (ByteArray × Int × Unit)) × Int × Unit)) → (Seq (Int × (Seq (ByteArray × Int × Unit)) × Int × Unit)) → (Int) → (Int) → Option α
  | 0, _, _, _, _ => none
  | n + 1, x3, x4, x5, x6 => slices_EqualFunc_api_Hold_api_Hold_api_Hold_api_Hold_l0_step holds_Same_1 kr k0 (fun x3 x4 x5 x6 => slices_EqualFunc_api_Hold_api_Hold_api_Hold_api_Hold_l0_run holds_Same_1 kr k0 n x3 x4 x5 x6) x3 x4 x5 x6

noncomputable def slices_EqualFunc_api_Hold_api_Hold_api_Hold_api_Hold_g {α : Type} (holds_Same_1 : holds_Same_1_T α) (x1 : Seq (Int × (Seq (ByteArray × Int × Unit)) × Int × Unit)) (x2 : Seq (Int × (Seq (ByteArray × Int × Unit)) × Int × Unit)) (k : Bool → Option α) : Option α :=
  (cond ((x1.n : Int) != (x2.n : Int))
    (k false)
    (slices_EqualFunc_api_Hold_api_Hold_api_Hold_api_Hold_l0_run holds_Same_1
      (fun x8 =>
        (k x8))
      ((k true))
      1000 x2 x1 (x1.n : Int) 0))

noncomputable def slices_EqualFunc_api_Hold_api_Hold_api_Hold_api_Hold {α : Type} : slices_EqualFunc_api_Hold_api_Hold_api_Hold_api_Hold_T α := slices_EqualFunc_api_Hold_api_Hold_api_Hold_api_Hold_g holds_Same_1

noncomputable def slices_EqualFunc_api_Hold_api_Hold_api_Hold_api_Hold_sp {α : Type} (slices_EqualFunc_api_Hold_api_Hold_api_Hold_api_Hold : slices_EqualFunc_api_Hold_api_Hold_api_Hold_api_Hold_T α) : FunSpec α := ⟨70, [.sl (.int .i64 (.sl (.str (.int .i64 (.nil))) (.int .i64 (.nil)))), .sl (.int .i64 (.sl (.str (.int .i64 (.nil))) (.int .i64 (.nil)))), .func (.func 71) [] []], [], fun ds k => slices_EqualFunc_api_Hold_api_Hold_api_Hold_api_Hold (hdQ (.int .i64 (.sl (.str (.int .i64 (.nil))) (.int .i64 (.nil)))) ds) (hdQ (.int .i64 (.sl (.str (.int .i64 (.nil))) (.int .i64 (.nil)))) ds.tail) (fun r1 => k (enc dep (.bool) [.b r1]).1 [])⟩

noncomputable def slices_EqualFunc_api_Hold_api_Hold_api_Hold_api_Hold_spec {α : Type} : FunSpec α := slices_EqualFunc_api_Hold_api_Hold_api_Hold_api_Hold_sp slices_EqualFunc_api_Hold_api_Hold_api_Hold_api_Hold

noncomputable def slices_EqualFunc_api_Hold_api_Hold_api_Hold_api_Hold_C {α : Type} (holds_Same_1 : holds_Same_1_T α) : List (FunSpec α) := [holds_Same_1_sp holds_Same_1]

noncomputable def slices_EqualFunc_api_Hold_api_Hold_api_Hold_api_Hold_q : FuncId → Bool := fun f => Nat.beq f 71

noncomputable def slices_EqualFunc_api_Hold_api_Hold_api_Hold_api_Hold_inl : FuncId → Bool := fun f => false

noncomputable def slices_EqualFunc_api_Hold_api_Hold_api_Hold_api_Hold_ann : FuncId → AnnT := fun f p => if f = 70 then (if p = [true, false, true, true] then ⟨[1, 2, 15, 16, 17], [], [], [6], 0, [], [], none⟩ else ⟨[], [], [], [], 0, [], [], none⟩) else ⟨[], [], [], [], 0, [], [], none⟩

noncomputable def slices_EqualFunc_api_Hold_api_Hold_api_Hold_api_Hold_l0_t : List Sh := [.dead, .sl (.int .i64 (.sl (.str (.int .i64 (.nil))) (.int .i64 (.nil)))), .func (.func 71) [] [], .dead, .dead, .dead, .dead, .dead, .dead, .dead, .dead, .dead, .dead, .dead, .dead, .sl (.int .i64 (.sl (.str (.int .i64 (.nil))) (.int .i64 (.nil)))), .int .i64, .int .i64, .dead, .dead, .dead, .dead, .dead, .dead, .dead, .dead, .dead, .dead, .dead, .dead, .dead, .dead]
noncomputable def slices_EqualFunc_api_Hold_api_Hold_api_Hold_api_Hold_l0_s : List (List Sh) := []
noncomputable def slices_EqualFunc_api_Hold_api_Hold_api_Hold_api_Hold_l0_h : List BSh := []

noncomputable def slices_EqualFunc_api_Hold_api_Hold_api_Hold_api_Hold_l0_spec {α : Type} (holds_Same_1 : holds_Same_1_T α) : LoopSpec α := ⟨6, 70, [true, false, true, true], slices_EqualFunc_api_Hold_api_Hold_api_Hold_api_Hold_l0_t, slices_EqualFunc_api_Hold_api_Hold_api_Hold_api_Hold_l0_s, slices_EqualFunc_api_Hold_api_Hold_api_Hold_api_Hold_l0_h, fun ds k => slices_EqualFunc_api_Hold_api_Hold_api_Hold_api_Hold_l0_run holds_Same_1 (fun y1 => k .ret (encSt [.dead, .dead, .dead, .dead, .dead, .dead, .bool, .dead, .dead, .dead, .dead, .dead, .dead, .dead, .dead, .dead, .dead, .dead, .dead, .dead, .dead, .dead, .dead, .dead, .dead, .dead, .dead, .dead, .dead, .dead, .dead, .dead] [] [] [.b y1])) (k (.exit 0) (encSt [.dead, .dead, .dead, .dead, .dead, .dead, .dead, .dead, .dead, .dead, .dead, .dead, .dead, .dead, .dead, .dead, .dead, .dead, .dead, .dead, .dead, .dead, .dead, .dead, .dead, .dead, .dead, .dead, .dead, .dead, .dead, .dead] [] [] [])) 1000 (hdQ (.int .i64 (.sl (.str (.int .i64 (.nil))) (.int .i64 (.nil)))) ds) (hdQ (.int .i64 (.sl (.str (.int .i64 (.nil))) (.int .i64 (.nil)))) ds.tail) (hdI ds.tail.tail) (hdI ds.tail.tail.tail)⟩

noncomputable def slices_EqualFunc_api_Hold_api_Hold_api_Hold_api_Hold_loops {α : Type} (holds_Same_1 : holds_Same_1_T α) : List (LoopSpec α) := [slices_EqualFunc_api_Hold_api_Hold_api_Hold_api_Hold_l0_spec holds_Same_1]

noncomputable def slices_EqualFunc_api_Hold_api_Hold_api_Hold_api_Hold_l0_ev {α : Type} (holds_Same_1 : holds_Same_1_T α) (n : Nat) (st : St) (k : X → St → Option α) : Option α := loopN (evCode Go.Proofs.Tryd.prog (callD Go.Proofs.Tryd.prog (envOf (slices_EqualFunc_api_Hold_api_Hold_api_Hold_api_Hold_C holds_Same_1) slices_EqualFunc_api_Hold_api_Hold_api_Hold_api_Hold_q slices_EqualFunc_api_Hold_api_Hold_api_Hold_api_Hold_inl 1000 slices_EqualFunc_api_Hold_api_Hold_api_Hold_api_Hold_ann false (slices_EqualFunc_api_Hold_api_Hold_api_Hold_api_Hold_loops holds_Same_1) (fun _ => none)) 6) (((envOf (slices_EqualFunc_api_Hold_api_Hold_api_Hold_api_Hold_C holds_Same_1) slices_EqualFunc_api_Hold_api_Hold_api_Hold_api_Hold_q slices_EqualFunc_api_Hold_api_Hold_api_Hold_api_Hold_inl 1000 slices_EqualFunc_api_Hold_api_Hold_api_Hold_api_Hold_ann false (slices_EqualFunc_api_Hold_api_Hold_api_Hold_api_Hold_loops holds_Same_1) (fun _ => none)) : Env α).L 6 70) 1000 (slices_EqualFunc_api_Hold_api_Hold_api_Hold_api_Hold_ann 70) (false :: [true, false, true, true]) (loopC Go.Proofs.Tryd.prog 70 [true, false, true, true])) ((slices_EqualFunc_api_Hold_api_Hold_api_Hold_api_Hold_ann 70 [true, false, true, true]).head 0) ((slices_EqualFunc_api_Hold_api_Hold_api_Hold_api_Hold_ann 70 [true, false, true, true]).leave 0) n st k

theorem slices_EqualFunc_api_Hold_api_Hold_api_Hold_api_Hold_l0_eq {α : Type} (holds_Same_1 : holds_Same_1_T α) : ∀ (n : Nat) (x3 : Seq (Int × (Seq (ByteArray × Int × Unit)) × Int × Unit)) (x4 : Seq (Int × (Seq (ByteArray × Int × Unit)) × Int × Unit)) (x5 : Int) (x6 : Int) (k : X → St → Option α), slices_EqualFunc_api_Hold_api_Hold_api_Hold_api_Hold_l0_ev holds_Same_1 n (encSt slices_EqualFunc_api_Hold_api_Hold_api_Hold_api_Hold_l0_t slices_EqualFunc_api_Hold_api_Hold_api_Hold_api_Hold_l0_s slices_EqualFunc_api_Hold_api_Hold_api_Hold_api_Hold_l0_h [.q (.int .i64 (.sl (.str (.int .i64 (.nil))) (.int .i64 (.nil)))) x3, .q (.int .i64 (.sl (.str (.int .i64 (.nil))) (.int .i64 (.nil)))) x4, .i x5, .i x6]) k = slices_EqualFunc_api_Hold_api_Hold_api_Hold_api_Hold_l0_run holds_Same_1 (fun y1 => k .ret (encSt [.dead, .dead, .dead, .dead, .dead, .dead, .bool, .dead, .dead, .dead, .dead, .dead, .dead, .dead, .dead, .dead, .dead, .dead, .dead, .dead, .dead, .dead, .dead, .dead, .dead, .dead, .dead, .dead, .dead, .dead, .dead, .dead] [] [] [.b y1])) (k (.exit 0) (encSt [.dead, .dead, .dead, .dead, .dead, .dead, .dead, .dead, .dead, .dead, .dead, .dead, .dead, .dead, .dead, .dead, .dead, .dead, .dead, .dead, .dead, .dead, .dead, .dead, .dead, .dead, .dead, .dead, .dead, .dead, .dead, .dead] [] [] [])) n x3 x4 x5 x6 := by
  intro n
  induction n with
  | zero => intros; kernel_rfl
  | succ n ih =>
    intro x3 x4 x5 x6 k
    have e : (fun (x3 : Seq (Int × (Seq (ByteArray × Int × Unit)) × Int × Unit)) (x4 : Seq (Int × (Seq (ByteArray × Int × Unit)) × Int × Unit)) (x5 : Int) (x6 : Int) => slices_EqualFunc_api_Hold_api_Hold_api_Hold_api_Hold_l0_ev holds_Same_1 n (encSt slices_EqualFunc_api_Hold_api_Hold_api_Hold_api_Hold_l0_t slices_EqualFunc_api_Hold_api_Hold_api_Hold_api_Hold_l0_s slices_EqualFunc_api_Hold_api_Hold_api_Hold_api_Hold_l0_h [.q (.int .i64 (.sl (.str (.int .i64 (.nil))) (.int .i64 (.nil)))) x3, .q (.int .i64 (.sl (.str (.int .i64 (.nil))) (.int .i64 (.nil)))) x4, .i x5, .i x6]) k) = (fun (x3 : Seq (Int × (Seq (ByteArray × Int × Unit)) × Int × Unit)) (x4 : Seq (Int × (Seq (ByteArray × Int × Unit)) × Int × Unit)) (x5 : Int) (x6 : Int) => slices_EqualFunc_api_Hold_api_Hold_api_Hold_api_Hold_l0_run holds_Same_1 (fun y1 => k .ret (encSt [.dead, .dead, .dead, .dead, .dead, .dead, .bool, .dead, .dead, .dead, .dead, .dead, .dead, .dead, .dead, .dead, .dead, .dead, .dead, .dead, .dead, .dead, .dead, .dead, .dead, .dead, .dead, .dead, .dead, .dead, .dead, .dead] [] [] [.b y1])) (k (.exit 0) (encSt [.dead, .dead, .dead, .dead, .dead, .dead, .dead, .dead, .dead, .dead, .dead, .dead, .dead, .dead, .dead, .dead, .dead, .dead, .dead, .dead, .dead, .dead, .dead, .dead, .dead, .dead, .dead, .dead, .dead, .dead, .dead, .dead] [] [] [])) n x3 x4 x5 x6) := by
      funext x3 x4 x5 x6
      exact ih x3 x4 x5 x6 k
    have h1 : slices_EqualFunc_api_Hold_api_Hold_api_Hold_api_Hold_l0_ev holds_Same_1 (n + 1) (encSt slices_EqualFunc_api_Hold_api_Hold_api_Hold_api_Hold_l0_t slices_EqualFunc_api_Hold_api_Hold_api_Hold_api_Hold_l0_s slices_EqualFunc_api_Hold_api_Hold_api_Hold_api_Hold_l0_h [.q (.int .i64 (.sl (.str (.int .i64 (.nil))) (.int .i64 (.nil)))) x3, .q (.int .i64 (.sl (.str (.int .i64 (.nil))) (.int .i64 (.nil)))) x4, .i x5, .i x6]) k = slices_EqualFunc_api_Hold_api_Hold_api_Hold_api_Hold_l0_step holds_Same_1 (fun y1 => k .ret (encSt [.dead, .dead, .dead, .dead, .dead, .dead, .bool, .dead, .dead, .dead, .dead, .dead, .dead, .dead, .dead, .dead, .dead, .dead, .dead, .dead, .dead, .dead, .dead, .dead, .dead, .dead, .dead, .dead, .dead, .dead, .dead, .dead] [] [] [.b y1])) (k (.exit 0) (encSt [.dead, .dead, .dead, .dead, .dead, .dead, .dead, .dead, .dead, .dead, .dead, .dead, .dead, .dead, .dead, .dead, .dead, .dead, .dead, .dead, .dead, .dead, .dead, .dead, .dead, .dead, .dead, .dead, .dead, .dead, .dead, .dead] [] [] [])) (fun (x3 : Seq (Int × (Seq (ByteArray × Int × Unit)) × Int × Unit)) (x4 : Seq (Int × (Seq (ByteArray × Int × Unit)) × Int × Unit)) (x5 : Int) (x6 : Int) => slices_EqualFunc_api_Hold_api_Hold_api_Hold_api_Hold_l0_ev holds_Same_1 n (encSt slices_EqualFunc_api_Hold_api_Hold_api_Hold_api_Hold_l0_t slices_EqualFunc_api_Hold_api_Hold_api_Hold_api_Hold_l0_s slices_EqualFunc_api_Hold_api_Hold_api_Hold_api_Hold_l0_h [.q (.int .i64 (.sl (.str (.int .i64 (.nil))) (.int .i64 (.nil)))) x3, .q (.int .i64 (.sl (.str (.int .i64 (.nil))) (.int .i64 (.nil)))) x4, .i x5, .i x6]) k) x3 x4 x5 x6 := by kernel_rfl
    have h2 := congrArg (fun r => slices_EqualFunc_api_Hold_api_Hold_api_Hold_api_Hold_l0_step holds_Same_1 (fun y1 => k .ret (encSt [.dead, .dead, .dead, .dead, .dead, .dead, .bool, .dead, .dead, .dead, .dead, .dead, .dead, .dead, .dead, .dead, .dead, .dead, .dead, .dead, .dead, .dead, .dead, .dead, .dead, .dead, .dead, .dead, .dead, .dead, .dead, .dead] [] [] [.b y1])) (k (.exit 0) (encSt [.dead, .dead, .dead, .dead, .dead, .dead, .dead, .dead, .dead, .dead, .dead, .dead, .dead, .dead, .dead, .dead, .dead, .dead, .dead, .dead, .dead, .dead, .dead, .dead, .dead, .dead, .dead, .dead, .dead, .dead, .dead, .dead] [] [] [])) r x3 x4 x5 x6) e
    have h3 : slices_EqualFunc_api_Hold_api_Hold_api_Hold_api_Hold_l0_step holds_Same_1 (fun y1 => k .ret (encSt [.dead, .dead, .dead, .dead, .dead, .dead, .bool, .dead, .dead, .dead, .dead, .dead, .dead, .dead, .dead, .dead, .dead, .dead, .dead, .dead, .dead, .dead, .dead, .dead, .dead, .dead, .dead, .dead, .dead, .dead, .dead, .dead] [] [] [.b y1])) (k (.exit 0) (encSt [.dead, .dead, .dead, .dead, .dead, .dead, .dead, .dead, .dead, .dead, .dead, .dead, .dead, .dead, .dead, .dead, .dead, .dead, .dead, .dead, .dead, .dead, .dead, .dead, .dead, .dead, .dead, .dead, .dead, .dead, .dead, .dead] [] [] [])) (fun (x3 : Seq (Int × (Seq (ByteArray × Int × Unit)) × Int × Unit)) (x4 : Seq (Int × (Seq (ByteArray × Int × Unit)) × Int × Unit)) (x5 : Int) (x6 : Int) => slices_EqualFunc_api_Hold_api_Hold_api_Hold_api_Hold_l0_run holds_Same_1 (fun y1 => k .ret (encSt [.dead, .dead, .dead, .dead, .dead, .dead, .bool, .dead, .dead, .dead, .dead, .dead, .dead, .dead, .dead, .dead, .dead, .dead, .dead, .dead, .dead, .dead, .dead, .dead, .dead, .dead, .dead, .dead, .dead, .dead, .dead, .dead] [] [] [.b y1])) (k (.exit 0) (encSt [.dead, .dead, .dead, .dead, .dead, .dead, .dead, .dead, .dead, .dead, .dead, .dead, .dead, .dead, .dead, .dead, .dead, .dead, .dead, .dead, .dead, .dead, .dead, .dead, .dead, .dead, .dead, .dead, .dead, .dead, .dead, .dead] [] [] [])) n x3 x4 x5 x6) x3 x4 x5 x6 = slices_EqualFunc_api_Hold_api_Hold_api_Hold_api_Hold_l0_run holds_Same_1 (fun y1 => k .ret (encSt [.dead, .dead, .dead, .dead, .dead, .dead, .bool, .dead, .dead, .dead, .dead, .dead, .dead, .dead, .dead, .dead, .dead, .dead, .dead, .dead, .dead, .dead, .dead, .dead, .dead, .dead, .dead, .dead, .dead, .dead, .dead, .dead] [] [] [.b y1])) (k (.exit 0) (encSt [.dead, .dead, .dead, .dead, .dead, .dead, .dead, .dead, .dead, .dead, .dead, .dead, .dead, .dead, .dead, .dead, .dead, .dead, .dead, .dead, .dead, .dead, .dead, .dead, .dead, .dead, .dead, .dead, .dead, .dead, .dead, .dead] [] [] [])) (n + 1) x3 x4 x5 x6 := by kernel_rfl
    exact h1.trans (h2.trans h3)

theorem slices_EqualFunc_api_Hold_api_Hold_api_Hold_api_Hold_l0_ok {α : Type} (holds_Same_1 : holds_Same_1_T α) : (slices_EqualFunc_api_Hold_api_Hold_api_Hold_api_Hold_l0_spec holds_Same_1 : LoopSpec α).ok Go.Proofs.Tryd.prog (envOf (slices_EqualFunc_api_Hold_api_Hold_api_Hold_api_Hold_C holds_Same_1) slices_EqualFunc_api_Hold_api_Hold_api_Hold_api_Hold_q slices_EqualFunc_api_Hold_api_Hold_api_Hold_api_Hold_inl 1000 slices_EqualFunc_api_Hold_api_Hold_api_Hold_api_Hold_ann false (slices_EqualFunc_api_Hold_api_Hold_api_Hold_api_Hold_loops holds_Same_1) (fun _ => none)) := by
  intro ds k
  have h1 : slices_EqualFunc_api_Hold_api_Hold_api_Hold_api_Hold_l0_ev holds_Same_1 1000 (encSt slices_EqualFunc_api_Hold_api_Hold_api_Hold_api_Hold_l0_t slices_EqualFunc_api_Hold_api_Hold_api_Hold_api_Hold_l0_s slices_EqualFunc_api_Hold_api_Hold_api_Hold_api_Hold_l0_h ds) k = slices_EqualFunc_api_Hold_api_Hold_api_Hold_api_Hold_l0_ev holds_Same_1 1000 (encSt slices_EqualFunc_api_Hold_api_Hold_api_Hold_api_Hold_l0_t slices_EqualFunc_api_Hold_api_Hold_api_Hold_api_Hold_l0_s slices_EqualFunc_api_Hold_api_Hold_api_Hold_api_Hold_l0_h [.q (.int .i64 (.sl (.str (.int .i64 (.nil))) (.int .i64 (.nil)))) (hdQ (.int .i64 (.sl (.str (.int .i64 (.nil))) (.int .i64 (.nil)))) ds), .q (.int .i64 (.sl (.str (.int .i64 (.nil))) (.int .i64 (.nil)))) (hdQ (.int .i64 (.sl (.str (.int .i64 (.nil))) (.int .i64 (.nil)))) ds.tail), .i (hdI ds.tail.tail), .i (hdI ds.tail.tail.tail)]) k := by kernel_rfl
  have h2 := slices_EqualFunc_api_Hold_api_Hold_api_Hold_api_Hold_l0_eq holds_Same_1 1000 (hdQ (.int .i64 (.sl (.str (.int .i64 (.nil))) (.int .i64 (.nil)))) ds) (hdQ (.int .i64 (.sl (.str (.int .i64 (.nil))) (.int .i64 (.nil)))) ds.tail) (hdI ds.tail.tail) (hdI ds.tail.tail.tail) k
  exact h1.trans h2

theorem slices_EqualFunc_api_Hold_api_Hold_api_Hold_api_Hold_ev {α : Type} (holds_Same_1 : holds_Same_1_T α) : EvOk (α := α) Go.Proofs.Tryd.prog (envOf (slices_EqualFunc_api_Hold_api_Hold_api_Hold_api_Hold_C holds_Same_1) slices_EqualFunc_api_Hold_api_Hold_api_Hold_api_Hold_q slices_EqualFunc_api_Hold_api_Hold_api_Hold_api_Hold_inl 1000 slices_EqualFunc_api_Hold_api_Hold_api_Hold_api_Hold_ann false (slices_EqualFunc_api_Hold_api_Hold_api_Hold_api_Hold_loops holds_Same_1) (fun _ => none)) 6 (slices_EqualFunc_api_Hold_api_Hold_api_Hold_api_Hold_sp (slices_EqualFunc_api_Hold_api_Hold_api_Hold_api_Hold_g holds_Same_1)) := by intro ds k; kernel_rfl

theorem slices_EqualFunc_api_Hold_api_Hold_api_Hold_api_Hold_ok {α : Type} : (slices_EqualFunc_api_Hold_api_Hold_api_Hold_api_Hold_spec : FunSpec α).ok Go.Proofs.Tryd.prog :=
  FunSpec.ok_of (sp := slices_EqualFunc_api_Hold_api_Hold_api_Hold_api_Hold_spec) (C := slices_EqualFunc_api_Hold_api_Hold_api_Hold_api_Hold_C holds_Same_1) (q := slices_EqualFunc_api_Hold_api_Hold_api_Hold_api_Hold_q) (inl := slices_EqualFunc_api_Hold_api_Hold_api_Hold_api_Hold_inl) (N := 1000) (ann := slices_EqualFunc_api_Hold_api_Hold_api_Hold_api_Hold_ann) (fr := false) (D := 6) (l := (slices_EqualFunc_api_Hold_api_Hold_api_Hold_api_Hold_loops holds_Same_1)) (hk := (fun _ => none)) (okCons holds_Same_1_ok okNil) (lokCons (slices_EqualFunc_api_Hold_api_Hold_api_Hold_api_Hold_l0_ok holds_Same_1) lokNil) noHooks (slices_EqualFunc_api_Hold_api_Hold_api_Hold_api_Hold_ev holds_Same_1)

end
end Go.Rv.Tryd

set_option linter.unusedVariables false
set_option maxRecDepth 100000
set_option maxHeartbeats 4000000
namespace Go.Rv.Tryd
open Go Go.Rv Go.RowKit
noncomputable section

-- drayman/holds.Same

abbrev holds_Same_T (α : Type) : Type := (Seq (Int × (Seq (ByteArray × Int × Unit)) × Int × Unit)) → (Seq (Int × (Seq (ByteArray × Int × Unit)) × Int × Unit)) → (Bool → Option α) → Option α

noncomputable def holds_Same_g {α : Type} (slices_EqualFunc_api_Hold_api_Hold_api_Hold_api_Hold : slices_EqualFunc_api_Hold_api_Hold_api_Hold_api_Hold_T α) (a1 : Seq (Int × (Seq (ByteArray × Int × Unit)) × Int × Unit)) (b2 : Seq (Int × (Seq (ByteArray × Int × Unit)) × Int × Unit)) (k : Bool → Option α) : Option α :=
  (slices_EqualFunc_api_Hold_api_Hold_api_Hold_api_Hold a1 b2 fun r3 =>
    (k r3))

noncomputable def holds_Same {α : Type} : holds_Same_T α := holds_Same_g slices_EqualFunc_api_Hold_api_Hold_api_Hold_api_Hold

noncomputable def holds_Same_sp {α : Type} (holds_Same : holds_Same_T α) : FunSpec α := ⟨39, [.sl (.int .i64 (.sl (.str (.int .i64 (.nil))) (.int .i64 (.nil)))), .sl (.int .i64 (.sl (.str (.int .i64 (.nil))) (.int .i64 (.nil))))], [], fun ds k => holds_Same (hdQ (.int .i64 (.sl (.str (.int .i64 (.nil))) (.int .i64 (.nil)))) ds) (hdQ (.int .i64 (.sl (.str (.int .i64 (.nil))) (.int .i64 (.nil)))) ds.tail) (fun r1 => k (enc dep (.bool) [.b r1]).1 [])⟩

noncomputable def holds_Same_spec {α : Type} : FunSpec α := holds_Same_sp holds_Same

noncomputable def holds_Same_C {α : Type} (slices_EqualFunc_api_Hold_api_Hold_api_Hold_api_Hold : slices_EqualFunc_api_Hold_api_Hold_api_Hold_api_Hold_T α) : List (FunSpec α) := [slices_EqualFunc_api_Hold_api_Hold_api_Hold_api_Hold_sp slices_EqualFunc_api_Hold_api_Hold_api_Hold_api_Hold]

noncomputable def holds_Same_q : FuncId → Bool := fun f => Nat.beq f 70

noncomputable def holds_Same_inl : FuncId → Bool := fun f => false

noncomputable def holds_Same_ann : FuncId → AnnT := fun f p => ⟨[], [], [], [], 0, [], [], none⟩

noncomputable def holds_Same_loops {α : Type} (slices_EqualFunc_api_Hold_api_Hold_api_Hold_api_Hold : slices_EqualFunc_api_Hold_api_Hold_api_Hold_api_Hold_T α) : List (LoopSpec α) := []

theorem holds_Same_ev {α : Type} (slices_EqualFunc_api_Hold_api_Hold_api_Hold_api_Hold : slices_EqualFunc_api_Hold_api_Hold_api_Hold_api_Hold_T α) : EvOk (α := α) Go.Proofs.Tryd.prog (envOf (holds_Same_C slices_EqualFunc_api_Hold_api_Hold_api_Hold_api_Hold) holds_Same_q holds_Same_inl 1000 holds_Same_ann false (holds_Same_loops slices_EqualFunc_api_Hold_api_Hold_api_Hold_api_Hold) (fun _ => none)) 6 (holds_Same_sp (holds_Same_g slices_EqualFunc_api_Hold_api_Hold_api_Hold_api_Hold)) := by intro ds k; kernel_rfl

theorem holds_Same_ok {α : Type} : (holds_Same_spec : FunSpec α).ok Go.Proofs.Tryd.prog :=
  FunSpec.ok_of (sp := holds_Same_spec) (C := holds_Same_C slices_EqualFunc_api_Hold_api_Hold_api_Hold_api_Hold) (q := holds_Same_q) (inl := holds_Same_inl) (N := 1000) (ann := holds_Same_ann) (fr := false) (D := 6) (l := (holds_Same_loops slices_EqualFunc_api_Hold_api_Hold_api_Hold_api_Hold)) (hk := (fun _ => none)) (okCons slices_EqualFunc_api_Hold_api_Hold_api_Hold_api_Hold_ok okNil) lokNil noHooks (holds_Same_ev slices_EqualFunc_api_Hold_api_Hold_api_Hold_api_Hold)

end
end Go.Rv.Tryd

set_option linter.unusedVariables false
set_option maxRecDepth 100000
set_option maxHeartbeats 4000000
namespace Go.Rv.Tryd
open Go Go.Rv Go.RowKit
noncomputable section

-- drayman/draymanref11.Of

abbrev draymanref11_Of_T (α : Type) : Type := (Seq (ByteArray × Int × Unit)) → ByteArray → (Int → Option α) → Option α

noncomputable def draymanref11_Of_l0_step {α : Type} (kr : (Int) → Option α) (k0 : Option α) (rec : (Seq (ByteArray × Int × Unit)) → (ByteArray) → (Int) → Option α) (l3 : Seq (ByteArray × Int × Unit)) (sku4 : ByteArray) (i5 : Int) : Option α :=
  (cond (decide (i5 < (l3.n : Int)))
    (cond ((decide ((0 : Int) ≤ i5)) && (decide (i5 < (l3.n : Int))))
      (cond ((l3.g i5.toNat).1.toList == sku4.toList)
        (cond ((decide ((0 : Int) ≤ i5)) && (decide (i5 < (l3.n : Int))))
          (kr ((l3.g i5.toNat).2.1))
          none)
        (rec l3 sku4 (IntKind.i64.wrap (i5 + 1))))
      none)
    (k0))

noncomputable def draymanref11_Of_l0_run {α : Type} (kr : (Int) → Option α) (k0 : Option α) : Nat → (Seq (ByteArray × Int × Unit)) → (ByteArray) → (Int) → Option α
  | 0, _, _, _ => none
  | n + 1, l3, sku4, i5 => draymanref11_Of_l0_step kr k0 (fun l3 sku4 i5 => draymanref11_Of_l0_run kr k0 n l3 sku4 i5) l3 sku4 i5

noncomputable def draymanref11_Of {α : Type} (l1 : Seq (ByteArray × Int × Unit)) (sku2 : ByteArray) (k : Int → Option α) : Option α :=
  (draymanref11_Of_l0_run
    (fun x6 =>
      (k x6))
    ((k 0))
    1000 l1 sku2 0)

noncomputable def draymanref11_Of_sp {α : Type} (draymanref11_Of : draymanref11_Of_T α) : FunSpec α := ⟨40, [.sl (.str (.int .i64 (.nil))), .str], [], fun ds k => draymanref11_Of (hdQ (.str (.int .i64 (.nil))) ds) (hdS ds.tail) (fun r1 => k (enc dep (.int .i64) [.i r1]).1 [])⟩

noncomputable def draymanref11_Of_spec {α : Type} : FunSpec α := draymanref11_Of_sp draymanref11_Of

noncomputable def draymanref11_Of_C {α : Type} : List (FunSpec α) := []

noncomputable def draymanref11_Of_q : FuncId → Bool := fun f => false

noncomputable def draymanref11_Of_inl : FuncId → Bool := fun f => false

noncomputable def draymanref11_Of_ann : FuncId → AnnT := fun f p => if f = 40 then (if p = [true, false, true] then ⟨[0, 1, 5], [], [], [4], 0, [], [], none⟩ else ⟨[], [], [], [], 0, [], [], none⟩) else ⟨[], [], [], [], 0, [], [], none⟩

noncomputable def draymanref11_Of_l0_t : List Sh := [.sl (.str (.int .i64 (.nil))), .str, .dead, .dead, .dead, .int .i64, .dead, .dead, .dead, .dead, .dead, .dead, .dead, .dead, .dead, .dead, .dead, .dead, .dead, .dead, .dead, .dead, .dead, .dead]
noncomputable def draymanref11_Of_l0_s : List (List Sh) := []
noncomputable def draymanref11_Of_l0_h : List BSh := []

noncomputable def draymanref11_Of_l0_spec {α : Type} : LoopSpec α := ⟨6, 40, [true, false, true], draymanref11_Of_l0_t, draymanref11_Of_l0_s, draymanref11_Of_l0_h, fun ds k => draymanref11_Of_l0_run (fun y1 => k .ret (encSt [.dead, .dead, .dead, .dead, .int .i64, .dead, .dead, .dead, .dead, .dead, .dead, .dead, .dead, .dead, .dead, .dead, .dead, .dead, .dead, .dead, .dead, .dead, .dead, .dead] [] [] [.i y1])) (k (.exit 0) (encSt [.dead, .dead, .dead, .dead, .dead, .dead, .dead, .dead, .dead, .dead, .dead, .dead, .dead, .dead, .dead, .dead, .dead, .dead, .dead, .dead, .dead, .dead, .dead, .dead] [] [] [])) 1000 (hdQ (.str (.int .i64 (.nil))) ds) (hdS ds.tail) (hdI ds.tail.tail)⟩

noncomputable def draymanref11_Of_loops {α : Type} : List (LoopSpec α) := [draymanref11_Of_l0_spec]

noncomputable def draymanref11_Of_l0_ev {α : Type} (n : Nat) (st : St) (k : X → St → Option α) : Option α := loopN (evCode Go.Proofs.Tryd.prog (callD Go.Proofs.Tryd.prog (envOf (draymanref11_Of_C) draymanref11_Of_q draymanref11_Of_inl 1000 draymanref11_Of_ann false (draymanref11_Of_loops) (fun _ => none)) 6) (((envOf (draymanref11_Of_C) draymanref11_Of_q draymanref11_Of_inl 1000 draymanref11_Of_ann false (draymanref11_Of_loops) (fun _ => none)) : Env α).L 6 40) 1000 (draymanref11_Of_ann 40) (false :: [true, false, true]) (loopC Go.Proofs.Tryd.prog 40 [true, false, true])) ((draymanref11_Of_ann 40 [true, false, true]).head 0) ((draymanref11_Of_ann 40 [true, false, true]).leave 0) n st k

theorem draymanref11_Of_l0_eq {α : Type} : ∀ (n : Nat) (l3 : Seq (ByteArray × Int × Unit)) (sku4 : ByteArray) (i5 : Int) (k : X → St → Option α), draymanref11_Of_l0_ev n (encSt draymanref11_Of_l0_t draymanref11_Of_l0_s draymanref11_Of_l0_h [.q (.str (.int .i64 (.nil))) l3, .s sku4, .i i5]) k = draymanref11_Of_l0_run (fun y1 => k .ret (encSt [.dead, .dead, .dead, .dead, .int .i64, .dead, .dead, .dead, .dead, .dead, .dead, .dead, .dead, .dead, .dead, .dead, .dead, .dead, .dead, .dead, .dead, .dead, .dead, .dead] [] [] [.i y1])) (k (.exit 0) (encSt [.dead, .dead, .dead, .dead, .dead, .dead, .dead, .dead, .dead, .dead, .dead, .dead, .dead, .dead, .dead, .dead, .dead, .dead, .dead, .dead, .dead, .dead, .dead, .dead] [] [] [])) n l3 sku4 i5 := by
  intro n
  induction n with
  | zero => intros; kernel_rfl
  | succ n ih =>
    intro l3 sku4 i5 k
    have e : (fun (l3 : Seq (ByteArray × Int × Unit)) (sku4 : ByteArray) (i5 : Int) => draymanref11_Of_l0_ev n (encSt draymanref11_Of_l0_t draymanref11_Of_l0_s draymanref11_Of_l0_h [.q (.str (.int .i64 (.nil))) l3, .s sku4, .i i5]) k) = (fun (l3 : Seq (ByteArray × Int × Unit)) (sku4 : ByteArray) (i5 : Int) => draymanref11_Of_l0_run (fun y1 => k .ret (encSt [.dead, .dead, .dead, .dead, .int .i64, .dead, .dead, .dead, .dead, .dead, .dead, .dead, .dead, .dead, .dead, .dead, .dead, .dead, .dead, .dead, .dead, .dead, .dead, .dead] [] [] [.i y1])) (k (.exit 0) (encSt [.dead, .dead, .dead, .dead, .dead, .dead, .dead, .dead, .dead, .dead, .dead, .dead, .dead, .dead, .dead, .dead, .dead, .dead, .dead, .dead, .dead, .dead, .dead, .dead] [] [] [])) n l3 sku4 i5) := by
      funext l3 sku4 i5
      exact ih l3 sku4 i5 k
    have h1 : draymanref11_Of_l0_ev (n + 1) (encSt draymanref11_Of_l0_t draymanref11_Of_l0_s draymanref11_Of_l0_h [.q (.str (.int .i64 (.nil))) l3, .s sku4, .i i5]) k = draymanref11_Of_l0_step (fun y1 => k .ret (encSt [.dead, .dead, .dead, .dead, .int .i64, .dead, .dead, .dead, .dead, .dead, .dead, .dead, .dead, .dead, .dead, .dead, .dead, .dead, .dead, .dead, .dead, .dead, .dead, .dead] [] [] [.i y1])) (k (.exit 0) (encSt [.dead, .dead, .dead, .dead, .dead, .dead, .dead, .dead, .dead, .dead, .dead, .dead, .dead, .dead, .dead, .dead, .dead, .dead, .dead, .dead, .dead, .dead, .dead, .dead] [] [] [])) (fun (l3 : Seq (ByteArray × Int × Unit)) (sku4 : ByteArray) (i5 : Int) => draymanref11_Of_l0_ev n (encSt draymanref11_Of_l0_t draymanref11_Of_l0_s draymanref11_Of_l0_h [.q (.str (.int .i64 (.nil))) l3, .s sku4, .i i5]) k) l3 sku4 i5 := by kernel_rfl
    have h2 := congrArg (fun r => draymanref11_Of_l0_step (fun y1 => k .ret (encSt [.dead, .dead, .dead, .dead, .int .i64, .dead, .dead, .dead, .dead, .dead, .dead, .dead, .dead, .dead, .dead, .dead, .dead, .dead, .dead, .dead, .dead, .dead, .dead, .dead] [] [] [.i y1])) (k (.exit 0) (encSt [.dead, .dead, .dead, .dead, .dead, .dead, .dead, .dead, .dead, .dead, .dead, .dead, .dead, .dead, .dead, .dead, .dead, .dead, .dead, .dead, .dead, .dead, .dead, .dead] [] [] [])) r l3 sku4 i5) e
    have h3 : draymanref11_Of_l0_step (fun y1 => k .ret (encSt [.dead, .dead, .dead, .dead, .int .i64, .dead, .dead, .dead, .dead, .dead, .dead, .dead, .dead, .dead, .dead, .dead, .dead, .dead, .dead, .dead, .dead, .dead, .dead, .dead] [] [] [.i y1])) (k (.exit 0) (encSt [.dead, .dead, .dead, .dead, .dead, .dead, .dead, .dead, .dead, .dead, .dead, .dead, .dead, .dead, .dead, .dead, .dead, .dead, .dead, .dead, .dead, .dead, .dead, .dead] [] [] [])) (fun (l3 : Seq (ByteArray × Int × Unit)) (sku4 : ByteArray) (i5 : Int) => draymanref11_Of_l0_run (fun y1 => k .ret (encSt [.dead, .dead, .dead, .dead, .int .i64, .dead, .dead, .dead, .dead, .dead, .dead, .dead, .dead, .dead, .dead, .dead, .dead, .dead, .dead, .dead, .dead, .dead, .dead, .dead] [] [] [.i y1])) (k (.exit 0) (encSt [.dead, .dead, .dead, .dead, .dead, .dead, .dead, .dead, .dead, .dead, .dead, .dead, .dead, .dead, .dead, .dead, .dead, .dead, .dead, .dead, .dead, .dead, .dead, .dead] [] [] [])) n l3 sku4 i5) l3 sku4 i5 = draymanref11_Of_l0_run (fun y1 => k .ret (encSt [.dead, .dead, .dead, .dead, .int .i64, .dead, .dead, .dead, .dead, .dead, .dead, .dead, .dead, .dead, .dead, .dead, .dead, .dead, .dead, .dead, .dead, .dead, .dead, .dead] [] [] [.i y1])) (k (.exit 0) (encSt [.dead, .dead, .dead, .dead, .dead, .dead, .dead, .dead, .dead, .dead, .dead, .dead, .dead, .dead, .dead, .dead, .dead, .dead, .dead, .dead, .dead, .dead, .dead, .dead] [] [] [])) (n + 1) l3 sku4 i5 := by kernel_rfl
    exact h1.trans (h2.trans h3)

theorem draymanref11_Of_l0_ok {α : Type} : (draymanref11_Of_l0_spec : LoopSpec α).ok Go.Proofs.Tryd.prog (envOf (draymanref11_Of_C) draymanref11_Of_q draymanref11_Of_inl 1000 draymanref11_Of_ann false (draymanref11_Of_loops) (fun _ => none)) := by
  intro ds k
  have h1 : draymanref11_Of_l0_ev 1000 (encSt draymanref11_Of_l0_t draymanref11_Of_l0_s draymanref11_Of_l0_h ds) k = draymanref11_Of_l0_ev 1000 (encSt draymanref11_Of_l0_t draymanref11_Of_l0_s draymanref11_Of_l0_h [.q (.str (.int .i64 (.nil))) (hdQ (.str (.int .i64 (.nil))) ds), .s (hdS ds.tail), .i (hdI ds.tail.tail)]) k := by kernel_rfl
  have h2 := draymanref11_Of_l0_eq 1000 (hdQ (.str (.int .i64 (.nil))) ds) (hdS ds.tail) (hdI ds.tail.tail) k
  exact h1.trans h2

theorem draymanref11_Of_ev {α : Type} : EvOk (α := α) Go.Proofs.Tryd.prog (envOf (draymanref11_Of_C) draymanref11_Of_q draymanref11_Of_inl 1000 draymanref11_Of_ann false (draymanref11_Of_loops) (fun _ => none)) 6 (draymanref11_Of_sp (draymanref11_Of)) := by intro ds k; kernel_rfl

theorem draymanref11_Of_ok {α : Type} : (draymanref11_Of_spec : FunSpec α).ok Go.Proofs.Tryd.prog :=
  FunSpec.ok_of (sp := draymanref11_Of_spec) (C := draymanref11_Of_C) (q := draymanref11_Of_q) (inl := draymanref11_Of_inl) (N := 1000) (ann := draymanref11_Of_ann) (fr := false) (D := 6) (l := (draymanref11_Of_loops)) (hk := (fun _ => none)) okNil (lokCons (draymanref11_Of_l0_ok) lokNil) noHooks (draymanref11_Of_ev)

end
end Go.Rv.Tryd

set_option linter.unusedVariables false
set_option maxRecDepth 100000
set_option maxHeartbeats 4000000
namespace Go.Rv.Tryd
open Go Go.Rv Go.RowKit
noncomputable section

-- drayman/draymanref13.Total

abbrev draymanref13_Total_T (α : Type) : Type := (Seq (Int × (Seq (ByteArray × Int × Unit)) × Int × Unit)) → ByteArray → (Int → Option α) → Option α

noncomputable def draymanref13_Total_l0_step {α : Type} (draymanref13_Fit : draymanref13_Fit_T α) (draymanref11_Of : draymanref11_Of_T α) (k0 : (Int) → Option α) (rec : (Seq (Int × (Seq (ByteArray × Int × Unit)) × Int × Unit)) → (ByteArray) → (Int) → (Int) → Option α) (l3 : Seq (Int × (Seq (ByteArray × Int × Unit)) × Int × Unit)) (sku4 : ByteArray) (n5 : Int) (i6 : Int) : Option α :=
  (cond (decide (i6 < (l3.n : Int)))
    (draymanref13_Fit l3 fun r7 =>
      (cond r7
        (cond ((decide ((0 : Int) ≤ i6)) && (decide (i6 < (l3.n : Int))))
          (draymanref11_Of ((l3.g i6.toNat).2.1) sku4 fun r8 =>
            (rec l3 sku4 (IntKind.i64.wrap (n5 + r8)) (IntKind.i64.wrap (i6 + 1))))
          none)
        (k0 n5)))
    (k0 n5))

noncomputable def draymanref13_Total_l0_run {α : Type} (draymanref13_Fit : draymanref13_Fit_T α) (draymanref11_Of : draymanref11_Of_T α) (k0 : (Int) → Option α) : Nat → (Seq (Int × (Seq (ByteArray × Int × Unit)) × Int × Unit)) → (ByteArray) → (Int) → (Int) → Option α
  | 0, _, _, _, _ => none
  | n + 1, l3, sku4, n5, i6 => draymanref13_Total_l0_step draymanref13_Fit draymanref11_Of k0 (fun l3 sku4 n5 i6 => draymanref13_Total_l0_run draymanref13_Fit draymanref11_Of k0 n l3 sku4 n5 i6) l3 sku4 n5 i6

noncomputable def draymanref13_Total_g {α : Type} (draymanref13_Fit : draymanref13_Fit_T α) (draymanref11_Of : draymanref11_Of_T α) (l1 : Seq (Int × (Seq (ByteArray × Int × Unit)) × Int × Unit)) (sku2 : ByteArray) (k : Int → Option α) : Option α :=
  (draymanref13_Total_l0_run draymanref13_Fit draymanref11_Of
    (fun x9 =>
      (k x9))
    1000 l1 sku2 0 0)

noncomputable def draymanref13_Total {α : Type} : draymanref13_Total_T α := draymanref13_Total_g draymanref13_Fit draymanref11_Of

noncomputable def draymanref13_Total_sp {α : Type} (draymanref13_Total : draymanref13_Total_T α) : FunSpec α := ⟨35, [.sl (.int .i64 (.sl (.str (.int .i64 (.nil))) (.int .i64 (.nil)))), .str], [], fun ds k => draymanref13_Total (hdQ (.int .i64 (.sl (.str (.int .i64 (.nil))) (.int .i64 (.nil)))) ds) (hdS ds.tail) (fun r1 => k (enc dep (.int .i64) [.i r1]).1 [])⟩

noncomputable def draymanref13_Total_spec {α : Type} : FunSpec α := draymanref13_Total_sp draymanref13_Total

noncomputable def draymanref13_Total_C {α : Type} (draymanref13_Fit : draymanref13_Fit_T α) (draymanref11_Of : draymanref11_Of_T α) : List (FunSpec α) := [draymanref13_Fit_sp draymanref13_Fit, draymanref11_Of_sp draymanref11_Of]

noncomputable def draymanref13_Total_q : FuncId → Bool := fun f => Nat.beq f 33 || Nat.beq f 40

noncomputable def draymanref13_Total_inl : FuncId → Bool := fun f => false

noncomputable def draymanref13_Total_ann : FuncId → AnnT := fun f p => if f = 35 then (if p = [true, false, true, true] then ⟨[0, 1, 5, 6], [], [5], [4], 0, [], [], none⟩ else ⟨[], [], [], [], 0, [], [], none⟩) else ⟨[], [], [], [], 0, [], [], none⟩

noncomputable def draymanref13_Total_l0_t : List Sh := [.sl (.int .i64 (.sl (.str (.int .i64 (.nil))) (.int .i64 (.nil)))), .str, .dead, .dead, .dead, .int .i64, .int .i64, .dead, .dead, .dead, .dead, .dead, .dead, .dead, .dead, .dead, .dead, .dead, .dead, .dead, .dead, .dead, .dead, .dead, .dead, .dead, .dead]
noncomputable def draymanref13_Total_l0_s : List (List Sh) := []
noncomputable def draymanref13_Total_l0_h : List BSh := []

noncomputable def draymanref13_Total_l0_spec {α : Type} (draymanref13_Fit : draymanref13_Fit_T α) (draymanref11_Of : draymanref11_Of_T α) : LoopSpec α := ⟨6, 35, [true, false, true, true], draymanref13_Total_l0_t, draymanref13_Total_l0_s, draymanref13_Total_l0_h, fun ds k => draymanref13_Total_l0_run draymanref13_Fit draymanref11_Of (fun y1 => k (.exit 0) (encSt [.dead, .dead, .dead, .dead, .dead, .int .i64, .dead, .dead, .dead, .dead, .dead, .dead, .dead, .dead, .dead, .dead, .dead, .dead, .dead, .dead, .dead, .dead, .dead, .dead, .dead, .dead, .dead] [] [] [.i y1])) 1000 (hdQ (.int .i64 (.sl (.str (.int .i64 (.nil))) (.int .i64 (.nil)))) ds) (hdS ds.tail) (hdI ds.tail.tail) (hdI ds.tail.tail.tail)⟩

noncomputable def draymanref13_Total_loops {α : Type} (draymanref13_Fit : draymanref13_Fit_T α) (draymanref11_Of : draymanref11_Of_T α) : List (LoopSpec α) := [draymanref13_Total_l0_spec draymanref13_Fit draymanref11_Of]

noncomputable def draymanref13_Total_l0_ev {α : Type} (draymanref13_Fit : draymanref13_Fit_T α) (draymanref11_Of : draymanref11_Of_T α) (n : Nat) (st : St) (k : X → St → Option α) : Option α := loopN (evCode Go.Proofs.Tryd.prog (callD Go.Proofs.Tryd.prog (envOf (draymanref13_Total_C draymanref13_Fit draymanref11_Of) draymanref13_Total_q draymanref13_Total_inl 1000 draymanref13_Total_ann false (draymanref13_Total_loops draymanref13_Fit draymanref11_Of) (fun _ => none)) 6) (((envOf (draymanref13_Total_C draymanref13_Fit draymanref11_Of) draymanref13_Total_q draymanref13_Total_inl 1000 draymanref13_Total_ann false (draymanref13_Total_loops draymanref13_Fit draymanref11_Of) (fun _ => none)) : Env α).L 6 35) 1000 (draymanref13_Total_ann 35) (false :: [true, false, true, true]) (loopC Go.Proofs.Tryd.prog 35 [true, false, true, true])) ((draymanref13_Total_ann 35 [true, false, true, true]).head 0) ((draymanref13_Total_ann 35 [true, false, true, true]).leave 0) n st k

theorem draymanref13_Total_l0_eq {α : Type} (draymanref13_Fit : draymanref13_Fit_T α) (draymanref11_Of : draymanref11_Of_T α) : ∀ (n : Nat) (l3 : Seq (Int × (Seq (ByteArray × Int × Unit)) × Int × Unit)) (sku4 : ByteArray) (n5 : Int) (i6 : Int) (k : X → St → Option α), draymanref13_Total_l0_ev draymanref13_Fit draymanref11_Of n (encSt draymanref13_Total_l0_t draymanref13_Total_l0_s draymanref13_Total_l0_h [.q (.int .i64 (.sl (.str (.int .i64 (.nil))) (.int .i64 (.nil)))) l3, .s sku4, .i n5, .i i6]) k = draymanref13_Total_l0_run draymanref13_Fit draymanref11_Of (fun y1 => k (.exit 0) (encSt [.dead, .dead, .dead, .dead, .dead, .int .i64, .dead, .dead, .dead, .dead, .dead, .dead, .dead, .dead, .dead, .dead, .dead, .dead, .dead, .dead, .dead, .dead, .dead, .dead, .dead, .dead, .dead] [] [] [.i y1])) n l3 sku4 n5 i6 := by
  intro n
  induction n with
  | zero => intros; kernel_rfl
  | succ n ih =>
    intro l3 sku4 n5 i6 k
    have e : (fun (l3 : Seq (Int × (Seq (ByteArray × Int × Unit)) × Int × Unit)) (sku4 : ByteArray) (n5 : Int) (i6 : Int) => draymanref13_Total_l0_ev draymanref13_Fit draymanref11_Of n (encSt draymanref13_Total_l0_t draymanref13_Total_l0_s draymanref13_Total_l0_h [.q (.int .i64 (.sl (.str (.int .i64 (.nil))) (.int .i64 (.nil)))) l3, .s sku4, .i n5, .i i6]) k) = (fun (l3 : Seq (Int × (Seq (ByteArray × Int × Unit)) × Int × Unit)) (sku4 : ByteArray) (n5 : Int) (i6 : Int) => draymanref13_Total_l0_run draymanref13_Fit draymanref11_Of (fun y1 => k (.exit 0) (encSt [.dead, .dead, .dead, .dead, .dead, .int .i64, .dead, .dead, .dead, .dead, .dead, .dead, .dead, .dead, .dead, .dead, .dead, .dead, .dead, .dead, .dead, .dead, .dead, .dead, .dead, .dead, .dead] [] [] [.i y1])) n l3 sku4 n5 i6) := by
      funext l3 sku4 n5 i6
      exact ih l3 sku4 n5 i6 k
    have h1 : draymanref13_Total_l0_ev draymanref13_Fit draymanref11_Of (n + 1) (encSt draymanref13_Total_l0_t draymanref13_Total_l0_s draymanref13_Total_l0_h [.q (.int .i64 (.sl (.str (.int .i64 (.nil))) (.int .i64 (.nil)))) l3, .s sku4, .i n5, .i i6]) k = draymanref13_Total_l0_step draymanref13_Fit draymanref11_Of (fun y1 => k (.exit 0) (encSt [.dead, .dead, .dead, .dead, .dead, .int .i64, .dead, .dead, .dead, .dead, .dead, .dead, .dead, .dead, .dead, .dead, .dead, .dead, .dead, .dead, .dead, .dead, .dead, .dead, .dead, .dead, .dead] [] [] [.i y1])) (fun (l3 : Seq (Int × (Seq (ByteArray × Int × Unit)) × Int × Unit)) (sku4 : ByteArray) (n5 : Int) (i6 : Int) => draymanref13_Total_l0_ev draymanref13_Fit draymanref11_Of n (encSt draymanref13_Total_l0_t draymanref13_Total_l0_s draymanref13_Total_l0_h [.q (.int .i64 (.sl (.str (.int .i64 (.nil))) (.int .i64 (.nil)))) l3, .s sku4, .i n5, .i i6]) k) l3 sku4 n5 i6 := by kernel_rfl
    have h2 := congrArg (fun r => draymanref13_Total_l0_step draymanref13_Fit draymanref11_Of (fun y1 => k (.exit 0) (encSt [.dead, .dead, .dead, .dead, .dead, .int .i64, .dead, .dead, .dead, .dead, .dead, .dead, .dead, .dead, .dead, .dead, .dead, .dead, .dead, .dead, .dead, .dead, .dead, .dead, .dead, .dead, .dead] [] [] [.i y1])) r l3 sku4 n5 i6) e
    have h3 : draymanref13_Total_l0_step draymanref13_Fit draymanref11_Of (fun y1 => k (.exit 0) (encSt [.dead, .dead, .dead, .dead, .dead, .int .i64, .dead, .dead, .dead, .dead, .dead, .dead, .dead, .dead, .dead, .dead, .dead, .dead, .dead, .dead, .dead, .dead, .dead, .dead, .dead, .dead, .dead] [] [] [.i y1])) (fun (l3 : Seq (Int × (Seq (ByteArray × Int × Unit)) × Int × Unit)) (sku4 : ByteArray) (n5 : Int) (i6 : Int) => draymanref13_Total_l0_run draymanref13_Fit draymanref11_Of (fun y1 => k (.exit 0) (encSt [.dead, .dead, .dead, .dead, .dead, .int .i64, .dead, .dead, .dead, .dead, .dead, .dead, .dead, .dead, .dead, .dead, .dead, .dead, .dead, .dead, .dead, .dead, .dead, .dead, .dead, .dead, .dead] [] [] [.i y1])) n l3 sku4 n5 i6) l3 sku4 n5 i6 = draymanref13_Total_l0_run draymanref13_Fit draymanref11_Of (fun y1 => k (.exit 0) (encSt [.dead, .dead, .dead, .dead, .dead, .int .i64, .dead, .dead, .dead, .dead, .dead, .dead, .dead, .dead, .dead, .dead, .dead, .dead, .dead, .dead, .dead, .dead, .dead, .dead, .dead, .dead, .dead] [] [] [.i y1])) (n + 1) l3 sku4 n5 i6 := by kernel_rfl
    exact h1.trans (h2.trans h3)

theorem draymanref13_Total_l0_ok {α : Type} (draymanref13_Fit : draymanref13_Fit_T α) (draymanref11_Of : draymanref11_Of_T α) : (draymanref13_Total_l0_spec draymanref13_Fit draymanref11_Of : LoopSpec α).ok Go.Proofs.Tryd.prog (envOf (draymanref13_Total_C draymanref13_Fit draymanref11_Of) draymanref13_Total_q draymanref13_Total_inl 1000 draymanref13_Total_ann false (draymanref13_Total_loops draymanref13_Fit draymanref11_Of) (fun _ => none)) := by
  intro ds k
  have h1 : draymanref13_Total_l0_ev draymanref13_Fit draymanref11_Of 1000 (encSt draymanref13_Total_l0_t draymanref13_Total_l0_s draymanref13_Total_l0_h ds) k = draymanref13_Total_l0_ev draymanref13_Fit draymanref11_Of 1000 (encSt draymanref13_Total_l0_t draymanref13_Total_l0_s draymanref13_Total_l0_h [.q (.int .i64 (.sl (.str (.int .i64 (.nil))) (.int .i64 (.nil)))) (hdQ (.int .i64 (.sl (.str (.int .i64 (.nil))) (.int .i64 (.nil)))) ds), .s (hdS ds.tail), .i (hdI ds.tail.tail), .i (hdI ds.tail.tail.tail)]) k := by kernel_rfl
  have h2 := draymanref13_Total_l0_eq draymanref13_Fit draymanref11_Of 1000 (hdQ (.int .i64 (.sl (.str (.int .i64 (.nil))) (.int .i64 (.nil)))) ds) (hdS ds.tail) (hdI ds.tail.tail) (hdI ds.tail.tail.tail) k
  exact h1.trans h2

theorem draymanref13_Total_ev {α : Type} (draymanref13_Fit : draymanref13_Fit_T α) (draymanref11_Of : draymanref11_Of_T α) : EvOk (α := α) Go.Proofs.Tryd.prog (envOf (draymanref13_Total_C draymanref13_Fit draymanref11_Of) draymanref13_Total_q draymanref13_Total_inl 1000 draymanref13_Total_ann false (draymanref13_Total_loops draymanref13_Fit draymanref11_Of) (fun _ => none)) 6 (draymanref13_Total_sp (draymanref13_Total_g draymanref13_Fit draymanref11_Of)) := by intro ds k; kernel_rfl

theorem draymanref13_Total_ok {α : Type} : (draymanref13_Total_spec : FunSpec α).ok Go.Proofs.Tryd.prog :=
  FunSpec.ok_of (sp := draymanref13_Total_spec) (C := draymanref13_Total_C draymanref13_Fit draymanref11_Of) (q := draymanref13_Total_q) (inl := draymanref13_Total_inl) (N := 1000) (ann := draymanref13_Total_ann) (fr := false) (D := 6) (l := (draymanref13_Total_loops draymanref13_Fit draymanref11_Of)) (hk := (fun _ => none)) (okCons draymanref13_Fit_ok (okCons draymanref11_Of_ok okNil)) (lokCons (draymanref13_Total_l0_ok draymanref13_Fit draymanref11_Of) lokNil) noHooks (draymanref13_Total_ev draymanref13_Fit draymanref11_Of)

end
end Go.Rv.Tryd

set_option linter.unusedVariables false
set_option maxRecDepth 100000
set_option maxHeartbeats 4000000
namespace Go.Rv.Tryd
open Go Go.Rv Go.RowKit
noncomputable section

-- drayman/draymanref13.Due

abbrev draymanref13_Due_T (α : Type) : Type := (Seq (Int × (Seq (ByteArray × Int × Unit)) × Int × Unit)) → Int → ((Seq (Int × Unit)) → Option α) → Option α

noncomputable def draymanref13_Due_l0_step {α : Type} (k0 : (Seq (Int × Unit)) → (Seq (Int × Unit)) → Option α) (rec : (Seq (Int × (Seq (ByteArray × Int × Unit)) × Int × Unit)) → (Int) → (Int) → (Seq (Int × Unit)) → (Seq (Int × Unit)) → Option α) (l3 : Seq (Int × (Seq (ByteArray × Int × Unit)) × Int × Unit)) (now4 : Int) (i5 : Int) (q6 : Seq (Int × Unit)) (q7 : Seq (Int × Unit)) : Option α :=
  (cond (decide (i5 < (l3.n : Int)))
    (cond ((decide ((0 : Int) ≤ i5)) && (decide (i5 < (l3.n : Int))))
      (cond ((l3.g i5.toNat).2.2.1 != 0)
        (cond ((decide ((0 : Int) ≤ i5)) && (decide (i5 < (l3.n : Int))))
          (cond (decide ((l3.g i5.toNat).2.2.1 ≤ now4))
            (cond ((decide ((0 : Int) ≤ i5)) && (decide (i5 < (l3.n : Int))))
              (cond (decide (((q7.n + 1)) * 8 ≤ 140737488355328))
                (rec l3 now4 (IntKind.i64.wrap (i5 + 1)) q6 (⟨(q7.nl && false), (q7.n + 1), (tApp q7.n q7.g (fun _ => ((l3.g i5.toNat).1, ())))⟩ : Seq (Int × Unit)))
                none)
              none)
            (rec l3 now4 (IntKind.i64.wrap (i5 + 1)) q6 q7))
          none)
        (rec l3 now4 (IntKind.i64.wrap (i5 + 1)) q6 q7))
      none)
    (k0 q6 q7))

noncomputable def draymanref13_Due_l0_run {α : Type} (k0 : (Seq (Int × Unit)) → (Seq (Int × Unit)) → Option α) : Nat → (Seq (Int × (Seq (ByteArray × Int × Unit)) × Int × Unit)) → (Int) → (Int) → (Seq (Int × Unit)) → (Seq (Int × Unit)) → Option α
  | 0, _, _, _, _, _ => none
  | n + 1, l3, now4, i5, q6, q7 => draymanref13_Due_l0_step k0 (fun l3 now4 i5 q6 q7 => draymanref13_Due_l0_run k0 n l3 now4 i5 q6 q7) l3 now4 i5 q6 q7

noncomputable def draymanref13_Due {α : Type} (l1 : Seq (Int × (Seq (ByteArray × Int × Unit)) × Int × Unit)) (now2 : Int) (k : (Seq (Int × Unit)) → Option α) : Option α :=
  (draymanref13_Due_l0_run
    (fun q8 q9 =>
      (k q9))
    1000 l1 now2 0 (⟨true, 0, (fun _ => (0, ()))⟩ : Seq (Int × Unit)) (⟨true, 0, (fun _ => (0, ()))⟩ : Seq (Int × Unit)))

noncomputable def draymanref13_Due_sp {α : Type} (draymanref13_Due : draymanref13_Due_T α) : FunSpec α := ⟨38, [.sl (.int .i64 (.sl (.str (.int .i64 (.nil))) (.int .i64 (.nil)))), .int .i64], [], fun ds k => draymanref13_Due (hdQ (.int .i64 (.sl (.str (.int .i64 (.nil))) (.int .i64 (.nil)))) ds) (hdI ds.tail) (fun q1 => k (enc dep (.own 0) []).1 (encBs [.row true (.int .i64 (.nil))] [.q (.int .i64 (.nil)) q1]).1)⟩

noncomputable def draymanref13_Due_spec {α : Type} : FunSpec α := draymanref13_Due_sp draymanref13_Due

noncomputable def draymanref13_Due_C {α : Type} : List (FunSpec α) := []

noncomputable def draymanref13_Due_q : FuncId → Bool := fun f => false

noncomputable def draymanref13_Due_inl : FuncId → Bool := fun f => false

noncomputable def draymanref13_Due_ann : FuncId → AnnT := fun f p => if f = 38 then (if p = [true, false, true, true] then ⟨[0, 1, 5, 6], [0, 1], [5], [4], 0, [], [], none⟩ else ⟨[], [], [], [], 0, [], [], none⟩) else ⟨[], [], [], [], 0, [], [], none⟩

noncomputable def draymanref13_Due_l0_t : List Sh := [.sl (.int .i64 (.sl (.str (.int .i64 (.nil))) (.int .i64 (.nil)))), .int .i64, .dead, .dead, .dead, .own 1, .int .i64, .dead, .dead, .dead, .dead, .dead, .dead, .dead, .dead, .dead, .dead, .dead, .dead, .dead, .dead, .dead, .dead, .dead, .dead, .dead, .dead, .dead, .dead, .dead, .dead, .dead, .dead, .dead, .dead, .dead, .dead]
noncomputable def draymanref13_Due_l0_s : List (List Sh) := []
noncomputable def draymanref13_Due_l0_h : List BSh := [.row true (.int .i64 (.nil)), .row true (.int .i64 (.nil))]

noncomputable def draymanref13_Due_l0_spec {α : Type} : LoopSpec α := ⟨6, 38, [true, false, true, true], draymanref13_Due_l0_t, draymanref13_Due_l0_s, draymanref13_Due_l0_h, fun ds k => draymanref13_Due_l0_run (fun y1 y2 => k (.exit 0) (encSt [.dead, .dead, .dead, .dead, .dead, .own 1, .dead, .dead, .dead, .dead, .dead, .dead, .dead, .dead, .dead, .dead, .dead, .dead, .dead, .dead, .dead, .dead, .dead, .dead, .dead, .dead, .dead, .dead, .dead, .dead, .dead, .dead, .dead, .dead, .dead, .dead, .dead] [] [.row true (.int .i64 (.nil)), .row true (.int .i64 (.nil))] [.q (.int .i64 (.nil)) y1, .q (.int .i64 (.nil)) y2])) 1000 (hdQ (.int .i64 (.sl (.str (.int .i64 (.nil))) (.int .i64 (.nil)))) ds) (hdI ds.tail) (hdI ds.tail.tail) (hdQ (.int .i64 (.nil)) ds.tail.tail.tail) (hdQ (.int .i64 (.nil)) ds.tail.tail.tail.tail)⟩

noncomputable def draymanref13_Due_loops {α : Type} : List (LoopSpec α) := [draymanref13_Due_l0_spec]

noncomputable def draymanref13_Due_l0_ev {α : Type} (n : Nat) (st : St) (k : X → St → Option α) : Option α := loopN (evCode Go.Proofs.Tryd.prog (callD Go.Proofs.Tryd.prog (envOf (draymanref13_Due_C) draymanref13_Due_q draymanref13_Due_inl 1000 draymanref13_Due_ann false (draymanref13_Due_loops) (fun _ => none)) 6) (((envOf (draymanref13_Due_C) draymanref13_Due_q draymanref13_Due_inl 1000 draymanref13_Due_ann false (draymanref13_Due_loops) (fun _ => none)) : Env α).L 6 38) 1000 (draymanref13_Due_ann 38) (false :: [true, false, true, true]) (loopC Go.Proofs.Tryd.prog 38 [true, false, true, true])) ((draymanref13_Due_ann 38 [true, false, true, true]).head 2) ((draymanref13_Due_ann 38 [true, false, true, true]).leave 2) n st k

theorem draymanref13_Due_l0_eq {α : Type} : ∀ (n : Nat) (l3 : Seq (Int × (Seq (ByteArray × Int × Unit)) × Int × Unit)) (now4 : Int) (i5 : Int) (q6 : Seq (Int × Unit)) (q7 : Seq (Int × Unit)) (k : X → St → Option α), draymanref13_Due_l0_ev n (encSt draymanref13_Due_l0_t draymanref13_Due_l0_s draymanref13_Due_l0_h [.q (.int .i64 (.sl (.str (.int .i64 (.nil))) (.int .i64 (.nil)))) l3, .i now4, .i i5, .q (.int .i64 (.nil)) q6, .q (.int .i64 (.nil)) q7]) k = draymanref13_Due_l0_run (fun y1 y2 => k (.exit 0) (encSt [.dead, .dead, .dead, .dead, .dead, .own 1, .dead, .dead, .dead, .dead, .dead, .dead, .dead, .dead, .dead, .dead, .dead, .dead, .dead, .dead, .dead, .dead, .dead, .dead, .dead, .dead, .dead, .dead, .dead, .dead, .dead, .dead, .dead, .dead, .dead, .dead, .dead] [] [.row true (.int .i64 (.nil)), .row true (.int .i64 (.nil))] [.q (.int .i64 (.nil)) y1, .q (.int .i64 (.nil)) y2])) n l3 now4 i5 q6 q7 := by
  intro n
  induction n with
  | zero => intros; kernel_rfl
  | succ n ih =>
    intro l3 now4 i5 q6 q7 k
    have e : (fun (l3 : Seq (Int × (Seq (ByteArray × Int × Unit)) × Int × Unit)) (now4 : Int) (i5 : Int) (q6 : Seq (Int × Unit)) (q7 : Seq (Int × Unit)) => draymanref13_Due_l0_ev n (encSt draymanref13_Due_l0_t draymanref13_Due_l0_s draymanref13_Due_l0_h [.q (.int .i64 (.sl (.str (.int .i64 (.nil))) (.int .i64 (.nil)))) l3, .i now4, .i i5, .q (.int .i64 (.nil)) q6, .q (.int .i64 (.nil)) q7]) k) = (fun (l3 : Seq (Int × (Seq (ByteArray × Int × Unit)) × Int × Unit)) (now4 : Int) (i5 : Int) (q6 : Seq (Int × Unit)) (q7 : Seq (Int × Unit)) => draymanref13_Due_l0_run (fun y1 y2 => k (.exit 0) (encSt [.dead, .dead, .dead, .dead, .dead, .own 1, .dead, .dead, .dead, .dead, .dead, .dead, .dead, .dead, .dead, .dead, .dead, .dead, .dead, .dead, .dead, .dead, .dead, .dead, .dead, .dead, .dead, .dead, .dead, .dead, .dead, .dead, .dead, .dead, .dead, .dead, .dead] [] [.row true (.int .i64 (.nil)), .row true (.int .i64 (.nil))] [.q (.int .i64 (.nil)) y1, .q (.int .i64 (.nil)) y2])) n l3 now4 i5 q6 q7) := by
      funext l3 now4 i5 q6 q7
      exact ih l3 now4 i5 q6 q7 k
    have h1 : draymanref13_Due_l0_ev (n + 1) (encSt draymanref13_Due_l0_t draymanref13_Due_l0_s draymanref13_Due_l0_h [.q (.int .i64 (.sl (.str (.int .i64 (.nil))) (.int .i64 (.nil)))) l3, .i now4, .i i5, .q (.int .i64 (.nil)) q6, .q (.int .i64 (.nil)) q7]) k = draymanref13_Due_l0_step (fun y1 y2 => k (.exit 0) (encSt [.dead, .dead, .dead, .dead, .dead, .own 1, .dead, .dead, .dead, .dead, .dead, .dead, .dead, .dead, .dead, .dead, .dead, .dead, .dead, .dead, .dead, .dead, .dead, .dead, .dead, .dead, .dead, .dead, .dead, .dead, .dead, .dead, .dead, .dead, .dead, .dead, .dead] [] [.row true (.int .i64 (.nil)), .row true (.int .i64 (.nil))] [.q (.int .i64 (.nil)) y1, .q (.int .i64 (.nil)) y2])) (fun (l3 : Seq (Int × (Seq (ByteArray × Int × Unit)) × Int × Unit)) (now4 : Int) (i5 : Int) (q6 : Seq (Int × Unit)) (q7 : Seq (Int × Unit)) => draymanref13_Due_l0_ev n (encSt draymanref13_Due_l0_t draymanref13_Due_l0_s draymanref13_Due_l0_h [.q (.int .i64 (.sl (.str (.int .i64 (.nil))) (.int .i64 (.nil)))) l3, .i now4, .i i5, .q (.int .i64 (.nil)) q6, .q (.int .i64 (.nil)) q7]) k) l3 now4 i5 q6 q7 := by kernel_rfl
    have h2 := congrArg (fun r => draymanref13_Due_l0_step (fun y1 y2 => k (.exit 0) (encSt [.dead, .dead, .dead, .dead, .dead, .own 1, .dead, .dead, .dead, .dead, .dead, .dead, .dead, .dead, .dead, .dead, .dead, .dead, .dead, .dead, .dead, .dead, .dead, .dead, .dead, .dead, .dead, .dead, .dead, .dead, .dead, .dead, .dead, .dead, .dead, .dead, .dead] [] [.row true (.int .i64 (.nil)), .row true (.int .i64 (.nil))] [.q (.int .i64 (.nil)) y1, .q (.int .i64 (.nil)) y2])) r l3 now4 i5 q6 q7) e
    have h3 : draymanref13_Due_l0_step (fun y1 y2 => k (.exit 0) (encSt [.dead, .dead, .dead, .dead, .dead, .own 1, .dead, .dead, .dead, .dead, .dead, .dead, .dead, .dead, .dead, .dead, .dead, .dead, .dead, .dead, .dead, .dead, .dead, .dead, .dead, .dead, .dead, .dead, .dead, .dead, .dead, .dead, .dead, .dead, .dead, .dead, .dead] [] [.row true (.int .i64 (.nil)), .row true (.int .i64 (.nil))] [.q (.int .i64 (.nil)) y1, .q (.int .i64 (.nil)) y2])) (fun (l3 : Seq (Int × (Seq (ByteArray × Int × Unit)) × Int × Unit)) (now4 : Int) (i5 : Int) (q6 : Seq (Int × Unit)) (q7 : Seq (Int × Unit)) => draymanref13_Due_l0_run (fun y1 y2 => k (.exit 0) (encSt [.dead, .dead, .dead, .dead, .dead, .own 1, .dead, .dead, .dead, .dead, .dead, .dead, .dead, .dead, .dead, .dead, .dead, .dead, .dead, .dead, .dead, .dead, .dead, .dead, .dead, .dead, .dead, .dead, .dead, .dead, .dead, .dead, .dead, .dead, .dead, .dead, .dead] [] [.row true (.int .i64 (.nil)), .row true (.int .i64 (.nil))] [.q (.int .i64 (.nil)) y1, .q (.int .i64 (.nil)) y2])) n l3 now4 i5 q6 q7) l3 now4 i5 q6 q7 = draymanref13_Due_l0_run (fun y1 y2 => k (.exit 0) (encSt [.dead, .dead, .dead, .dead, .dead, .own 1, .dead, .dead, .dead, .dead, .dead, .dead, .dead, .dead, .dead, .dead, .dead, .dead, .dead, .dead, .dead, .dead, .dead, .dead, .dead, .dead, .dead, .dead, .dead, .dead, .dead, .dead, .dead, .dead, .dead, .dead, .dead] [] [.row true (.int .i64 (.nil)), .row true (.int .i64 (.nil))] [.q (.int .i64 (.nil)) y1, .q (.int .i64 (.nil)) y2])) (n + 1) l3 now4 i5 q6 q7 := by kernel_rfl
    exact h1.trans (h2.trans h3)

theorem draymanref13_Due_l0_ok {α : Type} : (draymanref13_Due_l0_spec : LoopSpec α).ok Go.Proofs.Tryd.prog (envOf (draymanref13_Due_C) draymanref13_Due_q draymanref13_Due_inl 1000 draymanref13_Due_ann false (draymanref13_Due_loops) (fun _ => none)) := by
  intro ds k
  have h1 : draymanref13_Due_l0_ev 1000 (encSt draymanref13_Due_l0_t draymanref13_Due_l0_s draymanref13_Due_l0_h ds) k = draymanref13_Due_l0_ev 1000 (encSt draymanref13_Due_l0_t draymanref13_Due_l0_s draymanref13_Due_l0_h [.q (.int .i64 (.sl (.str (.int .i64 (.nil))) (.int .i64 (.nil)))) (hdQ (.int .i64 (.sl (.str (.int .i64 (.nil))) (.int .i64 (.nil)))) ds), .i (hdI ds.tail), .i (hdI ds.tail.tail), .q (.int .i64 (.nil)) (hdQ (.int .i64 (.nil)) ds.tail.tail.tail), .q (.int .i64 (.nil)) (hdQ (.int .i64 (.nil)) ds.tail.tail.tail.tail)]) k := by kernel_rfl
  have h2 := draymanref13_Due_l0_eq 1000 (hdQ (.int .i64 (.sl (.str (.int .i64 (.nil))) (.int .i64 (.nil)))) ds) (hdI ds.tail) (hdI ds.tail.tail) (hdQ (.int .i64 (.nil)) ds.tail.tail.tail) (hdQ (.int .i64 (.nil)) ds.tail.tail.tail.tail) k
  exact h1.trans h2

theorem draymanref13_Due_ev {α : Type} : EvOk (α := α) Go.Proofs.Tryd.prog (envOf (draymanref13_Due_C) draymanref13_Due_q draymanref13_Due_inl 1000 draymanref13_Due_ann false (draymanref13_Due_loops) (fun _ => none)) 6 (draymanref13_Due_sp (draymanref13_Due)) := by intro ds k; kernel_rfl

theorem draymanref13_Due_ok {α : Type} : (draymanref13_Due_spec : FunSpec α).ok Go.Proofs.Tryd.prog :=
  FunSpec.ok_of (sp := draymanref13_Due_spec) (C := draymanref13_Due_C) (q := draymanref13_Due_q) (inl := draymanref13_Due_inl) (N := 1000) (ann := draymanref13_Due_ann) (fr := false) (D := 6) (l := (draymanref13_Due_loops)) (hk := (fun _ => none)) okNil (lokCons (draymanref13_Due_l0_ok) lokNil) noHooks (draymanref13_Due_ev)

end
end Go.Rv.Tryd
