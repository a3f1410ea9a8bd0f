/- What the functions of the program compute, each with the proof that its code computes it. Written by a program (rvp2.py). -/
import Derived.Test.YtmemlioggcgdmaaProg
import Derived.Test.YtmemlioggcgdmaaRvP

set_option linter.unusedVariables false
set_option maxRecDepth 100000
set_option maxHeartbeats 4000000
namespace Go.Rv.Try
open Go Go.Rv Go.RowKit
noncomputable section

-- drayman/inbox.New

abbrev inbox_New_T (α : Type) : Type := Int → ((Int × Int × (Seq (Int × Unit)) × Unit) → Option α) → Option α

noncomputable def inbox_New {α : Type} (service1 : Int) (k : (Int × Int × (Seq (Int × Unit)) × Unit) → Option α) : Option α :=
  (k (service1, 0, (⟨true, 0, (fun _ => (0, ()))⟩ : Seq (Int × Unit)), ()))

noncomputable def inbox_New_sp {α : Type} (inbox_New : inbox_New_T α) : FunSpec α := ⟨62, [.int .i64], [], fun ds k => inbox_New (hdI ds) (fun r1 => k (enc dep (.agg [.int .i64, .int .i64, .sl (.int .i64 (.nil))]) [.i r1.1, .i r1.2.1, .q (.int .i64 (.nil)) r1.2.2.1]).1 [])⟩

noncomputable def inbox_New_spec {α : Type} : FunSpec α := inbox_New_sp inbox_New

noncomputable def inbox_New_C {α : Type} : List (FunSpec α) := []

noncomputable def inbox_New_q : FuncId → Bool := fun f => false

noncomputable def inbox_New_inl : FuncId → Bool := fun f => false

noncomputable def inbox_New_ann : FuncId → AnnT := fun f p => ⟨[], [], [], [], 0, [], []⟩

noncomputable def inbox_New_loops {α : Type} : List (LoopSpec α) := []

theorem inbox_New_ev {α : Type} : EvOk (α := α) Go.Proofs.Try.prog (envOf (inbox_New_C) inbox_New_q inbox_New_inl 1000 inbox_New_ann false (inbox_New_loops) (fun _ => none)) 6 (inbox_New_sp (inbox_New)) := by intro ds k; kernel_rfl

theorem inbox_New_ok {α : Type} : (inbox_New_spec : FunSpec α).ok Go.Proofs.Try.prog :=
  FunSpec.ok_of (sp := inbox_New_spec) (C := inbox_New_C) (q := inbox_New_q) (inl := inbox_New_inl) (N := 1000) (ann := inbox_New_ann) (fr := false) (D := 6) (l := (inbox_New_loops)) (hk := (fun _ => none)) okNil lokNil noHooks (inbox_New_ev)

end
end Go.Rv.Try

set_option linter.unusedVariables false
set_option maxRecDepth 100000
set_option maxHeartbeats 4000000
namespace Go.Rv.Try
open Go Go.Rv Go.RowKit
noncomputable section

-- drayman/num.Fit

abbrev num_Fit_T (α : Type) : Type := Int → (Bool → Option α) → Option α

noncomputable def num_Fit {α : Type} (n1 : Int) (k : Bool → Option α) : Option α :=
  (cond (decide (n1 ≥ 0))
    (k (decide (n1 ≤ 1099511627776)))
    (k false))

noncomputable def num_Fit_sp {α : Type} (num_Fit : num_Fit_T α) : FunSpec α := ⟨89, [.int .i64], [], fun ds k => num_Fit (hdI ds) (fun r1 => k (enc dep (.bool) [.b r1]).1 [])⟩

noncomputable def num_Fit_spec {α : Type} : FunSpec α := num_Fit_sp num_Fit

noncomputable def num_Fit_C {α : Type} : List (FunSpec α) := []

noncomputable def num_Fit_q : FuncId → Bool := fun f => false

noncomputable def num_Fit_inl : FuncId → Bool := fun f => false

noncomputable def num_Fit_ann : FuncId → AnnT := fun f p => ⟨[], [], [], [], 0, [], []⟩

noncomputable def num_Fit_loops {α : Type} : List (LoopSpec α) := []

theorem num_Fit_ev {α : Type} : EvOk (α := α) Go.Proofs.Try.prog (envOf (num_Fit_C) num_Fit_q num_Fit_inl 1000 num_Fit_ann false (num_Fit_loops) (fun _ => none)) 6 (num_Fit_sp (num_Fit)) := by intro ds k; kernel_rfl

theorem num_Fit_ok {α : Type} : (num_Fit_spec : FunSpec α).ok Go.Proofs.Try.prog :=
  FunSpec.ok_of (sp := num_Fit_spec) (C := num_Fit_C) (q := num_Fit_q) (inl := num_Fit_inl) (N := 1000) (ann := num_Fit_ann) (fr := false) (D := 6) (l := (num_Fit_loops)) (hk := (fun _ => none)) okNil lokNil noHooks (num_Fit_ev)

end
end Go.Rv.Try

set_option linter.unusedVariables false
set_option maxRecDepth 100000
set_option maxHeartbeats 4000000
namespace Go.Rv.Try
open Go Go.Rv Go.RowKit
noncomputable section

-- drayman/inbox.Fit

abbrev inbox_Fit_T (α : Type) : Type := (Int × Int × (Seq (Int × Unit)) × Unit) → (Bool → Option α) → Option α

noncomputable def inbox_Fit_l0_step {α : Type} (num_Fit : num_Fit_T α) (kr : (Bool) → (Int × Int × (Seq (Int × Unit)) × Unit) → Option α) (k0 : (Int × Int × (Seq (Int × Unit)) × Unit) → Option α) (rec : (Int) → (Seq (Int × Unit)) → (Int) → (Int) → (Int × Int × (Seq (Int × Unit)) × Unit) → Option α) (last3 : Int) (x4 : Seq (Int × Unit)) (x5 : Int) (x6 : Int) (x7 : Int × Int × (Seq (Int × Unit)) × Unit) : Option α :=
  (cond (decide (x6 < x5))
    (cond ((decide ((0 : Int) ≤ x6)) && (decide (x6 < (x4.n : Int))))
      (cond (!(decide ((x4.g x6.toNat).1 ≤ last3)))
        (num_Fit ((x4.g x6.toNat).1) fun r8 =>
          (cond (!r8)
            (kr false x7)
            (rec ((x4.g x6.toNat).1) x4 x5 (IntKind.i64.wrap (x6 + 1)) x7)))
        (kr false x7))
      none)
    (k0 x7))

noncomputable def inbox_Fit_l0_run {α : Type} (num_Fit : num_Fit_T α) (kr : (Bool) → (Int × Int × (Seq (Int × Unit)) × Unit) → Option α) (k0 : (Int × Int × (Seq (Int × Unit)) × Unit) → Option α) : Nat → (Int) → (Seq (Int × Unit)) → (Int) → (Int) → (Int × Int × (Seq (Int × Unit)) × Unit) → Option α
  | 0, _, _, _, _, _ => none
  | n + 1, last3, x4, x5, x6, x7 => inbox_Fit_l0_step num_Fit kr k0 (fun last3 x4 x5 x6 x7 => inbox_Fit_l0_run num_Fit kr k0 n last3 x4 x5 x6 x7) last3 x4 x5 x6 x7

noncomputable def inbox_Fit_g {α : Type} (num_Fit : num_Fit_T α) (b1 : Int × Int × (Seq (Int × Unit)) × Unit) (k : Bool → Option α) : Option α :=
  (cond (b1.1 != 1)
    (cond (!(b1.1 != 2))
      (num_Fit b1.2.1 fun r2 =>
        (cond (!r2)
          (k false)
          (inbox_Fit_l0_run num_Fit
            (fun x9 x10 =>
              (k x9))
            (fun x11 =>
              (k (decide ((x11.2.2.1.n : Int) ≤ 16))))
            1000 (IntKind.i64.wrap (b1.2.1 + 1)) b1.2.2.1 (b1.2.2.1.n : Int) 0 b1)))
      (k false))
    (num_Fit b1.2.1 fun r12 =>
      (cond (!r12)
        (k false)
        (inbox_Fit_l0_run num_Fit
          (fun x13 x14 =>
            (k x13))
          (fun x15 =>
            (k (decide ((x15.2.2.1.n : Int) ≤ 16))))
          1000 (IntKind.i64.wrap (b1.2.1 + 1)) b1.2.2.1 (b1.2.2.1.n : Int) 0 b1))))

noncomputable def inbox_Fit {α : Type} : inbox_Fit_T α := inbox_Fit_g num_Fit

noncomputable def inbox_Fit_sp {α : Type} (inbox_Fit : inbox_Fit_T α) : FunSpec α := ⟨65, [.agg [.int .i64, .int .i64, .sl (.int .i64 (.nil))]], [], fun ds k => inbox_Fit (hdI ds, hdI ds.tail, hdQ (.int .i64 (.nil)) ds.tail.tail, ()) (fun r1 => k (enc dep (.bool) [.b r1]).1 [])⟩

noncomputable def inbox_Fit_spec {α : Type} : FunSpec α := inbox_Fit_sp inbox_Fit

noncomputable def inbox_Fit_C {α : Type} (num_Fit : num_Fit_T α) : List (FunSpec α) := [num_Fit_sp num_Fit]

noncomputable def inbox_Fit_q : FuncId → Bool := fun f => Nat.beq f 89

noncomputable def inbox_Fit_inl : FuncId → Bool := fun f => false

noncomputable def inbox_Fit_ann : FuncId → AnnT := fun f p => if f = 65 then (if p = [true, false, true, true, true] then ⟨[1, 3, 24, 25, 26], [], [1], [2], 0, [], []⟩ else ⟨[], [], [], [], 0, [], []⟩) else ⟨[], [], [], [], 0, [], []⟩

noncomputable def inbox_Fit_l0_t : List Sh := [.dead, .ref 0 0, .dead, .int .i64, .dead, .dead, .dead, .dead, .dead, .dead, .dead, .dead, .dead, .dead, .dead, .dead, .dead, .dead, .dead, .dead, .dead, .dead, .dead, .dead, .sl (.int .i64 (.nil)), .int .i64, .int .i64, .dead, .dead, .dead, .dead, .dead, .dead, .dead, .dead, .dead, .dead, .dead, .dead, .dead, .dead, .dead, .dead, .dead]
noncomputable def inbox_Fit_l0_s : List (List Sh) := []
noncomputable def inbox_Fit_l0_h : List BSh := [.box [.int .i64, .int .i64, .sl (.int .i64 (.nil))]]

noncomputable def inbox_Fit_l0_spec {α : Type} (num_Fit : num_Fit_T α) : LoopSpec α := ⟨6, 65, [true, false, true, true, true], inbox_Fit_l0_t, inbox_Fit_l0_s, inbox_Fit_l0_h, fun ds k => inbox_Fit_l0_run num_Fit (fun y1 y2 => k .ret (encSt [.dead, .dead, .bool, .dead, .dead, .dead, .dead, .dead, .dead, .dead, .dead, .dead, .dead, .dead, .dead, .dead, .dead, .dead, .dead, .dead, .dead, .dead, .dead, .dead, .dead, .dead, .dead, .dead, .dead, .dead, .dead, .dead, .dead, .dead, .dead, .dead, .dead, .dead, .dead, .dead, .dead, .dead, .dead, .dead] [] [.box [.int .i64, .int .i64, .sl (.int .i64 (.nil))]] [.b y1, .i y2.1, .i y2.2.1, .q (.int .i64 (.nil)) y2.2.2.1])) (fun y1 => k (.exit 0) (encSt [.dead, .ref 0 0, .dead, .dead, .dead, .dead, .dead, .dead, .dead, .dead, .dead, .dead, .dead, .dead, .dead, .dead, .dead, .dead, .dead, .dead, .dead, .dead, .dead, .dead, .dead, .dead, .dead, .dead, .dead, .dead, .dead, .dead, .dead, .dead, .dead, .dead, .dead, .dead, .dead, .dead, .dead, .dead, .dead, .dead] [] [.box [.int .i64, .int .i64, .sl (.int .i64 (.nil))]] [.i y1.1, .i y1.2.1, .q (.int .i64 (.nil)) y1.2.2.1])) 1000 (hdI ds) (hdQ (.int .i64 (.nil)) ds.tail) (hdI ds.tail.tail) (hdI ds.tail.tail.tail) (hdI ds.tail.tail.tail.tail, hdI ds.tail.tail.tail.tail.tail, hdQ (.int .i64 (.nil)) ds.tail.tail.tail.tail.tail.tail, ())⟩

noncomputable def inbox_Fit_loops {α : Type} (num_Fit : num_Fit_T α) : List (LoopSpec α) := [inbox_Fit_l0_spec num_Fit]

noncomputable def inbox_Fit_l0_ev {α : Type} (num_Fit : num_Fit_T α) (n : Nat) (st : St) (k : X → St → Option α) : Option α := loopN (evCode Go.Proofs.Try.prog (callD Go.Proofs.Try.prog (envOf (inbox_Fit_C num_Fit) inbox_Fit_q inbox_Fit_inl 1000 inbox_Fit_ann false (inbox_Fit_loops num_Fit) (fun _ => none)) 6) (((envOf (inbox_Fit_C num_Fit) inbox_Fit_q inbox_Fit_inl 1000 inbox_Fit_ann false (inbox_Fit_loops num_Fit) (fun _ => none)) : Env α).L 6 65) 1000 (inbox_Fit_ann 65) (false :: [true, false, true, true, true]) (loopC Go.Proofs.Try.prog 65 [true, false, true, true, true])) ((inbox_Fit_ann 65 [true, false, true, true, true]).head 1) ((inbox_Fit_ann 65 [true, false, true, true, true]).leave 1) n st k

theorem inbox_Fit_l0_eq {α : Type} (num_Fit : num_Fit_T α) : ∀ (n : Nat) (last3 : Int) (x4 : Seq (Int × Unit)) (x5 : Int) (x6 : Int) (x7 : Int × Int × (Seq (Int × Unit)) × Unit) (k : X → St → Option α), inbox_Fit_l0_ev num_Fit n (encSt inbox_Fit_l0_t inbox_Fit_l0_s inbox_Fit_l0_h [.i last3, .q (.int .i64 (.nil)) x4, .i x5, .i x6, .i x7.1, .i x7.2.1, .q (.int .i64 (.nil)) x7.2.2.1]) k = inbox_Fit_l0_run num_Fit (fun y1 y2 => k .ret (encSt [.dead, .dead, .bool, .dead, .dead, .dead, .dead, .dead, .dead, .dead, .dead, .dead, .dead, .dead, .dead, .dead, .dead, .dead, .dead, .dead, .dead, .dead, .dead, .dead, .dead, .dead, .dead, .dead, .dead, .dead, .dead, .dead, .dead, .dead, .dead, .dead, .dead, .dead, .dead, .dead, .dead, .dead, .dead, .dead] [] [.box [.int .i64, .int .i64, .sl (.int .i64 (.nil))]] [.b y1, .i y2.1, .i y2.2.1, .q (.int .i64 (.nil)) y2.2.2.1])) (fun y1 => k (.exit 0) (encSt [.dead, .ref 0 0, .dead, .dead, .dead, .dead, .dead, .dead, .dead, .dead, .dead, .dead, .dead, .dead, .dead, .dead, .dead, .dead, .dead, .dead, .dead, .dead, .dead, .dead, .dead, .dead, .dead, .dead, .dead, .dead, .dead, .dead, .dead, .dead, .dead, .dead, .dead, .dead, .dead, .dead, .dead, .dead, .dead, .dead] [] [.box [.int .i64, .int .i64, .sl (.int .i64 (.nil))]] [.i y1.1, .i y1.2.1, .q (.int .i64 (.nil)) y1.2.2.1])) n last3 x4 x5 x6 x7 := by
  intro n
  induction n with
  | zero => intros; kernel_rfl
  | succ n ih =>
    intro last3 x4 x5 x6 x7 k
    have e : (fun (last3 : Int) (x4 : Seq (Int × Unit)) (x5 : Int) (x6 : Int) (x7 : Int × Int × (Seq (Int × Unit)) × Unit) => inbox_Fit_l0_ev num_Fit n (encSt inbox_Fit_l0_t inbox_Fit_l0_s inbox_Fit_l0_h [.i last3, .q (.int .i64 (.nil)) x4, .i x5, .i x6, .i x7.1, .i x7.2.1, .q (.int .i64 (.nil)) x7.2.2.1]) k) = (fun (last3 : Int) (x4 : Seq (Int × Unit)) (x5 : Int) (x6 : Int) (x7 : Int × Int × (Seq (Int × Unit)) × Unit) => inbox_Fit_l0_run num_Fit (fun y1 y2 => k .ret (encSt [.dead, .dead, .bool, .dead, .dead, .dead, .dead, .dead, .dead, .dead, .dead, .dead, .dead, .dead, .dead, .dead, .dead, .dead, .dead, .dead, .dead, .dead, .dead, .dead, .dead, .dead, .dead, .dead, .dead, .dead, .dead, .dead, .dead, .dead, .dead, .dead, .dead, .dead, .dead, .dead, .dead, .dead, .dead, .dead] [] [.box [.int .i64, .int .i64, .sl (.int .i64 (.nil))]] [.b y1, .i y2.1, .i y2.2.1, .q (.int .i64 (.nil)) y2.2.2.1])) (fun y1 => k (.exit 0) (encSt [.dead, .ref 0 0, .dead, .dead, .dead, .dead, .dead, .dead, .dead, .dead, .dead, .dead, .dead, .dead, .dead, .dead, .dead, .dead, .dead, .dead, .dead, .dead, .dead, .dead, .dead, .dead, .dead, .dead, .dead, .dead, .dead, .dead, .dead, .dead, .dead, .dead, .dead, .dead, .dead, .dead, .dead, .dead, .dead, .dead] [] [.box [.int .i64, .int .i64, .sl (.int .i64 (.nil))]] [.i y1.1, .i y1.2.1, .q (.int .i64 (.nil)) y1.2.2.1])) n last3 x4 x5 x6 x7) := by
      funext last3 x4 x5 x6 x7
      exact ih last3 x4 x5 x6 x7 k
    have h1 : inbox_Fit_l0_ev num_Fit (n + 1) (encSt inbox_Fit_l0_t inbox_Fit_l0_s inbox_Fit_l0_h [.i last3, .q (.int .i64 (.nil)) x4, .i x5, .i x6, .i x7.1, .i x7.2.1, .q (.int .i64 (.nil)) x7.2.2.1]) k = inbox_Fit_l0_step num_Fit (fun y1 y2 => k .ret (encSt [.dead, .dead, .bool, .dead, .dead, .dead, .dead, .dead, .dead, .dead, .dead, .dead, .dead, .dead, .dead, .dead, .dead, .dead, .dead, .dead, .dead, .dead, .dead, .dead, .dead, .dead, .dead, .dead, .dead, .dead, .dead, .dead, .dead, .dead, .dead, .dead, .dead, .dead, .dead, .dead, .dead, .dead, .dead, .dead] [] [.box [.int .i64, .int .i64, .sl (.int .i64 (.nil))]] [.b y1, .i y2.1, .i y2.2.1, .q (.int .i64 (.nil)) y2.2.2.1])) (fun y1 => k (.exit 0) (encSt [.dead, .ref 0 0, .dead, .dead, .dead, .dead, .dead, .dead, .dead, .dead, .dead, .dead, .dead, .dead, .dead, .dead, .dead, .dead, .dead, .dead, .dead, .dead, .dead, .dead, .dead, .dead, .dead, .dead, .dead, .dead, .dead, .dead, .dead, .dead, .dead, .dead, .dead, .dead, .dead, .dead, .dead, .dead, .dead, .dead] [] [.box [.int .i64, .int .i64, .sl (.int .i64 (.nil))]] [.i y1.1, .i y1.2.1, .q (.int .i64 (.nil)) y1.2.2.1])) (fun (last3 : Int) (x4 : Seq (Int × Unit)) (x5 : Int) (x6 : Int) (x7 : Int × Int × (Seq (Int × Unit)) × Unit) => inbox_Fit_l0_ev num_Fit n (encSt inbox_Fit_l0_t inbox_Fit_l0_s inbox_Fit_l0_h [.i last3, .q (.int .i64 (.nil)) x4, .i x5, .i x6, .i x7.1, .i x7.2.1, .q (.int .i64 (.nil)) x7.2.2.1]) k) last3 x4 x5 x6 x7 := by kernel_rfl
    have h2 := congrArg (fun r => inbox_Fit_l0_step num_Fit (fun y1 y2 => k .ret (encSt [.dead, .dead, .bool, .dead, .dead, .dead, .dead, .dead, .dead, .dead, .dead, .dead, .dead, .dead, .dead, .dead, .dead, .dead, .dead, .dead, .dead, .dead, .dead, .dead, .dead, .dead, .dead, .dead, .dead, .dead, .dead, .dead, .dead, .dead, .dead, .dead, .dead, .dead, .dead, .dead, .dead, .dead, .dead, .dead] [] [.box [.int .i64, .int .i64, .sl (.int .i64 (.nil))]] [.b y1, .i y2.1, .i y2.2.1, .q (.int .i64 (.nil)) y2.2.2.1])) (fun y1 => k (.exit 0) (encSt [.dead, .ref 0 0, .dead, .dead, .dead, .dead, .dead, .dead, .dead, .dead, .dead, .dead, .dead, .dead, .dead, .dead, .dead, .dead, .dead, .dead, .dead, .dead, .dead, .dead, .dead, .dead, .dead, .dead, .dead, .dead, .dead, .dead, .dead, .dead, .dead, .dead, .dead, .dead, .dead, .dead, .dead, .dead, .dead, .dead] [] [.box [.int .i64, .int .i64, .sl (.int .i64 (.nil))]] [.i y1.1, .i y1.2.1, .q (.int .i64 (.nil)) y1.2.2.1])) r last3 x4 x5 x6 x7) e
    have h3 : inbox_Fit_l0_step num_Fit (fun y1 y2 => k .ret (encSt [.dead, .dead, .bool, .dead, .dead, .dead, .dead, .dead, .dead, .dead, .dead, .dead, .dead, .dead, .dead, .dead, .dead, .dead, .dead, .dead, .dead, .dead, .dead, .dead, .dead, .dead, .dead, .dead, .dead, .dead, .dead, .dead, .dead, .dead, .dead, .dead, .dead, .dead, .dead, .dead, .dead, .dead, .dead, .dead] [] [.box [.int .i64, .int .i64, .sl (.int .i64 (.nil))]] [.b y1, .i y2.1, .i y2.2.1, .q (.int .i64 (.nil)) y2.2.2.1])) (fun y1 => k (.exit 0) (encSt [.dead, .ref 0 0, .dead, .dead, .dead, .dead, .dead, .dead, .dead, .dead, .dead, .dead, .dead, .dead, .dead, .dead, .dead, .dead, .dead, .dead, .dead, .dead, .dead, .dead, .dead, .dead, .dead, .dead, .dead, .dead, .dead, .dead, .dead, .dead, .dead, .dead, .dead, .dead, .dead, .dead, .dead, .dead, .dead, .dead] [] [.box [.int .i64, .int .i64, .sl (.int .i64 (.nil))]] [.i y1.1, .i y1.2.1, .q (.int .i64 (.nil)) y1.2.2.1])) (fun (last3 : Int) (x4 : Seq (Int × Unit)) (x5 : Int) (x6 : Int) (x7 : Int × Int × (Seq (Int × Unit)) × Unit) => inbox_Fit_l0_run num_Fit (fun y1 y2 => k .ret (encSt [.dead, .dead, .bool, .dead, .dead, .dead, .dead, .dead, .dead, .dead, .dead, .dead, .dead, .dead, .dead, .dead, .dead, .dead, .dead, .dead, .dead, .dead, .dead, .dead, .dead, .dead, .dead, .dead, .dead, .dead, .dead, .dead, .dead, .dead, .dead, .dead, .dead, .dead, .dead, .dead, .dead, .dead, .dead, .dead] [] [.box [.int .i64, .int .i64, .sl (.int .i64 (.nil))]] [.b y1, .i y2.1, .i y2.2.1, .q (.int .i64 (.nil)) y2.2.2.1])) (fun y1 => k (.exit 0) (encSt [.dead, .ref 0 0, .dead, .dead, .dead, .dead, .dead, .dead, .dead, .dead, .dead, .dead, .dead, .dead, .dead, .dead, .dead, .dead, .dead, .dead, .dead, .dead, .dead, .dead, .dead, .dead, .dead, .dead, .dead, .dead, .dead, .dead, .dead, .dead, .dead, .dead, .dead, .dead, .dead, .dead, .dead, .dead, .dead, .dead] [] [.box [.int .i64, .int .i64, .sl (.int .i64 (.nil))]] [.i y1.1, .i y1.2.1, .q (.int .i64 (.nil)) y1.2.2.1])) n last3 x4 x5 x6 x7) last3 x4 x5 x6 x7 = inbox_Fit_l0_run num_Fit (fun y1 y2 => k .ret (encSt [.dead, .dead, .bool, .dead, .dead, .dead, .dead, .dead, .dead, .dead, .dead, .dead, .dead, .dead, .dead, .dead, .dead, .dead, .dead, .dead, .dead, .dead, .dead, .dead, .dead, .dead, .dead, .dead, .dead, .dead, .dead, .dead, .dead, .dead, .dead, .dead, .dead, .dead, .dead, .dead, .dead, .dead, .dead, .dead] [] [.box [.int .i64, .int .i64, .sl (.int .i64 (.nil))]] [.b y1, .i y2.1, .i y2.2.1, .q (.int .i64 (.nil)) y2.2.2.1])) (fun y1 => k (.exit 0) (encSt [.dead, .ref 0 0, .dead, .dead, .dead, .dead, .dead, .dead, .dead, .dead, .dead, .dead, .dead, .dead, .dead, .dead, .dead, .dead, .dead, .dead, .dead, .dead, .dead, .dead, .dead, .dead, .dead, .dead, .dead, .dead, .dead, .dead, .dead, .dead, .dead, .dead, .dead, .dead, .dead, .dead, .dead, .dead, .dead, .dead] [] [.box [.int .i64, .int .i64, .sl (.int .i64 (.nil))]] [.i y1.1, .i y1.2.1, .q (.int .i64 (.nil)) y1.2.2.1])) (n + 1) last3 x4 x5 x6 x7 := by kernel_rfl
    exact h1.trans (h2.trans h3)

theorem inbox_Fit_l0_ok {α : Type} (num_Fit : num_Fit_T α) : (inbox_Fit_l0_spec num_Fit : LoopSpec α).ok Go.Proofs.Try.prog (envOf (inbox_Fit_C num_Fit) inbox_Fit_q inbox_Fit_inl 1000 inbox_Fit_ann false (inbox_Fit_loops num_Fit) (fun _ => none)) := by
  intro ds k
  have h1 : inbox_Fit_l0_ev num_Fit 1000 (encSt inbox_Fit_l0_t inbox_Fit_l0_s inbox_Fit_l0_h ds) k = inbox_Fit_l0_ev num_Fit 1000 (encSt inbox_Fit_l0_t inbox_Fit_l0_s inbox_Fit_l0_h [.i (hdI ds), .q (.int .i64 (.nil)) (hdQ (.int .i64 (.nil)) ds.tail), .i (hdI ds.tail.tail), .i (hdI ds.tail.tail.tail), .i ((hdI ds.tail.tail.tail.tail, hdI ds.tail.tail.tail.tail.tail, hdQ (.int .i64 (.nil)) ds.tail.tail.tail.tail.tail.tail, ()).1), .i ((hdI ds.tail.tail.tail.tail, hdI ds.tail.tail.tail.tail.tail, hdQ (.int .i64 (.nil)) ds.tail.tail.tail.tail.tail.tail, ()).2.1), .q (.int .i64 (.nil)) ((hdI ds.tail.tail.tail.tail, hdI ds.tail.tail.tail.tail.tail, hdQ (.int .i64 (.nil)) ds.tail.tail.tail.tail.tail.tail, ()).2.2.1)]) k := by kernel_rfl
  have h2 := inbox_Fit_l0_eq num_Fit 1000 (hdI ds) (hdQ (.int .i64 (.nil)) ds.tail) (hdI ds.tail.tail) (hdI ds.tail.tail.tail) (hdI ds.tail.tail.tail.tail, hdI ds.tail.tail.tail.tail.tail, hdQ (.int .i64 (.nil)) ds.tail.tail.tail.tail.tail.tail, ()) k
  exact h1.trans h2

theorem inbox_Fit_ev {α : Type} (num_Fit : num_Fit_T α) : EvOk (α := α) Go.Proofs.Try.prog (envOf (inbox_Fit_C num_Fit) inbox_Fit_q inbox_Fit_inl 1000 inbox_Fit_ann false (inbox_Fit_loops num_Fit) (fun _ => none)) 6 (inbox_Fit_sp (inbox_Fit_g num_Fit)) := by intro ds k; kernel_rfl

theorem inbox_Fit_ok {α : Type} : (inbox_Fit_spec : FunSpec α).ok Go.Proofs.Try.prog :=
  FunSpec.ok_of (sp := inbox_Fit_spec) (C := inbox_Fit_C num_Fit) (q := inbox_Fit_q) (inl := inbox_Fit_inl) (N := 1000) (ann := inbox_Fit_ann) (fr := false) (D := 6) (l := (inbox_Fit_loops num_Fit)) (hk := (fun _ => none)) (okCons num_Fit_ok okNil) (lokCons (inbox_Fit_l0_ok num_Fit) lokNil) noHooks (inbox_Fit_ev num_Fit)

end
end Go.Rv.Try

set_option linter.unusedVariables false
set_option maxRecDepth 100000
set_option maxHeartbeats 4000000
namespace Go.Rv.Try
open Go Go.Rv Go.RowKit
noncomputable section

-- slices.Index[[]int,int]

abbrev slices_Index_int_int_T (α : Type) : Type := (Seq (Int × Unit)) → Int → (Int → Option α) → Option α

noncomputable def slices_Index_int_int_l0_step {α : Type} (kr : (Int) → Option α) (k0 : Option α) (rec : (Seq (Int × Unit)) → (Int) → (Int) → (Int) → Option α) (s3 : Seq (Int × Unit)) (v4 : Int) (x5 : Int) (x6 : Int) : Option α :=
  (cond (decide (x6 < x5))
    (cond ((decide ((0 : Int) ≤ x6)) && (decide (x6 < (s3.n : Int))))
      (cond (v4 == (s3.g x6.toNat).1)
        (kr x6)
        (rec s3 v4 x5 (IntKind.i64.wrap (x6 + 1))))
      none)
    (k0))

noncomputable def slices_Index_int_int_l0_run {α : Type} (kr : (Int) → Option α) (k0 : Option α) : Nat → (Seq (Int × Unit)) → (Int) → (Int) → (Int) → Option α
  | 0, _, _, _, _ => none
  | n + 1, s3, v4, x5, x6 => slices_Index_int_int_l0_step kr k0 (fun s3 v4 x5 x6 => slices_Index_int_int_l0_run kr k0 n s3 v4 x5 x6) s3 v4 x5 x6

noncomputable def slices_Index_int_int {α : Type} (s1 : Seq (Int × Unit)) (v2 : Int) (k : Int → Option α) : Option α :=
  (slices_Index_int_int_l0_run
    (fun x7 =>
      (k x7))
    ((k (-1)))
    1000 s1 v2 (s1.n : Int) 0)

noncomputable def slices_Index_int_int_sp {α : Type} (slices_Index_int_int : slices_Index_int_int_T α) : FunSpec α := ⟨97, [.sl (.int .i64 (.nil)), .int .i64], [], fun ds k => slices_Index_int_int (hdQ (.int .i64 (.nil)) ds) (hdI ds.tail) (fun r1 => k (enc dep (.int .i64) [.i r1]).1 [])⟩

noncomputable def slices_Index_int_int_spec {α : Type} : FunSpec α := slices_Index_int_int_sp slices_Index_int_int

noncomputable def slices_Index_int_int_C {α : Type} : List (FunSpec α) := []

noncomputable def slices_Index_int_int_q : FuncId → Bool := fun f => false

noncomputable def slices_Index_int_int_inl : FuncId → Bool := fun f => false

noncomputable def slices_Index_int_int_ann : FuncId → AnnT := fun f p => if f = 97 then (if p = [true, false, true] then ⟨[0, 1, 7, 8], [], [], [4], 0, [], []⟩ else ⟨[], [], [], [], 0, [], []⟩) else ⟨[], [], [], [], 0, [], []⟩

noncomputable def slices_Index_int_int_l0_t : List Sh := [.sl (.int .i64 (.nil)), .int .i64, .dead, .dead, .dead, .dead, .dead, .int .i64, .int .i64, .dead, .dead, .dead, .dead, .dead, .dead, .dead, .dead, .dead, .dead]
noncomputable def slices_Index_int_int_l0_s : List (List Sh) := []
noncomputable def slices_Index_int_int_l0_h : List BSh := []

noncomputable def slices_Index_int_int_l0_spec {α : Type} : LoopSpec α := ⟨6, 97, [true, false, true], slices_Index_int_int_l0_t, slices_Index_int_int_l0_s, slices_Index_int_int_l0_h, fun ds k => slices_Index_int_int_l0_run (fun y1 => k .ret (encSt [.dead, .dead, .dead, .dead, .int .i64, .dead, .dead, .dead, .dead, .dead, .dead, .dead, .dead, .dead, .dead, .dead, .dead, .dead, .dead] [] [] [.i y1])) (k (.exit 0) (encSt [.dead, .dead, .dead, .dead, .dead, .dead, .dead, .dead, .dead, .dead, .dead, .dead, .dead, .dead, .dead, .dead, .dead, .dead, .dead] [] [] [])) 1000 (hdQ (.int .i64 (.nil)) ds) (hdI ds.tail) (hdI ds.tail.tail) (hdI ds.tail.tail.tail)⟩

noncomputable def slices_Index_int_int_loops {α : Type} : List (LoopSpec α) := [slices_Index_int_int_l0_spec]

noncomputable def slices_Index_int_int_l0_ev {α : Type} (n : Nat) (st : St) (k : X → St → Option α) : Option α := loopN (evCode Go.Proofs.Try.prog (callD Go.Proofs.Try.prog (envOf (slices_Index_int_int_C) slices_Index_int_int_q slices_Index_int_int_inl 1000 slices_Index_int_int_ann false (slices_Index_int_int_loops) (fun _ => none)) 6) (((envOf (slices_Index_int_int_C) slices_Index_int_int_q slices_Index_int_int_inl 1000 slices_Index_int_int_ann false (slices_Index_int_int_loops) (fun _ => none)) : Env α).L 6 97) 1000 (slices_Index_int_int_ann 97) (false :: [true, false, true]) (loopC Go.Proofs.Try.prog 97 [true, false, true])) ((slices_Index_int_int_ann 97 [true, false, true]).head 0) ((slices_Index_int_int_ann 97 [true, false, true]).leave 0) n st k

theorem slices_Index_int_int_l0_eq {α : Type} : ∀ (n : Nat) (s3 : Seq (Int × Unit)) (v4 : Int) (x5 : Int) (x6 : Int) (k : X → St → Option α), slices_Index_int_int_l0_ev n (encSt slices_Index_int_int_l0_t slices_Index_int_int_l0_s slices_Index_int_int_l0_h [.q (.int .i64 (.nil)) s3, .i v4, .i x5, .i x6]) k = slices_Index_int_int_l0_run (fun y1 => k .ret (encSt [.dead, .dead, .dead, .dead, .int .i64, .dead, .dead, .dead, .dead, .dead, .dead, .dead, .dead, .dead, .dead, .dead, .dead, .dead, .dead] [] [] [.i y1])) (k (.exit 0) (encSt [.dead, .dead, .dead, .dead, .dead, .dead, .dead, .dead, .dead, .dead, .dead, .dead, .dead, .dead, .dead, .dead, .dead, .dead, .dead] [] [] [])) n s3 v4 x5 x6 := by
  intro n
  induction n with
  | zero => intros; kernel_rfl
  | succ n ih =>
    intro s3 v4 x5 x6 k
    have e : (fun (s3 : Seq (Int × Unit)) (v4 : Int) (x5 : Int) (x6 : Int) => slices_Index_int_int_l0_ev n (encSt slices_Index_int_int_l0_t slices_Index_int_int_l0_s slices_Index_int_int_l0_h [.q (.int .i64 (.nil)) s3, .i v4, .i x5, .i x6]) k) = (fun (s3 : Seq (Int × Unit)) (v4 : Int) (x5 : Int) (x6 : Int) => slices_Index_int_int_l0_run (fun y1 => k .ret (encSt [.dead, .dead, .dead, .dead, .int .i64, .dead, .dead, .dead, .dead, .dead, .dead, .dead, .dead, .dead, .dead, .dead, .dead, .dead, .dead] [] [] [.i y1])) (k (.exit 0) (encSt [.dead, .dead, .dead, .dead, .dead, .dead, .dead, .dead, .dead, .dead, .dead, .dead, .dead, .dead, .dead, .dead, .dead, .dead, .dead] [] [] [])) n s3 v4 x5 x6) := by
      funext s3 v4 x5 x6
      exact ih s3 v4 x5 x6 k
    have h1 : slices_Index_int_int_l0_ev (n + 1) (encSt slices_Index_int_int_l0_t slices_Index_int_int_l0_s slices_Index_int_int_l0_h [.q (.int .i64 (.nil)) s3, .i v4, .i x5, .i x6]) k = slices_Index_int_int_l0_step (fun y1 => k .ret (encSt [.dead, .dead, .dead, .dead, .int .i64, .dead, .dead, .dead, .dead, .dead, .dead, .dead, .dead, .dead, .dead, .dead, .dead, .dead, .dead] [] [] [.i y1])) (k (.exit 0) (encSt [.dead, .dead, .dead, .dead, .dead, .dead, .dead, .dead, .dead, .dead, .dead, .dead, .dead, .dead, .dead, .dead, .dead, .dead, .dead] [] [] [])) (fun (s3 : Seq (Int × Unit)) (v4 : Int) (x5 : Int) (x6 : Int) => slices_Index_int_int_l0_ev n (encSt slices_Index_int_int_l0_t slices_Index_int_int_l0_s slices_Index_int_int_l0_h [.q (.int .i64 (.nil)) s3, .i v4, .i x5, .i x6]) k) s3 v4 x5 x6 := by kernel_rfl
    have h2 := congrArg (fun r => slices_Index_int_int_l0_step (fun y1 => k .ret (encSt [.dead, .dead, .dead, .dead, .int .i64, .dead, .dead, .dead, .dead, .dead, .dead, .dead, .dead, .dead, .dead, .dead, .dead, .dead, .dead] [] [] [.i y1])) (k (.exit 0) (encSt [.dead, .dead, .dead, .dead, .dead, .dead, .dead, .dead, .dead, .dead, .dead, .dead, .dead, .dead, .dead, .dead, .dead, .dead, .dead] [] [] [])) r s3 v4 x5 x6) e
    have h3 : slices_Index_int_int_l0_step (fun y1 => k .ret (encSt [.dead, .dead, .dead, .dead, .int .i64, .dead, .dead, .dead, .dead, .dead, .dead, .dead, .dead, .dead, .dead, .dead, .dead, .dead, .dead] [] [] [.i y1])) (k (.exit 0) (encSt [.dead, .dead, .dead, .dead, .dead, .dead, .dead, .dead, .dead, .dead, .dead, .dead, .dead, .dead, .dead, .dead, .dead, .dead, .dead] [] [] [])) (fun (s3 : Seq (Int × Unit)) (v4 : Int) (x5 : Int) (x6 : Int) => slices_Index_int_int_l0_run (fun y1 => k .ret (encSt [.dead, .dead, .dead, .dead, .int .i64, .dead, .dead, .dead, .dead, .dead, .dead, .dead, .dead, .dead, .dead, .dead, .dead, .dead, .dead] [] [] [.i y1])) (k (.exit 0) (encSt [.dead, .dead, .dead, .dead, .dead, .dead, .dead, .dead, .dead, .dead, .dead, .dead, .dead, .dead, .dead, .dead, .dead, .dead, .dead] [] [] [])) n s3 v4 x5 x6) s3 v4 x5 x6 = slices_Index_int_int_l0_run (fun y1 => k .ret (encSt [.dead, .dead, .dead, .dead, .int .i64, .dead, .dead, .dead, .dead, .dead, .dead, .dead, .dead, .dead, .dead, .dead, .dead, .dead, .dead] [] [] [.i y1])) (k (.exit 0) (encSt [.dead, .dead, .dead, .dead, .dead, .dead, .dead, .dead, .dead, .dead, .dead, .dead, .dead, .dead, .dead, .dead, .dead, .dead, .dead] [] [] [])) (n + 1) s3 v4 x5 x6 := by kernel_rfl
    exact h1.trans (h2.trans h3)

theorem slices_Index_int_int_l0_ok {α : Type} : (slices_Index_int_int_l0_spec : LoopSpec α).ok Go.Proofs.Try.prog (envOf (slices_Index_int_int_C) slices_Index_int_int_q slices_Index_int_int_inl 1000 slices_Index_int_int_ann false (slices_Index_int_int_loops) (fun _ => none)) := by
  intro ds k
  have h1 : slices_Index_int_int_l0_ev 1000 (encSt slices_Index_int_int_l0_t slices_Index_int_int_l0_s slices_Index_int_int_l0_h ds) k = slices_Index_int_int_l0_ev 1000 (encSt slices_Index_int_int_l0_t slices_Index_int_int_l0_s slices_Index_int_int_l0_h [.q (.int .i64 (.nil)) (hdQ (.int .i64 (.nil)) ds), .i (hdI ds.tail), .i (hdI ds.tail.tail), .i (hdI ds.tail.tail.tail)]) k := by kernel_rfl
  have h2 := slices_Index_int_int_l0_eq 1000 (hdQ (.int .i64 (.nil)) ds) (hdI ds.tail) (hdI ds.tail.tail) (hdI ds.tail.tail.tail) k
  exact h1.trans h2

theorem slices_Index_int_int_ev {α : Type} : EvOk (α := α) Go.Proofs.Try.prog (envOf (slices_Index_int_int_C) slices_Index_int_int_q slices_Index_int_int_inl 1000 slices_Index_int_int_ann false (slices_Index_int_int_loops) (fun _ => none)) 6 (slices_Index_int_int_sp (slices_Index_int_int)) := by intro ds k; kernel_rfl

theorem slices_Index_int_int_ok {α : Type} : (slices_Index_int_int_spec : FunSpec α).ok Go.Proofs.Try.prog :=
  FunSpec.ok_of (sp := slices_Index_int_int_spec) (C := slices_Index_int_int_C) (q := slices_Index_int_int_q) (inl := slices_Index_int_int_inl) (N := 1000) (ann := slices_Index_int_int_ann) (fr := false) (D := 6) (l := (slices_Index_int_int_loops)) (hk := (fun _ => none)) okNil (lokCons (slices_Index_int_int_l0_ok) lokNil) noHooks (slices_Index_int_int_ev)

end
end Go.Rv.Try

set_option linter.unusedVariables false
set_option maxRecDepth 100000
set_option maxHeartbeats 4000000
namespace Go.Rv.Try
open Go Go.Rv Go.RowKit
noncomputable section

-- slices.Contains[[]int,int]

abbrev slices_Contains_int_int_T (α : Type) : Type := (Seq (Int × Unit)) → Int → (Bool → Option α) → Option α

noncomputable def slices_Contains_int_int_g {α : Type} (slices_Index_int_int : slices_Index_int_int_T α) (s1 : Seq (Int × Unit)) (v2 : Int) (k : Bool → Option α) : Option α :=
  (slices_Index_int_int s1 v2 fun r3 =>
    (k (decide (r3 ≥ 0))))

noncomputable def slices_Contains_int_int {α : Type} : slices_Contains_int_int_T α := slices_Contains_int_int_g slices_Index_int_int

noncomputable def slices_Contains_int_int_sp {α : Type} (slices_Contains_int_int : slices_Contains_int_int_T α) : FunSpec α := ⟨85, [.sl (.int .i64 (.nil)), .int .i64], [], fun ds k => slices_Contains_int_int (hdQ (.int .i64 (.nil)) ds) (hdI ds.tail) (fun r1 => k (enc dep (.bool) [.b r1]).1 [])⟩

noncomputable def slices_Contains_int_int_spec {α : Type} : FunSpec α := slices_Contains_int_int_sp slices_Contains_int_int

noncomputable def slices_Contains_int_int_C {α : Type} (slices_Index_int_int : slices_Index_int_int_T α) : List (FunSpec α) := [slices_Index_int_int_sp slices_Index_int_int]

noncomputable def slices_Contains_int_int_q : FuncId → Bool := fun f => Nat.beq f 97

noncomputable def slices_Contains_int_int_inl : FuncId → Bool := fun f => false

noncomputable def slices_Contains_int_int_ann : FuncId → AnnT := fun f p => ⟨[], [], [], [], 0, [], []⟩

noncomputable def slices_Contains_int_int_loops {α : Type} (slices_Index_int_int : slices_Index_int_int_T α) : List (LoopSpec α) := []

theorem slices_Contains_int_int_ev {α : Type} (slices_Index_int_int : slices_Index_int_int_T α) : EvOk (α := α) Go.Proofs.Try.prog (envOf (slices_Contains_int_int_C slices_Index_int_int) slices_Contains_int_int_q slices_Contains_int_int_inl 1000 slices_Contains_int_int_ann false (slices_Contains_int_int_loops slices_Index_int_int) (fun _ => none)) 6 (slices_Contains_int_int_sp (slices_Contains_int_int_g slices_Index_int_int)) := by intro ds k; kernel_rfl

theorem slices_Contains_int_int_ok {α : Type} : (slices_Contains_int_int_spec : FunSpec α).ok Go.Proofs.Try.prog :=
  FunSpec.ok_of (sp := slices_Contains_int_int_spec) (C := slices_Contains_int_int_C slices_Index_int_int) (q := slices_Contains_int_int_q) (inl := slices_Contains_int_int_inl) (N := 1000) (ann := slices_Contains_int_int_ann) (fr := false) (D := 6) (l := (slices_Contains_int_int_loops slices_Index_int_int)) (hk := (fun _ => none)) (okCons slices_Index_int_int_ok okNil) lokNil noHooks (slices_Contains_int_int_ev slices_Index_int_int)

end
end Go.Rv.Try

set_option linter.unusedVariables false
set_option maxRecDepth 100000
set_option maxHeartbeats 4000000
namespace Go.Rv.Try
open Go Go.Rv Go.RowKit
noncomputable section

-- drayman/inbox.Had

abbrev inbox_Had_T (α : Type) : Type := (Int × Int × (Seq (Int × Unit)) × Unit) → Int → (Bool → Option α) → Option α

noncomputable def inbox_Had_g {α : Type} (slices_Contains_int_int : slices_Contains_int_int_T α) (b1 : Int × Int × (Seq (Int × Unit)) × Unit) (id2 : Int) (k : Bool → Option α) : Option α :=
  (cond (!(decide (id2 ≤ b1.2.1)))
    (slices_Contains_int_int b1.2.2.1 id2 fun r3 =>
      (k r3))
    (k true))

noncomputable def inbox_Had {α : Type} : inbox_Had_T α := inbox_Had_g slices_Contains_int_int

noncomputable def inbox_Had_sp {α : Type} (inbox_Had : inbox_Had_T α) : FunSpec α := ⟨63, [.agg [.int .i64, .int .i64, .sl (.int .i64 (.nil))], .int .i64], [], fun ds k => inbox_Had (hdI ds, hdI ds.tail, hdQ (.int .i64 (.nil)) ds.tail.tail, ()) (hdI ds.tail.tail.tail) (fun r1 => k (enc dep (.bool) [.b r1]).1 [])⟩

noncomputable def inbox_Had_spec {α : Type} : FunSpec α := inbox_Had_sp inbox_Had

noncomputable def inbox_Had_C {α : Type} (slices_Contains_int_int : slices_Contains_int_int_T α) : List (FunSpec α) := [slices_Contains_int_int_sp slices_Contains_int_int]

noncomputable def inbox_Had_q : FuncId → Bool := fun f => Nat.beq f 85

noncomputable def inbox_Had_inl : FuncId → Bool := fun f => false

noncomputable def inbox_Had_ann : FuncId → AnnT := fun f p => ⟨[], [], [], [], 0, [], []⟩

noncomputable def inbox_Had_loops {α : Type} (slices_Contains_int_int : slices_Contains_int_int_T α) : List (LoopSpec α) := []

theorem inbox_Had_ev {α : Type} (slices_Contains_int_int : slices_Contains_int_int_T α) : EvOk (α := α) Go.Proofs.Try.prog (envOf (inbox_Had_C slices_Contains_int_int) inbox_Had_q inbox_Had_inl 1000 inbox_Had_ann false (inbox_Had_loops slices_Contains_int_int) (fun _ => none)) 6 (inbox_Had_sp (inbox_Had_g slices_Contains_int_int)) := by intro ds k; kernel_rfl

theorem inbox_Had_ok {α : Type} : (inbox_Had_spec : FunSpec α).ok Go.Proofs.Try.prog :=
  FunSpec.ok_of (sp := inbox_Had_spec) (C := inbox_Had_C slices_Contains_int_int) (q := inbox_Had_q) (inl := inbox_Had_inl) (N := 1000) (ann := inbox_Had_ann) (fr := false) (D := 6) (l := (inbox_Had_loops slices_Contains_int_int)) (hk := (fun _ => none)) (okCons slices_Contains_int_int_ok okNil) lokNil noHooks (inbox_Had_ev slices_Contains_int_int)

end
end Go.Rv.Try

set_option linter.unusedVariables false
set_option maxRecDepth 100000
set_option maxHeartbeats 4000000
namespace Go.Rv.Try
open Go Go.Rv Go.RowKit
noncomputable section

-- cmp.isNaN[int]

abbrev cmp_isNaN_int_T (α : Type) : Type := Int → (Bool → Option α) → Option α

noncomputable def cmp_isNaN_int {α : Type} (x1 : Int) (k : Bool → Option α) : Option α :=
  (k (x1 != x1))

noncomputable def cmp_isNaN_int_sp {α : Type} (cmp_isNaN_int : cmp_isNaN_int_T α) : FunSpec α := ⟨102, [.int .i64], [], fun ds k => cmp_isNaN_int (hdI ds) (fun r1 => k (enc dep (.bool) [.b r1]).1 [])⟩

noncomputable def cmp_isNaN_int_spec {α : Type} : FunSpec α := cmp_isNaN_int_sp cmp_isNaN_int

noncomputable def cmp_isNaN_int_C {α : Type} : List (FunSpec α) := []

noncomputable def cmp_isNaN_int_q : FuncId → Bool := fun f => false

noncomputable def cmp_isNaN_int_inl : FuncId → Bool := fun f => false

noncomputable def cmp_isNaN_int_ann : FuncId → AnnT := fun f p => ⟨[], [], [], [], 0, [], []⟩

noncomputable def cmp_isNaN_int_loops {α : Type} : List (LoopSpec α) := []

theorem cmp_isNaN_int_ev {α : Type} : EvOk (α := α) Go.Proofs.Try.prog (envOf (cmp_isNaN_int_C) cmp_isNaN_int_q cmp_isNaN_int_inl 1000 cmp_isNaN_int_ann false (cmp_isNaN_int_loops) (fun _ => none)) 6 (cmp_isNaN_int_sp (cmp_isNaN_int)) := by intro ds k; kernel_rfl

theorem cmp_isNaN_int_ok {α : Type} : (cmp_isNaN_int_spec : FunSpec α).ok Go.Proofs.Try.prog :=
  FunSpec.ok_of (sp := cmp_isNaN_int_spec) (C := cmp_isNaN_int_C) (q := cmp_isNaN_int_q) (inl := cmp_isNaN_int_inl) (N := 1000) (ann := cmp_isNaN_int_ann) (fr := false) (D := 6) (l := (cmp_isNaN_int_loops)) (hk := (fun _ => none)) okNil lokNil noHooks (cmp_isNaN_int_ev)

end
end Go.Rv.Try

set_option linter.unusedVariables false
set_option maxRecDepth 100000
set_option maxHeartbeats 4000000
namespace Go.Rv.Try
open Go Go.Rv Go.RowKit
noncomputable section

-- cmp.Less[int]

abbrev cmp_Less_int_T (α : Type) : Type := Int → Int → (Bool → Option α) → Option α

noncomputable def cmp_Less_int_g {α : Type} (cmp_isNaN_int : cmp_isNaN_int_T α) (x1 : Int) (y2 : Int) (k : Bool → Option α) : Option α :=
  (cmp_isNaN_int x1 fun r3 =>
    (cond r3
      (cmp_isNaN_int y2 fun r4 =>
        (cond (!(!r4))
          (k (decide (x1 < y2)))
          (k true)))
      (k (decide (x1 < y2)))))

noncomputable def cmp_Less_int {α : Type} : cmp_Less_int_T α := cmp_Less_int_g cmp_isNaN_int

noncomputable def cmp_Less_int_sp {α : Type} (cmp_Less_int : cmp_Less_int_T α) : FunSpec α := ⟨98, [.int .i64, .int .i64], [], fun ds k => cmp_Less_int (hdI ds) (hdI ds.tail) (fun r1 => k (enc dep (.bool) [.b r1]).1 [])⟩

noncomputable def cmp_Less_int_spec {α : Type} : FunSpec α := cmp_Less_int_sp cmp_Less_int

noncomputable def cmp_Less_int_C {α : Type} (cmp_isNaN_int : cmp_isNaN_int_T α) : List (FunSpec α) := [cmp_isNaN_int_sp cmp_isNaN_int]

noncomputable def cmp_Less_int_q : FuncId → Bool := fun f => Nat.beq f 102

noncomputable def cmp_Less_int_inl : FuncId → Bool := fun f => false

noncomputable def cmp_Less_int_ann : FuncId → AnnT := fun f p => ⟨[], [], [], [], 0, [], []⟩

noncomputable def cmp_Less_int_loops {α : Type} (cmp_isNaN_int : cmp_isNaN_int_T α) : List (LoopSpec α) := []

theorem cmp_Less_int_ev {α : Type} (cmp_isNaN_int : cmp_isNaN_int_T α) : EvOk (α := α) Go.Proofs.Try.prog (envOf (cmp_Less_int_C cmp_isNaN_int) cmp_Less_int_q cmp_Less_int_inl 1000 cmp_Less_int_ann false (cmp_Less_int_loops cmp_isNaN_int) (fun _ => none)) 6 (cmp_Less_int_sp (cmp_Less_int_g cmp_isNaN_int)) := by intro ds k; kernel_rfl

theorem cmp_Less_int_ok {α : Type} : (cmp_Less_int_spec : FunSpec α).ok Go.Proofs.Try.prog :=
  FunSpec.ok_of (sp := cmp_Less_int_spec) (C := cmp_Less_int_C cmp_isNaN_int) (q := cmp_Less_int_q) (inl := cmp_Less_int_inl) (N := 1000) (ann := cmp_Less_int_ann) (fr := false) (D := 6) (l := (cmp_Less_int_loops cmp_isNaN_int)) (hk := (fun _ => none)) (okCons cmp_isNaN_int_ok okNil) lokNil noHooks (cmp_Less_int_ev cmp_isNaN_int)

end
end Go.Rv.Try

set_option linter.unusedVariables false
set_option maxRecDepth 100000
set_option maxHeartbeats 4000000
namespace Go.Rv.Try
open Go Go.Rv Go.RowKit
noncomputable section

-- slices.isNaN[int]

abbrev slices_isNaN_int_T (α : Type) : Type := Int → (Bool → Option α) → Option α

noncomputable def slices_isNaN_int {α : Type} (x1 : Int) (k : Bool → Option α) : Option α :=
  (k (x1 != x1))

noncomputable def slices_isNaN_int_sp {α : Type} (slices_isNaN_int : slices_isNaN_int_T α) : FunSpec α := ⟨99, [.int .i64], [], fun ds k => slices_isNaN_int (hdI ds) (fun r1 => k (enc dep (.bool) [.b r1]).1 [])⟩

noncomputable def slices_isNaN_int_spec {α : Type} : FunSpec α := slices_isNaN_int_sp slices_isNaN_int

noncomputable def slices_isNaN_int_C {α : Type} : List (FunSpec α) := []

noncomputable def slices_isNaN_int_q : FuncId → Bool := fun f => false

noncomputable def slices_isNaN_int_inl : FuncId → Bool := fun f => false

noncomputable def slices_isNaN_int_ann : FuncId → AnnT := fun f p => ⟨[], [], [], [], 0, [], []⟩

noncomputable def slices_isNaN_int_loops {α : Type} : List (LoopSpec α) := []

theorem slices_isNaN_int_ev {α : Type} : EvOk (α := α) Go.Proofs.Try.prog (envOf (slices_isNaN_int_C) slices_isNaN_int_q slices_isNaN_int_inl 1000 slices_isNaN_int_ann false (slices_isNaN_int_loops) (fun _ => none)) 6 (slices_isNaN_int_sp (slices_isNaN_int)) := by intro ds k; kernel_rfl

theorem slices_isNaN_int_ok {α : Type} : (slices_isNaN_int_spec : FunSpec α).ok Go.Proofs.Try.prog :=
  FunSpec.ok_of (sp := slices_isNaN_int_spec) (C := slices_isNaN_int_C) (q := slices_isNaN_int_q) (inl := slices_isNaN_int_inl) (N := 1000) (ann := slices_isNaN_int_ann) (fr := false) (D := 6) (l := (slices_isNaN_int_loops)) (hk := (fun _ => none)) okNil lokNil noHooks (slices_isNaN_int_ev)

end
end Go.Rv.Try

set_option linter.unusedVariables false
set_option maxRecDepth 100000
set_option maxHeartbeats 4000000
namespace Go.Rv.Try
open Go Go.Rv Go.RowKit
noncomputable section

-- slices.BinarySearch[[]int,int]

abbrev slices_BinarySearch_int_int_T (α : Type) : Type := (Seq (Int × Unit)) → Int → (Int → Bool → Option α) → Option α

noncomputable def slices_BinarySearch_int_int_l0_step {α : Type} (cmp_Less_int : cmp_Less_int_T α) (slices_isNaN_int : slices_isNaN_int_T α) (k0 : (Seq (Int × Unit)) → (Int) → (Int) → (Int) → Option α) (rec : (Seq (Int × Unit)) → (Int) → (Int) → (Int) → (Int) → Option α) (x3 : Seq (Int × Unit)) (target4 : Int) (n5 : Int) (i6 : Int) (j7 : Int) : Option α :=
  (cond (decide (i6 < j7))
    (cond ((decide ((0 : Int) ≤ (IntKind.i64.wrap (Int.fdiv (IntKind.u64.wrap (IntKind.i64.wrap (i6 + j7))) (2 ^ (min 1 IntKind.u64.bits)))))) && (decide ((IntKind.i64.wrap (Int.fdiv (IntKind.u64.wrap (IntKind.i64.wrap (i6 + j7))) (2 ^ (min 1 IntKind.u64.bits)))) < (x3.n : Int))))
      (cmp_Less_int ((x3.g (IntKind.i64.wrap (Int.fdiv (IntKind.u64.wrap (IntKind.i64.wrap (i6 + j7))) (2 ^ (min 1 IntKind.u64.bits)))).toNat).1) target4 fun r8 =>
        (cond r8
          (rec x3 target4 n5 (IntKind.i64.wrap ((IntKind.i64.wrap (Int.fdiv (IntKind.u64.wrap (IntKind.i64.wrap (i6 + j7))) (2 ^ (min 1 IntKind.u64.bits)))) + 1)) j7)
          (rec x3 target4 n5 i6 (IntKind.i64.wrap (Int.fdiv (IntKind.u64.wrap (IntKind.i64.wrap (i6 + j7))) (2 ^ (min 1 IntKind.u64.bits)))))))
      none)
    (k0 x3 target4 n5 i6))

noncomputable def slices_BinarySearch_int_int_l0_run {α : Type} (cmp_Less_int : cmp_Less_int_T α) (slices_isNaN_int : slices_isNaN_int_T α) (k0 : (Seq (Int × Unit)) → (Int) → (Int) → (Int) → Option α) : Nat → (Seq (Int × Unit)) → (Int) → (Int) → (Int) → (Int) → Option α
  | 0, _, _, _, _, _ => none
  | n + 1, x3, target4, n5, i6, j7 => slices_BinarySearch_int_int_l0_step cmp_Less_int slices_isNaN_int k0 (fun x3 target4 n5 i6 j7 => slices_BinarySearch_int_int_l0_run cmp_Less_int slices_isNaN_int k0 n x3 target4 n5 i6 j7) x3 target4 n5 i6 j7

noncomputable def slices_BinarySearch_int_int_g {α : Type} (cmp_Less_int : cmp_Less_int_T α) (slices_isNaN_int : slices_isNaN_int_T α) (x1 : Seq (Int × Unit)) (target2 : Int) (k : Int → Bool → Option α) : Option α :=
  (slices_BinarySearch_int_int_l0_run cmp_Less_int slices_isNaN_int
    (fun x9 x10 x11 x12 =>
      (cond (decide (x12 < x11))
        (cond ((decide ((0 : Int) ≤ x12)) && (decide (x12 < (x9.n : Int))))
          (cond (!((x9.g x12.toNat).1 == x10))
            (cond ((decide ((0 : Int) ≤ x12)) && (decide (x12 < (x9.n : Int))))
              (slices_isNaN_int ((x9.g x12.toNat).1) fun r13 =>
                (cond r13
                  (slices_isNaN_int x10 fun r14 =>
                    (k x12 r14))
                  (k x12 false)))
              none)
            (k x12 true))
          none)
        (k x12 false)))
    1000 x1 target2 (x1.n : Int) 0 (x1.n : Int))

noncomputable def slices_BinarySearch_int_int {α : Type} : slices_BinarySearch_int_int_T α := slices_BinarySearch_int_int_g cmp_Less_int slices_isNaN_int

noncomputable def slices_BinarySearch_int_int_sp {α : Type} (slices_BinarySearch_int_int : slices_BinarySearch_int_int_T α) : FunSpec α := ⟨86, [.sl (.int .i64 (.nil)), .int .i64], [], fun ds k => slices_BinarySearch_int_int (hdQ (.int .i64 (.nil)) ds) (hdI ds.tail) (fun r1 r2 => k (enc dep (.tup [.int .i64, .bool]) [.i r1, .b r2]).1 [])⟩

noncomputable def slices_BinarySearch_int_int_spec {α : Type} : FunSpec α := slices_BinarySearch_int_int_sp slices_BinarySearch_int_int

noncomputable def slices_BinarySearch_int_int_C {α : Type} (cmp_Less_int : cmp_Less_int_T α) (slices_isNaN_int : slices_isNaN_int_T α) : List (FunSpec α) := [cmp_Less_int_sp cmp_Less_int, slices_isNaN_int_sp slices_isNaN_int]

noncomputable def slices_BinarySearch_int_int_q : FuncId → Bool := fun f => Nat.beq f 98 || Nat.beq f 99

noncomputable def slices_BinarySearch_int_int_inl : FuncId → Bool := fun f => false

noncomputable def slices_BinarySearch_int_int_ann : FuncId → AnnT := fun f p => if f = 86 then (if p = [false, true, true, true] then ⟨[0, 1, 6, 7, 8], [], [0, 1, 6, 7], [4, 5], 0, [], []⟩ else ⟨[], [], [], [], 0, [], []⟩) else ⟨[], [], [], [], 0, [], []⟩

noncomputable def slices_BinarySearch_int_int_l0_t : List Sh := [.sl (.int .i64 (.nil)), .int .i64, .dead, .dead, .dead, .dead, .int .i64, .int .i64, .int .i64, .dead, .dead, .dead, .dead, .dead, .dead, .dead, .dead, .dead, .dead, .dead, .dead, .dead, .dead, .dead, .dead, .dead, .dead, .dead, .dead, .dead, .dead, .dead, .dead, .dead, .dead, .dead, .dead, .dead, .dead, .dead, .dead, .dead, .dead, .dead, .dead, .dead, .dead, .dead, .dead, .dead, .dead, .dead, .dead, .dead]
noncomputable def slices_BinarySearch_int_int_l0_s : List (List Sh) := []
noncomputable def slices_BinarySearch_int_int_l0_h : List BSh := []

noncomputable def slices_BinarySearch_int_int_l0_spec {α : Type} (cmp_Less_int : cmp_Less_int_T α) (slices_isNaN_int : slices_isNaN_int_T α) : LoopSpec α := ⟨6, 86, [false, true, true, true], slices_BinarySearch_int_int_l0_t, slices_BinarySearch_int_int_l0_s, slices_BinarySearch_int_int_l0_h, fun ds k => slices_BinarySearch_int_int_l0_run cmp_Less_int slices_isNaN_int (fun y1 y2 y3 y4 => k (.exit 0) (encSt [.sl (.int .i64 (.nil)), .int .i64, .dead, .dead, .dead, .dead, .int .i64, .int .i64, .dead, .dead, .dead, .dead, .dead, .dead, .dead, .dead, .dead, .dead, .dead, .dead, .dead, .dead, .dead, .dead, .dead, .dead, .dead, .dead, .dead, .dead, .dead, .dead, .dead, .dead, .dead, .dead, .dead, .dead, .dead, .dead, .dead, .dead, .dead, .dead, .dead, .dead, .dead, .dead, .dead, .dead, .dead, .dead, .dead, .dead] [] [] [.q (.int .i64 (.nil)) y1, .i y2, .i y3, .i y4])) 1000 (hdQ (.int .i64 (.nil)) ds) (hdI ds.tail) (hdI ds.tail.tail) (hdI ds.tail.tail.tail) (hdI ds.tail.tail.tail.tail)⟩

noncomputable def slices_BinarySearch_int_int_loops {α : Type} (cmp_Less_int : cmp_Less_int_T α) (slices_isNaN_int : slices_isNaN_int_T α) : List (LoopSpec α) := [slices_BinarySearch_int_int_l0_spec cmp_Less_int slices_isNaN_int]

noncomputable def slices_BinarySearch_int_int_l0_ev {α : Type} (cmp_Less_int : cmp_Less_int_T α) (slices_isNaN_int : slices_isNaN_int_T α) (n : Nat) (st : St) (k : X → St → Option α) : Option α := loopN (evCode Go.Proofs.Try.prog (callD Go.Proofs.Try.prog (envOf (slices_BinarySearch_int_int_C cmp_Less_int slices_isNaN_int) slices_BinarySearch_int_int_q slices_BinarySearch_int_int_inl 1000 slices_BinarySearch_int_int_ann false (slices_BinarySearch_int_int_loops cmp_Less_int slices_isNaN_int) (fun _ => none)) 6) (((envOf (slices_BinarySearch_int_int_C cmp_Less_int slices_isNaN_int) slices_BinarySearch_int_int_q slices_BinarySearch_int_int_inl 1000 slices_BinarySearch_int_int_ann false (slices_BinarySearch_int_int_loops cmp_Less_int slices_isNaN_int) (fun _ => none)) : Env α).L 6 86) 1000 (slices_BinarySearch_int_int_ann 86) (false :: [false, true, true, true]) (loopC Go.Proofs.Try.prog 86 [false, true, true, true])) ((slices_BinarySearch_int_int_ann 86 [false, true, true, true]).head 0) ((slices_BinarySearch_int_int_ann 86 [false, true, true, true]).leave 0) n st k

theorem slices_BinarySearch_int_int_l0_eq {α : Type} (cmp_Less_int : cmp_Less_int_T α) (slices_isNaN_int : slices_isNaN_int_T α) : ∀ (n : Nat) (x3 : Seq (Int × Unit)) (target4 : Int) (n5 : Int) (i6 : Int) (j7 : Int) (k : X → St → Option α), slices_BinarySearch_int_int_l0_ev cmp_Less_int slices_isNaN_int n (encSt slices_BinarySearch_int_int_l0_t slices_BinarySearch_int_int_l0_s slices_BinarySearch_int_int_l0_h [.q (.int .i64 (.nil)) x3, .i target4, .i n5, .i i6, .i j7]) k = slices_BinarySearch_int_int_l0_run cmp_Less_int slices_isNaN_int (fun y1 y2 y3 y4 => k (.exit 0) (encSt [.sl (.int .i64 (.nil)), .int .i64, .dead, .dead, .dead, .dead, .int .i64, .int .i64, .dead, .dead, .dead, .dead, .dead, .dead, .dead, .dead, .dead, .dead, .dead, .dead, .dead, .dead, .dead, .dead, .dead, .dead, .dead, .dead, .dead, .dead, .dead, .dead, .dead, .dead, .dead, .dead, .dead, .dead, .dead, .dead, .dead, .dead, .dead, .dead, .dead, .dead, .dead, .dead, .dead, .dead, .dead, .dead, .dead, .dead] [] [] [.q (.int .i64 (.nil)) y1, .i y2, .i y3, .i y4])) n x3 target4 n5 i6 j7 := by
  intro n
  induction n with
  | zero => intros; kernel_rfl
  | succ n ih =>
    intro x3 target4 n5 i6 j7 k
    have e : (fun (x3 : Seq (Int × Unit)) (target4 : Int) (n5 : Int) (i6 : Int) (j7 : Int) => slices_BinarySearch_int_int_l0_ev cmp_Less_int slices_isNaN_int n (encSt slices_BinarySearch_int_int_l0_t slices_BinarySearch_int_int_l0_s slices_BinarySearch_int_int_l0_h [.q (.int .i64 (.nil)) x3, .i target4, .i n5, .i i6, .i j7]) k) = (fun (x3 : Seq (Int × Unit)) (target4 : Int) (n5 : Int) (i6 : Int) (j7 : Int) => slices_BinarySearch_int_int_l0_run cmp_Less_int slices_isNaN_int (fun y1 y2 y3 y4 => k (.exit 0) (encSt [.sl (.int .i64 (.nil)), .int .i64, .dead, .dead, .dead, .dead, .int .i64, .int .i64, .dead, .dead, .dead, .dead, .dead, .dead, .dead, .dead, .dead, .dead, .dead, .dead, .dead, .dead, .dead, .dead, .dead, .dead, .dead, .dead, .dead, .dead, .dead, .dead, .dead, .dead, .dead, .dead, .dead, .dead, .dead, .dead, .dead, .dead, .dead, .dead, .dead, .dead, .dead, .dead, .dead, .dead, .dead, .dead, .dead, .dead] [] [] [.q (.int .i64 (.nil)) y1, .i y2, .i y3, .i y4])) n x3 target4 n5 i6 j7) := by
      funext x3 target4 n5 i6 j7
      exact ih x3 target4 n5 i6 j7 k
    have h1 : slices_BinarySearch_int_int_l0_ev cmp_Less_int slices_isNaN_int (n + 1) (encSt slices_BinarySearch_int_int_l0_t slices_BinarySearch_int_int_l0_s slices_BinarySearch_int_int_l0_h [.q (.int .i64 (.nil)) x3, .i target4, .i n5, .i i6, .i j7]) k = slices_BinarySearch_int_int_l0_step cmp_Less_int slices_isNaN_int (fun y1 y2 y3 y4 => k (.exit 0) (encSt [.sl (.int .i64 (.nil)), .int .i64, .dead, .dead, .dead, .dead, .int .i64, .int .i64, .dead, .dead, .dead, .dead, .dead, .dead, .dead, .dead, .dead, .dead, .dead, .dead, .dead, .dead, .dead, .dead, .dead, .dead, .dead, .dead, .dead, .dead, .dead, .dead, .dead, .dead, .dead, .dead, .dead, .dead, .dead, .dead, .dead, .dead, .dead, .dead, .dead, .dead, .dead, .dead, .dead, .dead, .dead, .dead, .dead, .dead] [] [] [.q (.int .i64 (.nil)) y1, .i y2, .i y3, .i y4])) (fun (x3 : Seq (Int × Unit)) (target4 : Int) (n5 : Int) (i6 : Int) (j7 : Int) => slices_BinarySearch_int_int_l0_ev cmp_Less_int slices_isNaN_int n (encSt slices_BinarySearch_int_int_l0_t slices_BinarySearch_int_int_l0_s slices_BinarySearch_int_int_l0_h [.q (.int .i64 (.nil)) x3, .i target4, .i n5, .i i6, .i j7]) k) x3 target4 n5 i6 j7 := by kernel_rfl
    have h2 := congrArg (fun r => slices_BinarySearch_int_int_l0_step cmp_Less_int slices_isNaN_int (fun y1 y2 y3 y4 => k (.exit 0) (encSt [.sl (.int .i64 (.nil)), .int .i64, .dead, .dead, .dead, .dead, .int .i64, .int .i64, .dead, .dead, .dead, .dead, .dead, .dead, .dead, .dead, .dead, .dead, .dead, .dead, .dead, .dead, .dead, .dead, .dead, .dead, .dead, .dead, .dead, .dead, .dead, .dead, .dead, .dead, .dead, .dead, .dead, .dead, .dead, .dead, .dead, .dead, .dead, .dead, .dead, .dead, .dead, .dead, .dead, .dead, .dead, .dead, .dead, .dead] [] [] [.q (.int .i64 (.nil)) y1, .i y2, .i y3, .i y4])) r x3 target4 n5 i6 j7) e
    have h3 : slices_BinarySearch_int_int_l0_step cmp_Less_int slices_isNaN_int (fun y1 y2 y3 y4 => k (.exit 0) (encSt [.sl (.int .i64 (.nil)), .int .i64, .dead, .dead, .dead, .dead, .int .i64, .int .i64, .dead, .dead, .dead, .dead, .dead, .dead, .dead, .dead, .dead, .dead, .dead, .dead, .dead, .dead, .dead, .dead, .dead, .dead, .dead, .dead, .dead, .dead, .dead, .dead, .dead, .dead, .dead, .dead, .dead, .dead, .dead, .dead, .dead, .dead, .dead, .dead, .dead, .dead, .dead, .dead, .dead, .dead, .dead, .dead, .dead, .dead] [] [] [.q (.int .i64 (.nil)) y1, .i y2, .i y3, .i y4])) (fun (x3 : Seq (Int × Unit)) (target4 : Int) (n5 : Int) (i6 : Int) (j7 : Int) => slices_BinarySearch_int_int_l0_run cmp_Less_int slices_isNaN_int (fun y1 y2 y3 y4 => k (.exit 0) (encSt [.sl (.int .i64 (.nil)), .int .i64, .dead, .dead, .dead, .dead, .int .i64, .int .i64, .dead, .dead, .dead, .dead, .dead, .dead, .dead, .dead, .dead, .dead, .dead, .dead, .dead, .dead, .dead, .dead, .dead, .dead, .dead, .dead, .dead, .dead, .dead, .dead, .dead, .dead, .dead, .dead, .dead, .dead, .dead, .dead, .dead, .dead, .dead, .dead, .dead, .dead, .dead, .dead, .dead, .dead, .dead, .dead, .dead, .dead] [] [] [.q (.int .i64 (.nil)) y1, .i y2, .i y3, .i y4])) n x3 target4 n5 i6 j7) x3 target4 n5 i6 j7 = slices_BinarySearch_int_int_l0_run cmp_Less_int slices_isNaN_int (fun y1 y2 y3 y4 => k (.exit 0) (encSt [.sl (.int .i64 (.nil)), .int .i64, .dead, .dead, .dead, .dead, .int .i64, .int .i64, .dead, .dead, .dead, .dead, .dead, .dead, .dead, .dead, .dead, .dead, .dead, .dead, .dead, .dead, .dead, .dead, .dead, .dead, .dead, .dead, .dead, .dead, .dead, .dead, .dead, .dead, .dead, .dead, .dead, .dead, .dead, .dead, .dead, .dead, .dead, .dead, .dead, .dead, .dead, .dead, .dead, .dead, .dead, .dead, .dead, .dead] [] [] [.q (.int .i64 (.nil)) y1, .i y2, .i y3, .i y4])) (n + 1) x3 target4 n5 i6 j7 := by kernel_rfl
    exact h1.trans (h2.trans h3)

theorem slices_BinarySearch_int_int_l0_ok {α : Type} (cmp_Less_int : cmp_Less_int_T α) (slices_isNaN_int : slices_isNaN_int_T α) : (slices_BinarySearch_int_int_l0_spec cmp_Less_int slices_isNaN_int : LoopSpec α).ok Go.Proofs.Try.prog (envOf (slices_BinarySearch_int_int_C cmp_Less_int slices_isNaN_int) slices_BinarySearch_int_int_q slices_BinarySearch_int_int_inl 1000 slices_BinarySearch_int_int_ann false (slices_BinarySearch_int_int_loops cmp_Less_int slices_isNaN_int) (fun _ => none)) := by
  intro ds k
  have h1 : slices_BinarySearch_int_int_l0_ev cmp_Less_int slices_isNaN_int 1000 (encSt slices_BinarySearch_int_int_l0_t slices_BinarySearch_int_int_l0_s slices_BinarySearch_int_int_l0_h ds) k = slices_BinarySearch_int_int_l0_ev cmp_Less_int slices_isNaN_int 1000 (encSt slices_BinarySearch_int_int_l0_t slices_BinarySearch_int_int_l0_s slices_BinarySearch_int_int_l0_h [.q (.int .i64 (.nil)) (hdQ (.int .i64 (.nil)) ds), .i (hdI ds.tail), .i (hdI ds.tail.tail), .i (hdI ds.tail.tail.tail), .i (hdI ds.tail.tail.tail.tail)]) k := by kernel_rfl
  have h2 := slices_BinarySearch_int_int_l0_eq cmp_Less_int slices_isNaN_int 1000 (hdQ (.int .i64 (.nil)) ds) (hdI ds.tail) (hdI ds.tail.tail) (hdI ds.tail.tail.tail) (hdI ds.tail.tail.tail.tail) k
  exact h1.trans h2

theorem slices_BinarySearch_int_int_ev {α : Type} (cmp_Less_int : cmp_Less_int_T α) (slices_isNaN_int : slices_isNaN_int_T α) : EvOk (α := α) Go.Proofs.Try.prog (envOf (slices_BinarySearch_int_int_C cmp_Less_int slices_isNaN_int) slices_BinarySearch_int_int_q slices_BinarySearch_int_int_inl 1000 slices_BinarySearch_int_int_ann false (slices_BinarySearch_int_int_loops cmp_Less_int slices_isNaN_int) (fun _ => none)) 6 (slices_BinarySearch_int_int_sp (slices_BinarySearch_int_int_g cmp_Less_int slices_isNaN_int)) := by intro ds k; kernel_rfl

theorem slices_BinarySearch_int_int_ok {α : Type} : (slices_BinarySearch_int_int_spec : FunSpec α).ok Go.Proofs.Try.prog :=
  FunSpec.ok_of (sp := slices_BinarySearch_int_int_spec) (C := slices_BinarySearch_int_int_C cmp_Less_int slices_isNaN_int) (q := slices_BinarySearch_int_int_q) (inl := slices_BinarySearch_int_int_inl) (N := 1000) (ann := slices_BinarySearch_int_int_ann) (fr := false) (D := 6) (l := (slices_BinarySearch_int_int_loops cmp_Less_int slices_isNaN_int)) (hk := (fun _ => none)) (okCons cmp_Less_int_ok (okCons slices_isNaN_int_ok okNil)) (lokCons (slices_BinarySearch_int_int_l0_ok cmp_Less_int slices_isNaN_int) lokNil) noHooks (slices_BinarySearch_int_int_ev cmp_Less_int slices_isNaN_int)

end
end Go.Rv.Try

set_option linter.unusedVariables false
set_option maxRecDepth 100000
set_option maxHeartbeats 4000000
namespace Go.Rv.Try
open Go Go.Rv Go.RowKit
noncomputable section

-- slices.Concat[[]int,int]

abbrev slices_Concat_int_int_T (α : Type) : Type := (Seq ((Seq (Int × Unit)) × Unit)) → ((Seq (Int × Unit)) → Option α) → Option α

noncomputable def slices_Concat_int_int_l0_step {α : Type} (k0 : (Seq ((Seq (Int × Unit)) × Unit)) → (Int) → (Seq (Int × Unit)) → Option α) (rec : (Seq ((Seq (Int × Unit)) × Unit)) → (Int) → (Seq ((Seq (Int × Unit)) × Unit)) → (Int) → (Int) → (Seq (Int × Unit)) → Option α) (slices2 : Seq ((Seq (Int × Unit)) × Unit)) (size3 : Int) (x4 : Seq ((Seq (Int × Unit)) × Unit)) (x5 : Int) (x6 : Int) (q7 : Seq (Int × Unit)) : Option α :=
  (cond (decide (x6 < x5))
    (cond ((decide ((0 : Int) ≤ x6)) && (decide (x6 < (x4.n : Int))))
      (cond (decide ((IntKind.i64.wrap (size3 + (((x4.g x6.toNat).1.n : Nat) : Int))) < 0))
        none
        (rec slices2 (IntKind.i64.wrap (size3 + (((x4.g x6.toNat).1.n : Nat) : Int))) x4 x5 (IntKind.i64.wrap (x6 + 1)) q7))
      none)
    (k0 slices2 size3 q7))

noncomputable def slices_Concat_int_int_l0_run {α : Type} (k0 : (Seq ((Seq (Int × Unit)) × Unit)) → (Int) → (Seq (Int × Unit)) → Option α) : Nat → (Seq ((Seq (Int × Unit)) × Unit)) → (Int) → (Seq ((Seq (Int × Unit)) × Unit)) → (Int) → (Int) → (Seq (Int × Unit)) → Option α
  | 0, _, _, _, _, _, _ => none
  | n + 1, slices2, size3, x4, x5, x6, q7 => slices_Concat_int_int_l0_step k0 (fun slices2 size3 x4 x5 x6 q7 => slices_Concat_int_int_l0_run k0 n slices2 size3 x4 x5 x6 q7) slices2 size3 x4 x5 x6 q7

noncomputable def slices_Concat_int_int_l1_step {α : Type} (k2 : (Seq (Int × Unit)) → (Seq (Int × Unit)) → (Seq (Int × Unit)) → Option α) (rec : (Seq ((Seq (Int × Unit)) × Unit)) → (Int) → (Int) → (Seq (Int × Unit)) → (Seq (Int × Unit)) → (Seq (Int × Unit)) → Option α) (x11 : Seq ((Seq (Int × Unit)) × Unit)) (x12 : Int) (x13 : Int) (q14 : Seq (Int × Unit)) (q15 : Seq (Int × Unit)) (q16 : Seq (Int × Unit)) : Option α :=
  (cond (decide (x13 < x12))
    (cond ((decide ((0 : Int) ≤ x13)) && (decide (x13 < (x11.n : Int))))
      (cond (decide (((q16.n + (x11.g x13.toNat).1.n)) * 8 ≤ 140737488355328))
        (rec x11 x12 (IntKind.i64.wrap (x13 + 1)) q14 q15 (⟨(q16.nl && (Nat.beq (x11.g x13.toNat).1.n 0)), (q16.n + (x11.g x13.toNat).1.n), (tApp q16.n q16.g (x11.g x13.toNat).1.g)⟩ : Seq (Int × Unit)))
        none)
      none)
    (k2 q14 q15 q16))

noncomputable def slices_Concat_int_int_l1_run {α : Type} (k2 : (Seq (Int × Unit)) → (Seq (Int × Unit)) → (Seq (Int × Unit)) → Option α) : Nat → (Seq ((Seq (Int × Unit)) × Unit)) → (Int) → (Int) → (Seq (Int × Unit)) → (Seq (Int × Unit)) → (Seq (Int × Unit)) → Option α
  | 0, _, _, _, _, _, _ => none
  | n + 1, x11, x12, x13, q14, q15, q16 => slices_Concat_int_int_l1_step k2 (fun x11 x12 x13 q14 q15 q16 => slices_Concat_int_int_l1_run k2 n x11 x12 x13 q14 q15 q16) x11 x12 x13 q14 q15 q16

noncomputable def slices_Concat_int_int {α : Type} (slices1 : Seq ((Seq (Int × Unit)) × Unit)) (k : (Seq (Int × Unit)) → Option α) : Option α :=
  (slices_Concat_int_int_l0_run
    (fun x8 x9 q10 =>
      (cond (decide (x9 < 0))
        none
        (cond (decide ((IntKind.i64.wrap (x9 - 0)) > 0))
          (cond (((decide ((0 : Int) ≤ (IntKind.i64.wrap (x9 - 0)))) && (decide ((IntKind.i64.wrap (x9 - 0)) * 8 ≤ 140737488355328))) && (decide (((0 + (IntKind.i64.wrap (x9 - 0)).toNat)) * 8 ≤ 140737488355328)))
            (cond (decide ((0 : Int) ≤ (((0 + (IntKind.i64.wrap (x9 - 0)).toNat) : Nat) : Int)))
              (slices_Concat_int_int_l1_run
                (fun q17 q18 q19 =>
                  (k q19))
                1000 x8 (x8.n : Int) 0 q10 (⟨true, 0, (fun _ => (0, ()))⟩ : Seq (Int × Unit)) (⟨(Nat.beq (IntKind.i64.wrap (x9 - 0)).toNat 0), 0, (tApp 0 (fun _ => (0, ())) (fun _ => (0, ())))⟩ : Seq (Int × Unit)))
              none)
            none)
          (slices_Concat_int_int_l1_run
            (fun q20 q21 q22 =>
              (k q22))
            1000 x8 (x8.n : Int) 0 q10 (⟨true, 0, (fun _ => (0, ()))⟩ : Seq (Int × Unit)) (⟨true, 0, (fun _ => (0, ()))⟩ : Seq (Int × Unit))))))
    1000 slices1 0 slices1 (slices1.n : Int) 0 (⟨true, 0, (fun _ => (0, ()))⟩ : Seq (Int × Unit)))

noncomputable def slices_Concat_int_int_sp {α : Type} (slices_Concat_int_int : slices_Concat_int_int_T α) : FunSpec α := ⟨87, [.sl (.sl (.int .i64 (.nil)) (.nil))], [], fun ds k => slices_Concat_int_int (hdQ (.sl (.int .i64 (.nil)) (.nil)) ds) (fun q1 => k (enc dep (.own 0) []).1 (encBs [.row true (.int .i64 (.nil))] [.q (.int .i64 (.nil)) q1]).1)⟩

noncomputable def slices_Concat_int_int_spec {α : Type} : FunSpec α := slices_Concat_int_int_sp slices_Concat_int_int

noncomputable def slices_Concat_int_int_C {α : Type} : List (FunSpec α) := []

noncomputable def slices_Concat_int_int_q : FuncId → Bool := fun f => false

noncomputable def slices_Concat_int_int_inl : FuncId → Bool := fun f => Nat.beq f 100

noncomputable def slices_Concat_int_int_ann : FuncId → AnnT := fun f p => if f = 87 then (if p = [true, false, true, true, true, true] then ⟨[6, 25, 26, 27], [0, 1, 2], [6], [2], 0, [6], []⟩ else if p = [true, false, true, true] then ⟨[0, 3, 9, 10, 11], [0], [0, 3], [2], 0, [], []⟩ else ⟨[], [], [], [], 0, [], []⟩) else ⟨[], [], [], [], 0, [], []⟩

noncomputable def slices_Concat_int_int_l0_t : List Sh := [.sl (.sl (.int .i64 (.nil)) (.nil)), .dead, .dead, .int .i64, .dead, .dead, .dead, .dead, .dead, .sl (.sl (.int .i64 (.nil)) (.nil)), .int .i64, .int .i64, .dead, .dead, .dead, .dead, .dead, .dead, .dead, .dead, .dead, .dead, .dead, .dead, .dead, .dead, .dead, .dead, .dead, .dead, .dead, .dead, .dead, .dead, .dead, .dead]
noncomputable def slices_Concat_int_int_l0_s : List (List Sh) := []
noncomputable def slices_Concat_int_int_l0_h : List BSh := [.row true (.int .i64 (.nil))]

noncomputable def slices_Concat_int_int_l0_spec {α : Type} : LoopSpec α := ⟨6, 87, [true, false, true, true], slices_Concat_int_int_l0_t, slices_Concat_int_int_l0_s, slices_Concat_int_int_l0_h, fun ds k => slices_Concat_int_int_l0_run (fun y1 y2 y3 => k (.exit 0) (encSt [.sl (.sl (.int .i64 (.nil)) (.nil)), .dead, .dead, .int .i64, .dead, .dead, .dead, .dead, .dead, .dead, .dead, .dead, .dead, .dead, .dead, .dead, .dead, .dead, .dead, .dead, .dead, .dead, .dead, .dead, .dead, .dead, .dead, .dead, .dead, .dead, .dead, .dead, .dead, .dead, .dead, .dead] [] [.row true (.int .i64 (.nil))] [.q (.sl (.int .i64 (.nil)) (.nil)) y1, .i y2, .q (.int .i64 (.nil)) y3])) 1000 (hdQ (.sl (.int .i64 (.nil)) (.nil)) ds) (hdI ds.tail) (hdQ (.sl (.int .i64 (.nil)) (.nil)) ds.tail.tail) (hdI ds.tail.tail.tail) (hdI ds.tail.tail.tail.tail) (hdQ (.int .i64 (.nil)) ds.tail.tail.tail.tail.tail)⟩

noncomputable def slices_Concat_int_int_l1_t : List Sh := [.dead, .dead, .dead, .dead, .dead, .dead, .own 2, .dead, .dead, .dead, .dead, .dead, .dead, .dead, .dead, .dead, .dead, .dead, .dead, .dead, .dead, .dead, .dead, .dead, .dead, .sl (.sl (.int .i64 (.nil)) (.nil)), .int .i64, .int .i64, .dead, .dead, .dead, .dead, .dead, .dead, .dead, .dead]
noncomputable def slices_Concat_int_int_l1_s : List (List Sh) := []
noncomputable def slices_Concat_int_int_l1_h : List BSh := [.row true (.int .i64 (.nil)), .row true (.int .i64 (.nil)), .row true (.int .i64 (.nil))]

noncomputable def slices_Concat_int_int_l1_spec {α : Type} : LoopSpec α := ⟨6, 87, [true, false, true, true, true, true], slices_Concat_int_int_l1_t, slices_Concat_int_int_l1_s, slices_Concat_int_int_l1_h, fun ds k => slices_Concat_int_int_l1_run (fun y1 y2 y3 => k (.exit 2) (encSt [.dead, .dead, .dead, .dead, .dead, .dead, .own 2, .dead, .dead, .dead, .dead, .dead, .dead, .dead, .dead, .dead, .dead, .dead, .dead, .dead, .dead, .dead, .dead, .dead, .dead, .dead, .dead, .dead, .dead, .dead, .dead, .dead, .dead, .dead, .dead, .dead] [] [.row true (.int .i64 (.nil)), .row true (.int .i64 (.nil)), .row true (.int .i64 (.nil))] [.q (.int .i64 (.nil)) y1, .q (.int .i64 (.nil)) y2, .q (.int .i64 (.nil)) y3])) 1000 (hdQ (.sl (.int .i64 (.nil)) (.nil)) ds) (hdI ds.tail) (hdI ds.tail.tail) (hdQ (.int .i64 (.nil)) ds.tail.tail.tail) (hdQ (.int .i64 (.nil)) ds.tail.tail.tail.tail) (hdQ (.int .i64 (.nil)) ds.tail.tail.tail.tail.tail)⟩

noncomputable def slices_Concat_int_int_loops {α : Type} : List (LoopSpec α) := [slices_Concat_int_int_l0_spec, slices_Concat_int_int_l1_spec]

noncomputable def slices_Concat_int_int_l0_ev {α : Type} (n : Nat) (st : St) (k : X → St → Option α) : Option α := loopN (evCode Go.Proofs.Try.prog (callD Go.Proofs.Try.prog (envOf (slices_Concat_int_int_C) slices_Concat_int_int_q slices_Concat_int_int_inl 1000 slices_Concat_int_int_ann false (slices_Concat_int_int_loops) (fun _ => none)) 6) (((envOf (slices_Concat_int_int_C) slices_Concat_int_int_q slices_Concat_int_int_inl 1000 slices_Concat_int_int_ann false (slices_Concat_int_int_loops) (fun _ => none)) : Env α).L 6 87) 1000 (slices_Concat_int_int_ann 87) (false :: [true, false, true, true]) (loopC Go.Proofs.Try.prog 87 [true, false, true, true])) ((slices_Concat_int_int_ann 87 [true, false, true, true]).head 1) ((slices_Concat_int_int_ann 87 [true, false, true, true]).leave 1) n st k

theorem slices_Concat_int_int_l0_eq {α : Type} : ∀ (n : Nat) (slices2 : Seq ((Seq (Int × Unit)) × Unit)) (size3 : Int) (x4 : Seq ((Seq (Int × Unit)) × Unit)) (x5 : Int) (x6 : Int) (q7 : Seq (Int × Unit)) (k : X → St → Option α), slices_Concat_int_int_l0_ev n (encSt slices_Concat_int_int_l0_t slices_Concat_int_int_l0_s slices_Concat_int_int_l0_h [.q (.sl (.int .i64 (.nil)) (.nil)) slices2, .i size3, .q (.sl (.int .i64 (.nil)) (.nil)) x4, .i x5, .i x6, .q (.int .i64 (.nil)) q7]) k = slices_Concat_int_int_l0_run (fun y1 y2 y3 => k (.exit 0) (encSt [.sl (.sl (.int .i64 (.nil)) (.nil)), .dead, .dead, .int .i64, .dead, .dead, .dead, .dead, .dead, .dead, .dead, .dead, .dead, .dead, .dead, .dead, .dead, .dead, .dead, .dead, .dead, .dead, .dead, .dead, .dead, .dead, .dead, .dead, .dead, .dead, .dead, .dead, .dead, .dead, .dead, .dead] [] [.row true (.int .i64 (.nil))] [.q (.sl (.int .i64 (.nil)) (.nil)) y1, .i y2, .q (.int .i64 (.nil)) y3])) n slices2 size3 x4 x5 x6 q7 := by
  intro n
  induction n with
  | zero => intros; kernel_rfl
  | succ n ih =>
    intro slices2 size3 x4 x5 x6 q7 k
    have e : (fun (slices2 : Seq ((Seq (Int × Unit)) × Unit)) (size3 : Int) (x4 : Seq ((Seq (Int × Unit)) × Unit)) (x5 : Int) (x6 : Int) (q7 : Seq (Int × Unit)) => slices_Concat_int_int_l0_ev n (encSt slices_Concat_int_int_l0_t slices_Concat_int_int_l0_s slices_Concat_int_int_l0_h [.q (.sl (.int .i64 (.nil)) (.nil)) slices2, .i size3, .q (.sl (.int .i64 (.nil)) (.nil)) x4, .i x5, .i x6, .q (.int .i64 (.nil)) q7]) k) = (fun (slices2 : Seq ((Seq (Int × Unit)) × Unit)) (size3 : Int) (x4 : Seq ((Seq (Int × Unit)) × Unit)) (x5 : Int) (x6 : Int) (q7 : Seq (Int × Unit)) => slices_Concat_int_int_l0_run (fun y1 y2 y3 => k (.exit 0) (encSt [.sl (.sl (.int .i64 (.nil)) (.nil)), .dead, .dead, .int .i64, .dead, .dead, .dead, .dead, .dead, .dead, .dead, .dead, .dead, .dead, .dead, .dead, .dead, .dead, .dead, .dead, .dead, .dead, .dead, .dead, .dead, .dead, .dead, .dead, .dead, .dead, .dead, .dead, .dead, .dead, .dead, .dead] [] [.row true (.int .i64 (.nil))] [.q (.sl (.int .i64 (.nil)) (.nil)) y1, .i y2, .q (.int .i64 (.nil)) y3])) n slices2 size3 x4 x5 x6 q7) := by
      funext slices2 size3 x4 x5 x6 q7
      exact ih slices2 size3 x4 x5 x6 q7 k
    have h1 : slices_Concat_int_int_l0_ev (n + 1) (encSt slices_Concat_int_int_l0_t slices_Concat_int_int_l0_s slices_Concat_int_int_l0_h [.q (.sl (.int .i64 (.nil)) (.nil)) slices2, .i size3, .q (.sl (.int .i64 (.nil)) (.nil)) x4, .i x5, .i x6, .q (.int .i64 (.nil)) q7]) k = slices_Concat_int_int_l0_step (fun y1 y2 y3 => k (.exit 0) (encSt [.sl (.sl (.int .i64 (.nil)) (.nil)), .dead, .dead, .int .i64, .dead, .dead, .dead, .dead, .dead, .dead, .dead, .dead, .dead, .dead, .dead, .dead, .dead, .dead, .dead, .dead, .dead, .dead, .dead, .dead, .dead, .dead, .dead, .dead, .dead, .dead, .dead, .dead, .dead, .dead, .dead, .dead] [] [.row true (.int .i64 (.nil))] [.q (.sl (.int .i64 (.nil)) (.nil)) y1, .i y2, .q (.int .i64 (.nil)) y3])) (fun (slices2 : Seq ((Seq (Int × Unit)) × Unit)) (size3 : Int) (x4 : Seq ((Seq (Int × Unit)) × Unit)) (x5 : Int) (x6 : Int) (q7 : Seq (Int × Unit)) => slices_Concat_int_int_l0_ev n (encSt slices_Concat_int_int_l0_t slices_Concat_int_int_l0_s slices_Concat_int_int_l0_h [.q (.sl (.int .i64 (.nil)) (.nil)) slices2, .i size3, .q (.sl (.int .i64 (.nil)) (.nil)) x4, .i x5, .i x6, .q (.int .i64 (.nil)) q7]) k) slices2 size3 x4 x5 x6 q7 := by kernel_rfl
    have h2 := congrArg (fun r => slices_Concat_int_int_l0_step (fun y1 y2 y3 => k (.exit 0) (encSt [.sl (.sl (.int .i64 (.nil)) (.nil)), .dead, .dead, .int .i64, .dead, .dead, .dead, .dead, .dead, .dead, .dead, .dead, .dead, .dead, .dead, .dead, .dead, .dead, .dead, .dead, .dead, .dead, .dead, .dead, .dead, .dead, .dead, .dead, .dead, .dead, .dead, .dead, .dead, .dead, .dead, .dead] [] [.row true (.int .i64 (.nil))] [.q (.sl (.int .i64 (.nil)) (.nil)) y1, .i y2, .q (.int .i64 (.nil)) y3])) r slices2 size3 x4 x5 x6 q7) e
    have h3 : slices_Concat_int_int_l0_step (fun y1 y2 y3 => k (.exit 0) (encSt [.sl (.sl (.int .i64 (.nil)) (.nil)), .dead, .dead, .int .i64, .dead, .dead, .dead, .dead, .dead, .dead, .dead, .dead, .dead, .dead, .dead, .dead, .dead, .dead, .dead, .dead, .dead, .dead, .dead, .dead, .dead, .dead, .dead, .dead, .dead, .dead, .dead, .dead, .dead, .dead, .dead, .dead] [] [.row true (.int .i64 (.nil))] [.q (.sl (.int .i64 (.nil)) (.nil)) y1, .i y2, .q (.int .i64 (.nil)) y3])) (fun (slices2 : Seq ((Seq (Int × Unit)) × Unit)) (size3 : Int) (x4 : Seq ((Seq (Int × Unit)) × Unit)) (x5 : Int) (x6 : Int) (q7 : Seq (Int × Unit)) => slices_Concat_int_int_l0_run (fun y1 y2 y3 => k (.exit 0) (encSt [.sl (.sl (.int .i64 (.nil)) (.nil)), .dead, .dead, .int .i64, .dead, .dead, .dead, .dead, .dead, .dead, .dead, .dead, .dead, .dead, .dead, .dead, .dead, .dead, .dead, .dead, .dead, .dead, .dead, .dead, .dead, .dead, .dead, .dead, .dead, .dead, .dead, .dead, .dead, .dead, .dead, .dead] [] [.row true (.int .i64 (.nil))] [.q (.sl (.int .i64 (.nil)) (.nil)) y1, .i y2, .q (.int .i64 (.nil)) y3])) n slices2 size3 x4 x5 x6 q7) slices2 size3 x4 x5 x6 q7 = slices_Concat_int_int_l0_run (fun y1 y2 y3 => k (.exit 0) (encSt [.sl (.sl (.int .i64 (.nil)) (.nil)), .dead, .dead, .int .i64, .dead, .dead, .dead, .dead, .dead, .dead, .dead, .dead, .dead, .dead, .dead, .dead, .dead, .dead, .dead, .dead, .dead, .dead, .dead, .dead, .dead, .dead, .dead, .dead, .dead, .dead, .dead, .dead, .dead, .dead, .dead, .dead] [] [.row true (.int .i64 (.nil))] [.q (.sl (.int .i64 (.nil)) (.nil)) y1, .i y2, .q (.int .i64 (.nil)) y3])) (n + 1) slices2 size3 x4 x5 x6 q7 := by kernel_rfl
    exact h1.trans (h2.trans h3)

theorem slices_Concat_int_int_l0_ok {α : Type} : (slices_Concat_int_int_l0_spec : LoopSpec α).ok Go.Proofs.Try.prog (envOf (slices_Concat_int_int_C) slices_Concat_int_int_q slices_Concat_int_int_inl 1000 slices_Concat_int_int_ann false (slices_Concat_int_int_loops) (fun _ => none)) := by
  intro ds k
  have h1 : slices_Concat_int_int_l0_ev 1000 (encSt slices_Concat_int_int_l0_t slices_Concat_int_int_l0_s slices_Concat_int_int_l0_h ds) k = slices_Concat_int_int_l0_ev 1000 (encSt slices_Concat_int_int_l0_t slices_Concat_int_int_l0_s slices_Concat_int_int_l0_h [.q (.sl (.int .i64 (.nil)) (.nil)) (hdQ (.sl (.int .i64 (.nil)) (.nil)) ds), .i (hdI ds.tail), .q (.sl (.int .i64 (.nil)) (.nil)) (hdQ (.sl (.int .i64 (.nil)) (.nil)) ds.tail.tail), .i (hdI ds.tail.tail.tail), .i (hdI ds.tail.tail.tail.tail), .q (.int .i64 (.nil)) (hdQ (.int .i64 (.nil)) ds.tail.tail.tail.tail.tail)]) k := by kernel_rfl
  have h2 := slices_Concat_int_int_l0_eq 1000 (hdQ (.sl (.int .i64 (.nil)) (.nil)) ds) (hdI ds.tail) (hdQ (.sl (.int .i64 (.nil)) (.nil)) ds.tail.tail) (hdI ds.tail.tail.tail) (hdI ds.tail.tail.tail.tail) (hdQ (.int .i64 (.nil)) ds.tail.tail.tail.tail.tail) k
  exact h1.trans h2

noncomputable def slices_Concat_int_int_l1_ev {α : Type} (n : Nat) (st : St) (k : X → St → Option α) : Option α := loopN (evCode Go.Proofs.Try.prog (callD Go.Proofs.Try.prog (envOf (slices_Concat_int_int_C) slices_Concat_int_int_q slices_Concat_int_int_inl 1000 slices_Concat_int_int_ann false (slices_Concat_int_int_loops) (fun _ => none)) 6) (((envOf (slices_Concat_int_int_C) slices_Concat_int_int_q slices_Concat_int_int_inl 1000 slices_Concat_int_int_ann false (slices_Concat_int_int_loops) (fun _ => none)) : Env α).L 6 87) 1000 (slices_Concat_int_int_ann 87) (false :: [true, false, true, true, true, true]) (loopC Go.Proofs.Try.prog 87 [true, false, true, true, true, true])) ((slices_Concat_int_int_ann 87 [true, false, true, true, true, true]).head 3) ((slices_Concat_int_int_ann 87 [true, false, true, true, true, true]).leave 3) n st k

theorem slices_Concat_int_int_l1_eq {α : Type} : ∀ (n : Nat) (x11 : Seq ((Seq (Int × Unit)) × Unit)) (x12 : Int) (x13 : Int) (q14 : Seq (Int × Unit)) (q15 : Seq (Int × Unit)) (q16 : Seq (Int × Unit)) (k : X → St → Option α), slices_Concat_int_int_l1_ev n (encSt slices_Concat_int_int_l1_t slices_Concat_int_int_l1_s slices_Concat_int_int_l1_h [.q (.sl (.int .i64 (.nil)) (.nil)) x11, .i x12, .i x13, .q (.int .i64 (.nil)) q14, .q (.int .i64 (.nil)) q15, .q (.int .i64 (.nil)) q16]) k = slices_Concat_int_int_l1_run (fun y1 y2 y3 => k (.exit 2) (encSt [.dead, .dead, .dead, .dead, .dead, .dead, .own 2, .dead, .dead, .dead, .dead, .dead, .dead, .dead, .dead, .dead, .dead, .dead, .dead, .dead, .dead, .dead, .dead, .dead, .dead, .dead, .dead, .dead, .dead, .dead, .dead, .dead, .dead, .dead, .dead, .dead] [] [.row true (.int .i64 (.nil)), .row true (.int .i64 (.nil)), .row true (.int .i64 (.nil))] [.q (.int .i64 (.nil)) y1, .q (.int .i64 (.nil)) y2, .q (.int .i64 (.nil)) y3])) n x11 x12 x13 q14 q15 q16 := by
  intro n
  induction n with
  | zero => intros; kernel_rfl
  | succ n ih =>
    intro x11 x12 x13 q14 q15 q16 k
    have e : (fun (x11 : Seq ((Seq (Int × Unit)) × Unit)) (x12 : Int) (x13 : Int) (q14 : Seq (Int × Unit)) (q15 : Seq (Int × Unit)) (q16 : Seq (Int × Unit)) => slices_Concat_int_int_l1_ev n (encSt slices_Concat_int_int_l1_t slices_Concat_int_int_l1_s slices_Concat_int_int_l1_h [.q (.sl (.int .i64 (.nil)) (.nil)) x11, .i x12, .i x13, .q (.int .i64 (.nil)) q14, .q (.int .i64 (.nil)) q15, .q (.int .i64 (.nil)) q16]) k) = (fun (x11 : Seq ((Seq (Int × Unit)) × Unit)) (x12 : Int) (x13 : Int) (q14 : Seq (Int × Unit)) (q15 : Seq (Int × Unit)) (q16 : Seq (Int × Unit)) => slices_Concat_int_int_l1_run (fun y1 y2 y3 => k (.exit 2) (encSt [.dead, .dead, .dead, .dead, .dead, .dead, .own 2, .dead, .dead, .dead, .dead, .dead, .dead, .dead, .dead, .dead, .dead, .dead, .dead, .dead, .dead, .dead, .dead, .dead, .dead, .dead, .dead, .dead, .dead, .dead, .dead, .dead, .dead, .dead, .dead, .dead] [] [.row true (.int .i64 (.nil)), .row true (.int .i64 (.nil)), .row true (.int .i64 (.nil))] [.q (.int .i64 (.nil)) y1, .q (.int .i64 (.nil)) y2, .q (.int .i64 (.nil)) y3])) n x11 x12 x13 q14 q15 q16) := by
      funext x11 x12 x13 q14 q15 q16
      exact ih x11 x12 x13 q14 q15 q16 k
    have h1 : slices_Concat_int_int_l1_ev (n + 1) (encSt slices_Concat_int_int_l1_t slices_Concat_int_int_l1_s slices_Concat_int_int_l1_h [.q (.sl (.int .i64 (.nil)) (.nil)) x11, .i x12, .i x13, .q (.int .i64 (.nil)) q14, .q (.int .i64 (.nil)) q15, .q (.int .i64 (.nil)) q16]) k = slices_Concat_int_int_l1_step (fun y1 y2 y3 => k (.exit 2) (encSt [.dead, .dead, .dead, .dead, .dead, .dead, .own 2, .dead, .dead, .dead, .dead, .dead, .dead, .dead, .dead, .dead, .dead, .dead, .dead, .dead, .dead, .dead, .dead, .dead, .dead, .dead, .dead, .dead, .dead, .dead, .dead, .dead, .dead, .dead, .dead, .dead] [] [.row true (.int .i64 (.nil)), .row true (.int .i64 (.nil)), .row true (.int .i64 (.nil))] [.q (.int .i64 (.nil)) y1, .q (.int .i64 (.nil)) y2, .q (.int .i64 (.nil)) y3])) (fun (x11 : Seq ((Seq (Int × Unit)) × Unit)) (x12 : Int) (x13 : Int) (q14 : Seq (Int × Unit)) (q15 : Seq (Int × Unit)) (q16 : Seq (Int × Unit)) => slices_Concat_int_int_l1_ev n (encSt slices_Concat_int_int_l1_t slices_Concat_int_int_l1_s slices_Concat_int_int_l1_h [.q (.sl (.int .i64 (.nil)) (.nil)) x11, .i x12, .i x13, .q (.int .i64 (.nil)) q14, .q (.int .i64 (.nil)) q15, .q (.int .i64 (.nil)) q16]) k) x11 x12 x13 q14 q15 q16 := by kernel_rfl
    have h2 := congrArg (fun r => slices_Concat_int_int_l1_step (fun y1 y2 y3 => k (.exit 2) (encSt [.dead, .dead, .dead, .dead, .dead, .dead, .own 2, .dead, .dead, .dead, .dead, .dead, .dead, .dead, .dead, .dead, .dead, .dead, .dead, .dead, .dead, .dead, .dead, .dead, .dead, .dead, .dead, .dead, .dead, .dead, .dead, .dead, .dead, .dead, .dead, .dead] [] [.row true (.int .i64 (.nil)), .row true (.int .i64 (.nil)), .row true (.int .i64 (.nil))] [.q (.int .i64 (.nil)) y1, .q (.int .i64 (.nil)) y2, .q (.int .i64 (.nil)) y3])) r x11 x12 x13 q14 q15 q16) e
    have h3 : slices_Concat_int_int_l1_step (fun y1 y2 y3 => k (.exit 2) (encSt [.dead, .dead, .dead, .dead, .dead, .dead, .own 2, .dead, .dead, .dead, .dead, .dead, .dead, .dead, .dead, .dead, .dead, .dead, .dead, .dead, .dead, .dead, .dead, .dead, .dead, .dead, .dead, .dead, .dead, .dead, .dead, .dead, .dead, .dead, .dead, .dead] [] [.row true (.int .i64 (.nil)), .row true (.int .i64 (.nil)), .row true (.int .i64 (.nil))] [.q (.int .i64 (.nil)) y1, .q (.int .i64 (.nil)) y2, .q (.int .i64 (.nil)) y3])) (fun (x11 : Seq ((Seq (Int × Unit)) × Unit)) (x12 : Int) (x13 : Int) (q14 : Seq (Int × Unit)) (q15 : Seq (Int × Unit)) (q16 : Seq (Int × Unit)) => slices_Concat_int_int_l1_run (fun y1 y2 y3 => k (.exit 2) (encSt [.dead, .dead, .dead, .dead, .dead, .dead, .own 2, .dead, .dead, .dead, .dead, .dead, .dead, .dead, .dead, .dead, .dead, .dead, .dead, .dead, .dead, .dead, .dead, .dead, .dead, .dead, .dead, .dead, .dead, .dead, .dead, .dead, .dead, .dead, .dead, .dead] [] [.row true (.int .i64 (.nil)), .row true (.int .i64 (.nil)), .row true (.int .i64 (.nil))] [.q (.int .i64 (.nil)) y1, .q (.int .i64 (.nil)) y2, .q (.int .i64 (.nil)) y3])) n x11 x12 x13 q14 q15 q16) x11 x12 x13 q14 q15 q16 = slices_Concat_int_int_l1_run (fun y1 y2 y3 => k (.exit 2) (encSt [.dead, .dead, .dead, .dead, .dead, .dead, .own 2, .dead, .dead, .dead, .dead, .dead, .dead, .dead, .dead, .dead, .dead, .dead, .dead, .dead, .dead, .dead, .dead, .dead, .dead, .dead, .dead, .dead, .dead, .dead, .dead, .dead, .dead, .dead, .dead, .dead] [] [.row true (.int .i64 (.nil)), .row true (.int .i64 (.nil)), .row true (.int .i64 (.nil))] [.q (.int .i64 (.nil)) y1, .q (.int .i64 (.nil)) y2, .q (.int .i64 (.nil)) y3])) (n + 1) x11 x12 x13 q14 q15 q16 := by kernel_rfl
    exact h1.trans (h2.trans h3)

theorem slices_Concat_int_int_l1_ok {α : Type} : (slices_Concat_int_int_l1_spec : LoopSpec α).ok Go.Proofs.Try.prog (envOf (slices_Concat_int_int_C) slices_Concat_int_int_q slices_Concat_int_int_inl 1000 slices_Concat_int_int_ann false (slices_Concat_int_int_loops) (fun _ => none)) := by
  intro ds k
  have h1 : slices_Concat_int_int_l1_ev 1000 (encSt slices_Concat_int_int_l1_t slices_Concat_int_int_l1_s slices_Concat_int_int_l1_h ds) k = slices_Concat_int_int_l1_ev 1000 (encSt slices_Concat_int_int_l1_t slices_Concat_int_int_l1_s slices_Concat_int_int_l1_h [.q (.sl (.int .i64 (.nil)) (.nil)) (hdQ (.sl (.int .i64 (.nil)) (.nil)) ds), .i (hdI ds.tail), .i (hdI ds.tail.tail), .q (.int .i64 (.nil)) (hdQ (.int .i64 (.nil)) ds.tail.tail.tail), .q (.int .i64 (.nil)) (hdQ (.int .i64 (.nil)) ds.tail.tail.tail.tail), .q (.int .i64 (.nil)) (hdQ (.int .i64 (.nil)) ds.tail.tail.tail.tail.tail)]) k := by kernel_rfl
  have h2 := slices_Concat_int_int_l1_eq 1000 (hdQ (.sl (.int .i64 (.nil)) (.nil)) ds) (hdI ds.tail) (hdI ds.tail.tail) (hdQ (.int .i64 (.nil)) ds.tail.tail.tail) (hdQ (.int .i64 (.nil)) ds.tail.tail.tail.tail) (hdQ (.int .i64 (.nil)) ds.tail.tail.tail.tail.tail) k
  exact h1.trans h2

theorem slices_Concat_int_int_ev {α : Type} : EvOk (α := α) Go.Proofs.Try.prog (envOf (slices_Concat_int_int_C) slices_Concat_int_int_q slices_Concat_int_int_inl 1000 slices_Concat_int_int_ann false (slices_Concat_int_int_loops) (fun _ => none)) 6 (slices_Concat_int_int_sp (slices_Concat_int_int)) := by intro ds k; kernel_rfl

theorem slices_Concat_int_int_ok {α : Type} : (slices_Concat_int_int_spec : FunSpec α).ok Go.Proofs.Try.prog :=
  FunSpec.ok_of (sp := slices_Concat_int_int_spec) (C := slices_Concat_int_int_C) (q := slices_Concat_int_int_q) (inl := slices_Concat_int_int_inl) (N := 1000) (ann := slices_Concat_int_int_ann) (fr := false) (D := 6) (l := (slices_Concat_int_int_loops)) (hk := (fun _ => none)) okNil (lokCons (slices_Concat_int_int_l0_ok) (lokCons (slices_Concat_int_int_l1_ok) lokNil)) noHooks (slices_Concat_int_int_ev)

end
end Go.Rv.Try

set_option linter.unusedVariables false
set_option maxRecDepth 100000
set_option maxHeartbeats 4000000
namespace Go.Rv.Try
open Go Go.Rv Go.RowKit
noncomputable section

-- slices.Clone[[]int,int]

abbrev slices_Clone_int_int_T (α : Type) : Type := (Seq (Int × Unit)) → ((Seq (Int × Unit)) → Option α) → Option α

noncomputable def slices_Clone_int_int {α : Type} (s1 : Seq (Int × Unit)) (k : (Seq (Int × Unit)) → Option α) : Option α :=
  (cond s1.nl
    (k (⟨true, 0, (fun _ => (0, ()))⟩ : Seq (Int × Unit)))
    (cond (decide (((0 + s1.n)) * 8 ≤ 140737488355328))
      (k (⟨false, (0 + s1.n), (tApp 0 (tSel [] (0, ())) s1.g)⟩ : Seq (Int × Unit)))
      none))

noncomputable def slices_Clone_int_int_sp {α : Type} (slices_Clone_int_int : slices_Clone_int_int_T α) : FunSpec α := ⟨88, [.sl (.int .i64 (.nil))], [], fun ds k => slices_Clone_int_int (hdQ (.int .i64 (.nil)) ds) (fun q1 => k (enc dep (.own 0) []).1 (encBs [.row true (.int .i64 (.nil))] [.q (.int .i64 (.nil)) q1]).1)⟩

noncomputable def slices_Clone_int_int_spec {α : Type} : FunSpec α := slices_Clone_int_int_sp slices_Clone_int_int

noncomputable def slices_Clone_int_int_C {α : Type} : List (FunSpec α) := []

noncomputable def slices_Clone_int_int_q : FuncId → Bool := fun f => false

noncomputable def slices_Clone_int_int_inl : FuncId → Bool := fun f => false

noncomputable def slices_Clone_int_int_ann : FuncId → AnnT := fun f p => ⟨[], [], [], [], 0, [], []⟩

noncomputable def slices_Clone_int_int_loops {α : Type} : List (LoopSpec α) := []

theorem slices_Clone_int_int_ev {α : Type} : EvOk (α := α) Go.Proofs.Try.prog (envOf (slices_Clone_int_int_C) slices_Clone_int_int_q slices_Clone_int_int_inl 1000 slices_Clone_int_int_ann false (slices_Clone_int_int_loops) (fun _ => none)) 6 (slices_Clone_int_int_sp (slices_Clone_int_int)) := by intro ds k; kernel_rfl

theorem slices_Clone_int_int_ok {α : Type} : (slices_Clone_int_int_spec : FunSpec α).ok Go.Proofs.Try.prog :=
  FunSpec.ok_of (sp := slices_Clone_int_int_spec) (C := slices_Clone_int_int_C) (q := slices_Clone_int_int_q) (inl := slices_Clone_int_int_inl) (N := 1000) (ann := slices_Clone_int_int_ann) (fr := false) (D := 6) (l := (slices_Clone_int_int_loops)) (hk := (fun _ => none)) okNil lokNil noHooks (slices_Clone_int_int_ev)

end
end Go.Rv.Try

set_option linter.unusedVariables false
set_option maxRecDepth 100000
set_option maxHeartbeats 4000000
namespace Go.Rv.Try
open Go Go.Rv Go.RowKit
noncomputable section

-- drayman/inbox.Mark

abbrev inbox_Mark_T (α : Type) : Type := (Int × Int × (Seq (Int × Unit)) × Unit) → Int → ((Int × Int × (Seq (Int × Unit)) × Unit) → Int → Option α) → Option α

noncomputable def inbox_Mark_l0_step {α : Type} (inbox_Fit : inbox_Fit_T α) (inbox_Had : inbox_Had_T α) (slices_BinarySearch_int_int : slices_BinarySearch_int_int_T α) (slices_Concat_int_int : slices_Concat_int_int_T α) (slices_Clone_int_int : slices_Clone_int_int_T α) (k1 : (Seq (Int × Unit)) → (Int × Int × (Seq (Int × Unit)) × Unit) → (Int × Int × (Seq (Int × Unit)) × Unit) → (Int × Int × (Seq (Int × Unit)) × Unit) → Option α) (rec : (Seq (Int × Unit)) → (Bool) → (Int × Int × (Seq (Int × Unit)) × Unit) → (Int × Int × (Seq (Int × Unit)) × Unit) → (Int × Int × (Seq (Int × Unit)) × Unit) → Option α) (x8 : Seq (Int × Unit)) (x9 : Bool) (x10 : Int × Int × (Seq (Int × Unit)) × Unit) (x11 : Int × Int × (Seq (Int × Unit)) × Unit) (x12 : Int × Int × (Seq (Int × Unit)) × Unit) : Option α :=
  (cond (decide ((x8.n : Int) > 0))
    (cond (!x9)
      (cond ((decide ((0 : Int) < (x8.n : Int))) && (decide ((0 : Int) < (x8.n : Int))))
        (cond ((x8.g 0).1 == (IntKind.i64.wrap (x12.2.1 + 1)))
          (cond ((decide ((0 : Int) < (x8.n : Int))) && (decide ((0 : Int) < (x8.n : Int))))
            (cond ((decide ((1 : Int) ≤ (x8.n : Int))) && (decide ((1 : Int) ≤ (x8.n : Int))))
              (rec (⟨x8.nl, (x8.n - 1), (tShift 1 x8.g)⟩ : Seq (Int × Unit)) false x10 x11 (x12.1, (x8.g 0).1, x12.2.2.1, ()))
              none)
            none)
          (k1 x8 x10 x11 x12))
        none)
      (cond ((decide ((0 : Int) < (x8.n : Int))) && (decide ((0 : Int) < (x8.n : Int))))
        (cond ((decide ((1 : Int) ≤ (x8.n : Int))) && (decide ((1 : Int) ≤ (x8.n : Int))))
          (rec (⟨x8.nl, (x8.n - 1), (tShift 1 x8.g)⟩ : Seq (Int × Unit)) false x10 x11 (x12.1, (x8.g 0).1, x12.2.2.1, ()))
          none)
        none))
    (k1 x8 x10 x11 x12))

noncomputable def inbox_Mark_l0_run {α : Type} (inbox_Fit : inbox_Fit_T α) (inbox_Had : inbox_Had_T α) (slices_BinarySearch_int_int : slices_BinarySearch_int_int_T α) (slices_Concat_int_int : slices_Concat_int_int_T α) (slices_Clone_int_int : slices_Clone_int_int_T α) (k1 : (Seq (Int × Unit)) → (Int × Int × (Seq (Int × Unit)) × Unit) → (Int × Int × (Seq (Int × Unit)) × Unit) → (Int × Int × (Seq (Int × Unit)) × Unit) → Option α) : Nat → (Seq (Int × Unit)) → (Bool) → (Int × Int × (Seq (Int × Unit)) × Unit) → (Int × Int × (Seq (Int × Unit)) × Unit) → (Int × Int × (Seq (Int × Unit)) × Unit) → Option α
  | 0, _, _, _, _, _ => none
  | n + 1, x8, x9, x10, x11, x12 => inbox_Mark_l0_step inbox_Fit inbox_Had slices_BinarySearch_int_int slices_Concat_int_int slices_Clone_int_int k1 (fun x8 x9 x10 x11 x12 => inbox_Mark_l0_run inbox_Fit inbox_Had slices_BinarySearch_int_int slices_Concat_int_int slices_Clone_int_int k1 n x8 x9 x10 x11 x12) x8 x9 x10 x11 x12

noncomputable def inbox_Mark_g {α : Type} (inbox_Fit : inbox_Fit_T α) (inbox_Had : inbox_Had_T α) (slices_BinarySearch_int_int : slices_BinarySearch_int_int_T α) (slices_Concat_int_int : slices_Concat_int_int_T α) (slices_Clone_int_int : slices_Clone_int_int_T α) (x1 : Int × Int × (Seq (Int × Unit)) × Unit) (x2 : Int) (k : (Int × Int × (Seq (Int × Unit)) × Unit) → Int → Option α) : Option α :=
  (inbox_Fit x1 fun r3 =>
    (cond (!r3)
      (k (0, 0, (⟨true, 0, (fun _ => (0, ()))⟩ : Seq (Int × Unit)), ()) 12)
      (cond (!(decide (x2 < 1)))
        (cond (decide (x2 > 1099511627776))
          (k (0, 0, (⟨true, 0, (fun _ => (0, ()))⟩ : Seq (Int × Unit)), ()) 1)
          (inbox_Had x1 x2 fun r4 =>
            (cond r4
              (k (0, 0, (⟨true, 0, (fun _ => (0, ()))⟩ : Seq (Int × Unit)), ()) 14)
              (slices_BinarySearch_int_int x1.2.2.1 x2 fun r5 r6 =>
                (cond ((((decide ((0 : Int) ≤ r5)) && (decide (r5 ≤ (x1.2.2.1.n : Int)))) && (decide (r5 = r5))) && (((decide ((0 : Int) ≤ r5)) && (decide (r5 ≤ (x1.2.2.1.n : Int)))) && (decide (r5 = r5))))
                  (cond (((decide ((0 : Int) ≤ r5)) && (decide (r5 ≤ (x1.2.2.1.n : Int)))) && ((decide ((0 : Int) ≤ r5)) && (decide (r5 ≤ (x1.2.2.1.n : Int)))))
                    (slices_Concat_int_int (⟨false, 3, (tSel [((⟨x1.2.2.1.nl, r5.toNat, x1.2.2.1.g⟩ : Seq (Int × Unit)), ()), ((⟨false, 1, (fun _ => (x2, ()))⟩ : Seq (Int × Unit)), ()), ((⟨x1.2.2.1.nl, (x1.2.2.1.n - r5.toNat), (tShift r5.toNat x1.2.2.1.g)⟩ : Seq (Int × Unit)), ())] ((⟨true, 0, fun _ => (0, ())⟩ : Seq (Int × Unit)), ()))⟩ : Seq ((Seq (Int × Unit)) × Unit)) fun r7 =>
                      (inbox_Mark_l0_run inbox_Fit inbox_Had slices_BinarySearch_int_int slices_Concat_int_int slices_Clone_int_int
                        (fun x13 x14 x15 x16 =>
                          (slices_Clone_int_int x13 fun r17 =>
                            (k (x16.1, x16.2.1, r17, ()) 0)))
                        1000 r7 (decide ((r7.n : Int) > 16)) x1 (0, 0, (⟨true, 0, (fun _ => (0, ()))⟩ : Seq (Int × Unit)), ()) (x1.1, x1.2.1, (⟨true, 0, (fun _ => (0, ()))⟩ : Seq (Int × Unit)), ())))
                    none)
                  none)))))
        (k (0, 0, (⟨true, 0, (fun _ => (0, ()))⟩ : Seq (Int × Unit)), ()) 1))))

noncomputable def inbox_Mark {α : Type} : inbox_Mark_T α := inbox_Mark_g inbox_Fit inbox_Had slices_BinarySearch_int_int slices_Concat_int_int slices_Clone_int_int

noncomputable def inbox_Mark_sp {α : Type} (inbox_Mark : inbox_Mark_T α) : FunSpec α := ⟨64, [.agg [.int .i64, .int .i64, .sl (.int .i64 (.nil))], .int .i64], [], fun ds k => inbox_Mark (hdI ds, hdI ds.tail, hdQ (.int .i64 (.nil)) ds.tail.tail, ()) (hdI ds.tail.tail.tail) (fun r1 r2 => k (enc dep (.tup [.agg [.int .i64, .int .i64, .sl (.int .i64 (.nil))], .int .i64]) [.i r1.1, .i r1.2.1, .q (.int .i64 (.nil)) r1.2.2.1, .i r2]).1 [])⟩

noncomputable def inbox_Mark_spec {α : Type} : FunSpec α := inbox_Mark_sp inbox_Mark

noncomputable def inbox_Mark_C {α : Type} (inbox_Fit : inbox_Fit_T α) (inbox_Had : inbox_Had_T α) (slices_BinarySearch_int_int : slices_BinarySearch_int_int_T α) (slices_Concat_int_int : slices_Concat_int_int_T α) (slices_Clone_int_int : slices_Clone_int_int_T α) : List (FunSpec α) := [inbox_Fit_sp inbox_Fit, inbox_Had_sp inbox_Had, slices_BinarySearch_int_int_sp slices_BinarySearch_int_int, slices_Concat_int_int_sp slices_Concat_int_int, slices_Clone_int_int_sp slices_Clone_int_int]

noncomputable def inbox_Mark_q : FuncId → Bool := fun f => Nat.beq f 63 || Nat.beq f 65 || Nat.beq f 86

noncomputable def inbox_Mark_inl : FuncId → Bool := fun f => false

noncomputable def inbox_Mark_ann : FuncId → AnnT := fun f p => if f = 64 then (if p = [false, true, true, true, true, true, true] then ⟨[4, 8, 9, 10], [], [4, 8, 9], [4, 5], 0, [], []⟩ else if p = [false, true, true, true] then ⟨[], [], [], [], 2, [], []⟩ else ⟨[], [], [], [], 0, [], []⟩) else ⟨[], [], [], [], 0, [], []⟩

noncomputable def inbox_Mark_l0_t : List Sh := [.dead, .dead, .dead, .dead, .ref 1 0, .dead, .dead, .dead, .sl (.int .i64 (.nil)), .ref 5 0, .bool, .dead, .dead, .dead, .dead, .dead, .dead, .dead, .dead, .dead, .dead, .dead, .dead, .dead, .dead, .dead, .dead, .dead, .dead, .dead, .dead, .dead, .dead, .dead, .dead, .dead, .dead, .dead, .dead, .dead, .dead, .dead, .dead, .dead, .dead, .dead, .dead, .dead, .dead, .dead, .dead, .dead, .dead, .dead, .dead, .dead, .dead, .dead, .dead, .dead, .dead, .dead, .dead, .dead, .dead, .dead, .dead, .dead, .dead, .dead, .dead, .dead, .dead, .dead, .dead, .dead, .dead, .dead, .dead, .dead, .dead, .dead]
noncomputable def inbox_Mark_l0_s : List (List Sh) := []
noncomputable def inbox_Mark_l0_h : List BSh := [.box [.int .i64, .int .i64, .sl (.int .i64 (.nil))], .box [.int .i64, .int .i64, .sl (.int .i64 (.nil))], .gone, .gone, .gone, .box [.int .i64, .int .i64, .sl (.int .i64 (.nil))]]

noncomputable def inbox_Mark_l0_spec {α : Type} (inbox_Fit : inbox_Fit_T α) (inbox_Had : inbox_Had_T α) (slices_BinarySearch_int_int : slices_BinarySearch_int_int_T α) (slices_Concat_int_int : slices_Concat_int_int_T α) (slices_Clone_int_int : slices_Clone_int_int_T α) : LoopSpec α := ⟨6, 64, [false, true, true, true, true, true, true], inbox_Mark_l0_t, inbox_Mark_l0_s, inbox_Mark_l0_h, fun ds k => inbox_Mark_l0_run inbox_Fit inbox_Had slices_BinarySearch_int_int slices_Concat_int_int slices_Clone_int_int (fun y1 y2 y3 y4 => k (.exit 1) (encSt [.dead, .dead, .dead, .dead, .ref 1 0, .dead, .dead, .dead, .sl (.int .i64 (.nil)), .ref 5 0, .dead, .dead, .dead, .dead, .dead, .dead, .dead, .dead, .dead, .dead, .dead, .dead, .dead, .dead, .dead, .dead, .dead, .dead, .dead, .dead, .dead, .dead, .dead, .dead, .dead, .dead, .dead, .dead, .dead, .dead, .dead, .dead, .dead, .dead, .dead, .dead, .dead, .dead, .dead, .dead, .dead, .dead, .dead, .dead, .dead, .dead, .dead, .dead, .dead, .dead, .dead, .dead, .dead, .dead, .dead, .dead, .dead, .dead, .dead, .dead, .dead, .dead, .dead, .dead, .dead, .dead, .dead, .dead, .dead, .dead, .dead, .dead] [] [.box [.int .i64, .int .i64, .sl (.int .i64 (.nil))], .box [.int .i64, .int .i64, .sl (.int .i64 (.nil))], .gone, .gone, .gone, .box [.int .i64, .int .i64, .sl (.int .i64 (.nil))]] [.q (.int .i64 (.nil)) y1, .i y2.1, .i y2.2.1, .q (.int .i64 (.nil)) y2.2.2.1, .i y3.1, .i y3.2.1, .q (.int .i64 (.nil)) y3.2.2.1, .i y4.1, .i y4.2.1, .q (.int .i64 (.nil)) y4.2.2.1])) 1000 (hdQ (.int .i64 (.nil)) ds) (hdB ds.tail) (hdI ds.tail.tail, hdI ds.tail.tail.tail, hdQ (.int .i64 (.nil)) ds.tail.tail.tail.tail, ()) (hdI ds.tail.tail.tail.tail.tail, hdI ds.tail.tail.tail.tail.tail.tail, hdQ (.int .i64 (.nil)) ds.tail.tail.tail.tail.tail.tail.tail, ()) (hdI ds.tail.tail.tail.tail.tail.tail.tail.tail, hdI ds.tail.tail.tail.tail.tail.tail.tail.tail.tail, hdQ (.int .i64 (.nil)) ds.tail.tail.tail.tail.tail.tail.tail.tail.tail.tail, ())⟩

noncomputable def inbox_Mark_loops {α : Type} (inbox_Fit : inbox_Fit_T α) (inbox_Had : inbox_Had_T α) (slices_BinarySearch_int_int : slices_BinarySearch_int_int_T α) (slices_Concat_int_int : slices_Concat_int_int_T α) (slices_Clone_int_int : slices_Clone_int_int_T α) : List (LoopSpec α) := [inbox_Mark_l0_spec inbox_Fit inbox_Had slices_BinarySearch_int_int slices_Concat_int_int slices_Clone_int_int]

noncomputable def inbox_Mark_l0_ev {α : Type} (inbox_Fit : inbox_Fit_T α) (inbox_Had : inbox_Had_T α) (slices_BinarySearch_int_int : slices_BinarySearch_int_int_T α) (slices_Concat_int_int : slices_Concat_int_int_T α) (slices_Clone_int_int : slices_Clone_int_int_T α) (n : Nat) (st : St) (k : X → St → Option α) : Option α := loopN (evCode Go.Proofs.Try.prog (callD Go.Proofs.Try.prog (envOf (inbox_Mark_C inbox_Fit inbox_Had slices_BinarySearch_int_int slices_Concat_int_int slices_Clone_int_int) inbox_Mark_q inbox_Mark_inl 1000 inbox_Mark_ann true (inbox_Mark_loops inbox_Fit inbox_Had slices_BinarySearch_int_int slices_Concat_int_int slices_Clone_int_int) (fun _ => none)) 6) (((envOf (inbox_Mark_C inbox_Fit inbox_Had slices_BinarySearch_int_int slices_Concat_int_int slices_Clone_int_int) inbox_Mark_q inbox_Mark_inl 1000 inbox_Mark_ann true (inbox_Mark_loops inbox_Fit inbox_Had slices_BinarySearch_int_int slices_Concat_int_int slices_Clone_int_int) (fun _ => none)) : Env α).L 6 64) 1000 (inbox_Mark_ann 64) (false :: [false, true, true, true, true, true, true]) (loopC Go.Proofs.Try.prog 64 [false, true, true, true, true, true, true])) ((inbox_Mark_ann 64 [false, true, true, true, true, true, true]).head 6) ((inbox_Mark_ann 64 [false, true, true, true, true, true, true]).leave 6) n st k

theorem inbox_Mark_l0_eq {α : Type} (inbox_Fit : inbox_Fit_T α) (inbox_Had : inbox_Had_T α) (slices_BinarySearch_int_int : slices_BinarySearch_int_int_T α) (slices_Concat_int_int : slices_Concat_int_int_T α) (slices_Clone_int_int : slices_Clone_int_int_T α) : ∀ (n : Nat) (x8 : Seq (Int × Unit)) (x9 : Bool) (x10 : Int × Int × (Seq (Int × Unit)) × Unit) (x11 : Int × Int × (Seq (Int × Unit)) × Unit) (x12 : Int × Int × (Seq (Int × Unit)) × Unit) (k : X → St → Option α), inbox_Mark_l0_ev inbox_Fit inbox_Had slices_BinarySearch_int_int slices_Concat_int_int slices_Clone_int_int n (encSt inbox_Mark_l0_t inbox_Mark_l0_s inbox_Mark_l0_h [.q (.int .i64 (.nil)) x8, .b x9, .i x10.1, .i x10.2.1, .q (.int .i64 (.nil)) x10.2.2.1, .i x11.1, .i x11.2.1, .q (.int .i64 (.nil)) x11.2.2.1, .i x12.1, .i x12.2.1, .q (.int .i64 (.nil)) x12.2.2.1]) k = inbox_Mark_l0_run inbox_Fit inbox_Had slices_BinarySearch_int_int slices_Concat_int_int slices_Clone_int_int (fun y1 y2 y3 y4 => k (.exit 1) (encSt [.dead, .dead, .dead, .dead, .ref 1 0, .dead, .dead, .dead, .sl (.int .i64 (.nil)), .ref 5 0, .dead, .dead, .dead, .dead, .dead, .dead, .dead, .dead, .dead, .dead, .dead, .dead, .dead, .dead, .dead, .dead, .dead, .dead, .dead, .dead, .dead, .dead, .dead, .dead, .dead, .dead, .dead, .dead, .dead, .dead, .dead, .dead, .dead, .dead, .dead, .dead, .dead, .dead, .dead, .dead, .dead, .dead, .dead, .dead, .dead, .dead, .dead, .dead, .dead, .dead, .dead, .dead, .dead, .dead, .dead, .dead, .dead, .dead, .dead, .dead, .dead, .dead, .dead, .dead, .dead, .dead, .dead, .dead, .dead, .dead, .dead, .dead] [] [.box [.int .i64, .int .i64, .sl (.int .i64 (.nil))], .box [.int .i64, .int .i64, .sl (.int .i64 (.nil))], .gone, .gone, .gone, .box [.int .i64, .int .i64, .sl (.int .i64 (.nil))]] [.q (.int .i64 (.nil)) y1, .i y2.1, .i y2.2.1, .q (.int .i64 (.nil)) y2.2.2.1, .i y3.1, .i y3.2.1, .q (.int .i64 (.nil)) y3.2.2.1, .i y4.1, .i y4.2.1, .q (.int .i64 (.nil)) y4.2.2.1])) n x8 x9 x10 x11 x12 := by
  intro n
  induction n with
  | zero => intros; kernel_rfl
  | succ n ih =>
    intro x8 x9 x10 x11 x12 k
    have e : (fun (x8 : Seq (Int × Unit)) (x9 : Bool) (x10 : Int × Int × (Seq (Int × Unit)) × Unit) (x11 : Int × Int × (Seq (Int × Unit)) × Unit) (x12 : Int × Int × (Seq (Int × Unit)) × Unit) => inbox_Mark_l0_ev inbox_Fit inbox_Had slices_BinarySearch_int_int slices_Concat_int_int slices_Clone_int_int n (encSt inbox_Mark_l0_t inbox_Mark_l0_s inbox_Mark_l0_h [.q (.int .i64 (.nil)) x8, .b x9, .i x10.1, .i x10.2.1, .q (.int .i64 (.nil)) x10.2.2.1, .i x11.1, .i x11.2.1, .q (.int .i64 (.nil)) x11.2.2.1, .i x12.1, .i x12.2.1, .q (.int .i64 (.nil)) x12.2.2.1]) k) = (fun (x8 : Seq (Int × Unit)) (x9 : Bool) (x10 : Int × Int × (Seq (Int × Unit)) × Unit) (x11 : Int × Int × (Seq (Int × Unit)) × Unit) (x12 : Int × Int × (Seq (Int × Unit)) × Unit) => inbox_Mark_l0_run inbox_Fit inbox_Had slices_BinarySearch_int_int slices_Concat_int_int slices_Clone_int_int (fun y1 y2 y3 y4 => k (.exit 1) (encSt [.dead, .dead, .dead, .dead, .ref 1 0, .dead, .dead, .dead, .sl (.int .i64 (.nil)), .ref 5 0, .dead, .dead, .dead, .dead, .dead, .dead, .dead, .dead, .dead, .dead, .dead, .dead, .dead, .dead, .dead, .dead, .dead, .dead, .dead, .dead, .dead, .dead, .dead, .dead, .dead, .dead, .dead, .dead, .dead, .dead, .dead, .dead, .dead, .dead, .dead, .dead, .dead, .dead, .dead, .dead, .dead, .dead, .dead, .dead, .dead, .dead, .dead, .dead, .dead, .dead, .dead, .dead, .dead, .dead, .dead, .dead, .dead, .dead, .dead, .dead, .dead, .dead, .dead, .dead, .dead, .dead, .dead, .dead, .dead, .dead, .dead, .dead] [] [.box [.int .i64, .int .i64, .sl (.int .i64 (.nil))], .box [.int .i64, .int .i64, .sl (.int .i64 (.nil))], .gone, .gone, .gone, .box [.int .i64, .int .i64, .sl (.int .i64 (.nil))]] [.q (.int .i64 (.nil)) y1, .i y2.1, .i y2.2.1, .q (.int .i64 (.nil)) y2.2.2.1, .i y3.1, .i y3.2.1, .q (.int .i64 (.nil)) y3.2.2.1, .i y4.1, .i y4.2.1, .q (.int .i64 (.nil)) y4.2.2.1])) n x8 x9 x10 x11 x12) := by
      funext x8 x9 x10 x11 x12
      exact ih x8 x9 x10 x11 x12 k
    have h1 : inbox_Mark_l0_ev inbox_Fit inbox_Had slices_BinarySearch_int_int slices_Concat_int_int slices_Clone_int_int (n + 1) (encSt inbox_Mark_l0_t inbox_Mark_l0_s inbox_Mark_l0_h [.q (.int .i64 (.nil)) x8, .b x9, .i x10.1, .i x10.2.1, .q (.int .i64 (.nil)) x10.2.2.1, .i x11.1, .i x11.2.1, .q (.int .i64 (.nil)) x11.2.2.1, .i x12.1, .i x12.2.1, .q (.int .i64 (.nil)) x12.2.2.1]) k = inbox_Mark_l0_step inbox_Fit inbox_Had slices_BinarySearch_int_int slices_Concat_int_int slices_Clone_int_int (fun y1 y2 y3 y4 => k (.exit 1) (encSt [.dead, .dead, .dead, .dead, .ref 1 0, .dead, .dead, .dead, .sl (.int .i64 (.nil)), .ref 5 0, .dead, .dead, .dead, .dead, .dead, .dead, .dead, .dead, .dead, .dead, .dead, .dead, .dead, .dead, .dead, .dead, .dead, .dead, .dead, .dead, .dead, .dead, .dead, .dead, .dead, .dead, .dead, .dead, .dead, .dead, .dead, .dead, .dead, .dead, .dead, .dead, .dead, .dead, .dead, .dead, .dead, .dead, .dead, .dead, .dead, .dead, .dead, .dead, .dead, .dead, .dead, .dead, .dead, .dead, .dead, .dead, .dead, .dead, .dead, .dead, .dead, .dead, .dead, .dead, .dead, .dead, .dead, .dead, .dead, .dead, .dead, .dead] [] [.box [.int .i64, .int .i64, .sl (.int .i64 (.nil))], .box [.int .i64, .int .i64, .sl (.int .i64 (.nil))], .gone, .gone, .gone, .box [.int .i64, .int .i64, .sl (.int .i64 (.nil))]] [.q (.int .i64 (.nil)) y1, .i y2.1, .i y2.2.1, .q (.int .i64 (.nil)) y2.2.2.1, .i y3.1, .i y3.2.1, .q (.int .i64 (.nil)) y3.2.2.1, .i y4.1, .i y4.2.1, .q (.int .i64 (.nil)) y4.2.2.1])) (fun (x8 : Seq (Int × Unit)) (x9 : Bool) (x10 : Int × Int × (Seq (Int × Unit)) × Unit) (x11 : Int × Int × (Seq (Int × Unit)) × Unit) (x12 : Int × Int × (Seq (Int × Unit)) × Unit) => inbox_Mark_l0_ev inbox_Fit inbox_Had slices_BinarySearch_int_int slices_Concat_int_int slices_Clone_int_int n (encSt inbox_Mark_l0_t inbox_Mark_l0_s inbox_Mark_l0_h [.q (.int .i64 (.nil)) x8, .b x9, .i x10.1, .i x10.2.1, .q (.int .i64 (.nil)) x10.2.2.1, .i x11.1, .i x11.2.1, .q (.int .i64 (.nil)) x11.2.2.1, .i x12.1, .i x12.2.1, .q (.int .i64 (.nil)) x12.2.2.1]) k) x8 x9 x10 x11 x12 := by kernel_rfl
    have h2 := congrArg (fun r => inbox_Mark_l0_step inbox_Fit inbox_Had slices_BinarySearch_int_int slices_Concat_int_int slices_Clone_int_int (fun y1 y2 y3 y4 => k (.exit 1) (encSt [.dead, .dead, .dead, .dead, .ref 1 0, .dead, .dead, .dead, .sl (.int .i64 (.nil)), .ref 5 0, .dead, .dead, .dead, .dead, .dead, .dead, .dead, .dead, .dead, .dead, .dead, .dead, .dead, .dead, .dead, .dead, .dead, .dead, .dead, .dead, .dead, .dead, .dead, .dead, .dead, .dead, .dead, .dead, .dead, .dead, .dead, .dead, .dead, .dead, .dead, .dead, .dead, .dead, .dead, .dead, .dead, .dead, .dead, .dead, .dead, .dead, .dead, .dead, .dead, .dead, .dead, .dead, .dead, .dead, .dead, .dead, .dead, .dead, .dead, .dead, .dead, .dead, .dead, .dead, .dead, .dead, .dead, .dead, .dead, .dead, .dead, .dead] [] [.box [.int .i64, .int .i64, .sl (.int .i64 (.nil))], .box [.int .i64, .int .i64, .sl (.int .i64 (.nil))], .gone, .gone, .gone, .box [.int .i64, .int .i64, .sl (.int .i64 (.nil))]] [.q (.int .i64 (.nil)) y1, .i y2.1, .i y2.2.1, .q (.int .i64 (.nil)) y2.2.2.1, .i y3.1, .i y3.2.1, .q (.int .i64 (.nil)) y3.2.2.1, .i y4.1, .i y4.2.1, .q (.int .i64 (.nil)) y4.2.2.1])) r x8 x9 x10 x11 x12) e
    have h3 : inbox_Mark_l0_step inbox_Fit inbox_Had slices_BinarySearch_int_int slices_Concat_int_int slices_Clone_int_int (fun y1 y2 y3 y4 => k (.exit 1) (encSt [.dead, .dead, .dead, .dead, .ref 1 0, .dead, .dead, .dead, .sl (.int .i64 (.nil)), .ref 5 0, .dead, .dead, .dead, .dead, .dead, .dead, .dead, .dead, .dead, .dead, .dead, .dead, .dead, .dead, .dead, .dead, .dead, .dead, .dead, .dead, .dead, .dead, .dead, .dead, .dead, .dead, .dead, .dead, .dead, .dead, .dead, .dead, .dead, .dead, .dead, .dead, .dead, .dead, .dead, .dead, .dead, .dead, .dead, .dead, .dead, .dead, .dead, .dead, .dead, .dead, .dead, .dead, .dead, .dead, .dead, .dead, .dead, .dead, .dead, .dead, .dead, .dead, .dead, .dead, .dead, .dead, .dead, .dead, .dead, .dead, .dead, .dead] [] [.box [.int .i64, .int .i64, .sl (.int .i64 (.nil))], .box [.int .i64, .int .i64, .sl (.int .i64 (.nil))], .gone, .gone, .gone, .box [.int .i64, .int .i64, .sl (.int .i64 (.nil))]] [.q (.int .i64 (.nil)) y1, .i y2.1, .i y2.2.1, .q (.int .i64 (.nil)) y2.2.2.1, .i y3.1, .i y3.2.1, .q (.int .i64 (.nil)) y3.2.2.1, .i y4.1, .i y4.2.1, .q (.int .i64 (.nil)) y4.2.2.1])) (fun (x8 : Seq (Int × Unit)) (x9 : Bool) (x10 : Int × Int × (Seq (Int × Unit)) × Unit) (x11 : Int × Int × (Seq (Int × Unit)) × Unit) (x12 : Int × Int × (Seq (Int × Unit)) × Unit) => inbox_Mark_l0_run inbox_Fit inbox_Had slices_BinarySearch_int_int slices_Concat_int_int slices_Clone_int_int (fun y1 y2 y3 y4 => k (.exit 1) (encSt [.dead, .dead, .dead, .dead, .ref 1 0, .dead, .dead, .dead, .sl (.int .i64 (.nil)), .ref 5 0, .dead, .dead, .dead, .dead, .dead, .dead, .dead, .dead, .dead, .dead, .dead, .dead, .dead, .dead, .dead, .dead, .dead, .dead, .dead, .dead, .dead, .dead, .dead, .dead, .dead, .dead, .dead, .dead, .dead, .dead, .dead, .dead, .dead, .dead, .dead, .dead, .dead, .dead, .dead, .dead, .dead, .dead, .dead, .dead, .dead, .dead, .dead, .dead, .dead, .dead, .dead, .dead, .dead, .dead, .dead, .dead, .dead, .dead, .dead, .dead, .dead, .dead, .dead, .dead, .dead, .dead, .dead, .dead, .dead, .dead, .dead, .dead] [] [.box [.int .i64, .int .i64, .sl (.int .i64 (.nil))], .box [.int .i64, .int .i64, .sl (.int .i64 (.nil))], .gone, .gone, .gone, .box [.int .i64, .int .i64, .sl (.int .i64 (.nil))]] [.q (.int .i64 (.nil)) y1, .i y2.1, .i y2.2.1, .q (.int .i64 (.nil)) y2.2.2.1, .i y3.1, .i y3.2.1, .q (.int .i64 (.nil)) y3.2.2.1, .i y4.1, .i y4.2.1, .q (.int .i64 (.nil)) y4.2.2.1])) n x8 x9 x10 x11 x12) x8 x9 x10 x11 x12 = inbox_Mark_l0_run inbox_Fit inbox_Had slices_BinarySearch_int_int slices_Concat_int_int slices_Clone_int_int (fun y1 y2 y3 y4 => k (.exit 1) (encSt [.dead, .dead, .dead, .dead, .ref 1 0, .dead, .dead, .dead, .sl (.int .i64 (.nil)), .ref 5 0, .dead, .dead, .dead, .dead, .dead, .dead, .dead, .dead, .dead, .dead, .dead, .dead, .dead, .dead, .dead, .dead, .dead, .dead, .dead, .dead, .dead, .dead, .dead, .dead, .dead, .dead, .dead, .dead, .dead, .dead, .dead, .dead, .dead, .dead, .dead, .dead, .dead, .dead, .dead, .dead, .dead, .dead, .dead, .dead, .dead, .dead, .dead, .dead, .dead, .dead, .dead, .dead, .dead, .dead, .dead, .dead, .dead, .dead, .dead, .dead, .dead, .dead, .dead, .dead, .dead, .dead, .dead, .dead, .dead, .dead, .dead, .dead] [] [.box [.int .i64, .int .i64, .sl (.int .i64 (.nil))], .box [.int .i64, .int .i64, .sl (.int .i64 (.nil))], .gone, .gone, .gone, .box [.int .i64, .int .i64, .sl (.int .i64 (.nil))]] [.q (.int .i64 (.nil)) y1, .i y2.1, .i y2.2.1, .q (.int .i64 (.nil)) y2.2.2.1, .i y3.1, .i y3.2.1, .q (.int .i64 (.nil)) y3.2.2.1, .i y4.1, .i y4.2.1, .q (.int .i64 (.nil)) y4.2.2.1])) (n + 1) x8 x9 x10 x11 x12 := by kernel_rfl
    exact h1.trans (h2.trans h3)

theorem inbox_Mark_l0_ok {α : Type} (inbox_Fit : inbox_Fit_T α) (inbox_Had : inbox_Had_T α) (slices_BinarySearch_int_int : slices_BinarySearch_int_int_T α) (slices_Concat_int_int : slices_Concat_int_int_T α) (slices_Clone_int_int : slices_Clone_int_int_T α) : (inbox_Mark_l0_spec inbox_Fit inbox_Had slices_BinarySearch_int_int slices_Concat_int_int slices_Clone_int_int : LoopSpec α).ok Go.Proofs.Try.prog (envOf (inbox_Mark_C inbox_Fit inbox_Had slices_BinarySearch_int_int slices_Concat_int_int slices_Clone_int_int) inbox_Mark_q inbox_Mark_inl 1000 inbox_Mark_ann true (inbox_Mark_loops inbox_Fit inbox_Had slices_BinarySearch_int_int slices_Concat_int_int slices_Clone_int_int) (fun _ => none)) := by
  intro ds k
  have h1 : inbox_Mark_l0_ev inbox_Fit inbox_Had slices_BinarySearch_int_int slices_Concat_int_int slices_Clone_int_int 1000 (encSt inbox_Mark_l0_t inbox_Mark_l0_s inbox_Mark_l0_h ds) k = inbox_Mark_l0_ev inbox_Fit inbox_Had slices_BinarySearch_int_int slices_Concat_int_int slices_Clone_int_int 1000 (encSt inbox_Mark_l0_t inbox_Mark_l0_s inbox_Mark_l0_h [.q (.int .i64 (.nil)) (hdQ (.int .i64 (.nil)) ds), .b (hdB ds.tail), .i ((hdI ds.tail.tail, hdI ds.tail.tail.tail, hdQ (.int .i64 (.nil)) ds.tail.tail.tail.tail, ()).1), .i ((hdI ds.tail.tail, hdI ds.tail.tail.tail, hdQ (.int .i64 (.nil)) ds.tail.tail.tail.tail, ()).2.1), .q (.int .i64 (.nil)) ((hdI ds.tail.tail, hdI ds.tail.tail.tail, hdQ (.int .i64 (.nil)) ds.tail.tail.tail.tail, ()).2.2.1), .i ((hdI ds.tail.tail.tail.tail.tail, hdI ds.tail.tail.tail.tail.tail.tail, hdQ (.int .i64 (.nil)) ds.tail.tail.tail.tail.tail.tail.tail, ()).1), .i ((hdI ds.tail.tail.tail.tail.tail, hdI ds.tail.tail.tail.tail.tail.tail, hdQ (.int .i64 (.nil)) ds.tail.tail.tail.tail.tail.tail.tail, ()).2.1), .q (.int .i64 (.nil)) ((hdI ds.tail.tail.tail.tail.tail, hdI ds.tail.tail.tail.tail.tail.tail, hdQ (.int .i64 (.nil)) ds.tail.tail.tail.tail.tail.tail.tail, ()).2.2.1), .i ((hdI ds.tail.tail.tail.tail.tail.tail.tail.tail, hdI ds.tail.tail.tail.tail.tail.tail.tail.tail.tail, hdQ (.int .i64 (.nil)) ds.tail.tail.tail.tail.tail.tail.tail.tail.tail.tail, ()).1), .i ((hdI ds.tail.tail.tail.tail.tail.tail.tail.tail, hdI ds.tail.tail.tail.tail.tail.tail.tail.tail.tail, hdQ (.int .i64 (.nil)) ds.tail.tail.tail.tail.tail.tail.tail.tail.tail.tail, ()).2.1), .q (.int .i64 (.nil)) ((hdI ds.tail.tail.tail.tail.tail.tail.tail.tail, hdI ds.tail.tail.tail.tail.tail.tail.tail.tail.tail, hdQ (.int .i64 (.nil)) ds.tail.tail.tail.tail.tail.tail.tail.tail.tail.tail, ()).2.2.1)]) k := by kernel_rfl
  have h2 := inbox_Mark_l0_eq inbox_Fit inbox_Had slices_BinarySearch_int_int slices_Concat_int_int slices_Clone_int_int 1000 (hdQ (.int .i64 (.nil)) ds) (hdB ds.tail) (hdI ds.tail.tail, hdI ds.tail.tail.tail, hdQ (.int .i64 (.nil)) ds.tail.tail.tail.tail, ()) (hdI ds.tail.tail.tail.tail.tail, hdI ds.tail.tail.tail.tail.tail.tail, hdQ (.int .i64 (.nil)) ds.tail.tail.tail.tail.tail.tail.tail, ()) (hdI ds.tail.tail.tail.tail.tail.tail.tail.tail, hdI ds.tail.tail.tail.tail.tail.tail.tail.tail.tail, hdQ (.int .i64 (.nil)) ds.tail.tail.tail.tail.tail.tail.tail.tail.tail.tail, ()) k
  exact h1.trans h2

theorem inbox_Mark_ev {α : Type} (inbox_Fit : inbox_Fit_T α) (inbox_Had : inbox_Had_T α) (slices_BinarySearch_int_int : slices_BinarySearch_int_int_T α) (slices_Concat_int_int : slices_Concat_int_int_T α) (slices_Clone_int_int : slices_Clone_int_int_T α) : EvOk (α := α) Go.Proofs.Try.prog (envOf (inbox_Mark_C inbox_Fit inbox_Had slices_BinarySearch_int_int slices_Concat_int_int slices_Clone_int_int) inbox_Mark_q inbox_Mark_inl 1000 inbox_Mark_ann true (inbox_Mark_loops inbox_Fit inbox_Had slices_BinarySearch_int_int slices_Concat_int_int slices_Clone_int_int) (fun _ => none)) 6 (inbox_Mark_sp (inbox_Mark_g inbox_Fit inbox_Had slices_BinarySearch_int_int slices_Concat_int_int slices_Clone_int_int)) := by intro ds k; kernel_rfl

theorem inbox_Mark_ok {α : Type} : (inbox_Mark_spec : FunSpec α).ok Go.Proofs.Try.prog :=
  FunSpec.ok_of (sp := inbox_Mark_spec) (C := inbox_Mark_C inbox_Fit inbox_Had slices_BinarySearch_int_int slices_Concat_int_int slices_Clone_int_int) (q := inbox_Mark_q) (inl := inbox_Mark_inl) (N := 1000) (ann := inbox_Mark_ann) (fr := true) (D := 6) (l := (inbox_Mark_loops inbox_Fit inbox_Had slices_BinarySearch_int_int slices_Concat_int_int slices_Clone_int_int)) (hk := (fun _ => none)) (okCons inbox_Fit_ok (okCons inbox_Had_ok (okCons slices_BinarySearch_int_int_ok (okCons slices_Concat_int_int_ok (okCons slices_Clone_int_int_ok okNil))))) (lokCons (inbox_Mark_l0_ok inbox_Fit inbox_Had slices_BinarySearch_int_int slices_Concat_int_int slices_Clone_int_int) lokNil) noHooks (inbox_Mark_ev inbox_Fit inbox_Had slices_BinarySearch_int_int slices_Concat_int_int slices_Clone_int_int)

end
end Go.Rv.Try

set_option linter.unusedVariables false
set_option maxRecDepth 100000
set_option maxHeartbeats 4000000
namespace Go.Rv.Try
open Go Go.Rv Go.RowKit
noncomputable section

-- drayman/draymanlaw18.awake

abbrev draymanlaw18_awake_T (α : Type) : Type := (Bool → Option α) → Option α

noncomputable def draymanlaw18_awake_g {α : Type} (inbox_New : inbox_New_T α) (inbox_Mark : inbox_Mark_T α) (inbox_Fit : inbox_Fit_T α) (k : Bool → Option α) : Option α :=
  (inbox_New 1 fun r1 =>
    (inbox_Mark r1 2 fun r2 r3 =>
      (inbox_Mark r2 1 fun r4 r5 =>
        (inbox_Mark r4 2 fun r6 r7 =>
          (cond (r3 == 0)
            (cond (r5 == 0)
              (cond ((r2.2.2.1.n : Int) == 1)
                (cond (r4.2.1 == 2)
                  (cond ((r4.2.2.1.n : Int) == 0)
                    (cond (r7 == 14)
                      (inbox_Fit r4 fun r8 =>
                        (k r8))
                      (k false))
                    (k false))
                  (k false))
                (k false))
              (k false))
            (k false))))))

noncomputable def draymanlaw18_awake {α : Type} : draymanlaw18_awake_T α := draymanlaw18_awake_g inbox_New inbox_Mark inbox_Fit

noncomputable def draymanlaw18_awake_sp {α : Type} (draymanlaw18_awake : draymanlaw18_awake_T α) : FunSpec α := ⟨61, [], [], fun ds k => draymanlaw18_awake  (fun r1 => k (enc dep (.bool) [.b r1]).1 [])⟩

noncomputable def draymanlaw18_awake_spec {α : Type} : FunSpec α := draymanlaw18_awake_sp draymanlaw18_awake

noncomputable def draymanlaw18_awake_C {α : Type} (inbox_New : inbox_New_T α) (inbox_Mark : inbox_Mark_T α) (inbox_Fit : inbox_Fit_T α) : List (FunSpec α) := [inbox_New_sp inbox_New, inbox_Mark_sp inbox_Mark, inbox_Fit_sp inbox_Fit]

noncomputable def draymanlaw18_awake_q : FuncId → Bool := fun f => Nat.beq f 65

noncomputable def draymanlaw18_awake_inl : FuncId → Bool := fun f => false

noncomputable def draymanlaw18_awake_ann : FuncId → AnnT := fun f p => ⟨[], [], [], [], 0, [], []⟩

noncomputable def draymanlaw18_awake_loops {α : Type} (inbox_New : inbox_New_T α) (inbox_Mark : inbox_Mark_T α) (inbox_Fit : inbox_Fit_T α) : List (LoopSpec α) := []

theorem draymanlaw18_awake_ev {α : Type} (inbox_New : inbox_New_T α) (inbox_Mark : inbox_Mark_T α) (inbox_Fit : inbox_Fit_T α) : EvOk (α := α) Go.Proofs.Try.prog (envOf (draymanlaw18_awake_C inbox_New inbox_Mark inbox_Fit) draymanlaw18_awake_q draymanlaw18_awake_inl 1000 draymanlaw18_awake_ann false (draymanlaw18_awake_loops inbox_New inbox_Mark inbox_Fit) (fun _ => none)) 6 (draymanlaw18_awake_sp (draymanlaw18_awake_g inbox_New inbox_Mark inbox_Fit)) := by intro ds k; kernel_rfl

theorem draymanlaw18_awake_ok {α : Type} : (draymanlaw18_awake_spec : FunSpec α).ok Go.Proofs.Try.prog :=
  FunSpec.ok_of (sp := draymanlaw18_awake_spec) (C := draymanlaw18_awake_C inbox_New inbox_Mark inbox_Fit) (q := draymanlaw18_awake_q) (inl := draymanlaw18_awake_inl) (N := 1000) (ann := draymanlaw18_awake_ann) (fr := false) (D := 6) (l := (draymanlaw18_awake_loops inbox_New inbox_Mark inbox_Fit)) (hk := (fun _ => none)) (okCons inbox_New_ok (okCons inbox_Mark_ok (okCons inbox_Fit_ok okNil))) lokNil noHooks (draymanlaw18_awake_ev inbox_New inbox_Mark inbox_Fit)

end
end Go.Rv.Try
