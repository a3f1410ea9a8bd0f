/- What the functions of the program compute, each with the proof that its code computes it. Written by a program (rvp2.py). -/
import Derived.Test.YtmoeohjaafpmgaaProg
import Derived.Test.YtmoeohjaafpmgaaRvP
import Derived.Test.YtmoeohjaafpmgaaE1

set_option linter.unusedVariables false
set_option maxRecDepth 100000
set_option maxHeartbeats 4000000
namespace Go.Rv.Try
open Go Go.Rv Go.RowKit
noncomputable section

-- drayman/carry.took

abbrev carry_took_T (α : Type) : Type := (Seq (Int × Int × Int × Bool × Unit)) → Z0 → ((Seq (Int × Int × Int × Bool × Unit)) → Option α) → Option α

noncomputable def carry_took_l0_step {α : Type} (slices_Concat_carry_Parcel_carry_Parcel : slices_Concat_carry_Parcel_carry_Parcel_T α) (k0 : Z0 → (Seq (Int × Int × Int × Bool × Unit)) → (Seq (Int × Int × Int × Bool × Unit)) → Option α) (rec : (Seq (Int × Int × Int × Bool × Unit)) → (Int) → (Int) → Z0 → (Seq (Int × Int × Int × Bool × Unit)) → (Seq (Int × Int × Int × Bool × Unit)) → Option α) (x4 : Seq (Int × Int × Int × Bool × Unit)) (x5 : Int) (x6 : Int) (x7 : Int × Int × Int × Bool × Int × Int × Bool × Unit) (q8 : Seq (Int × Int × Int × Bool × Unit)) (q9 : Seq (Int × Int × Int × Bool × Unit)) : Option α :=
  (cond (decide (x6 < x5))
    (cond ((decide ((0 : Int) ≤ x6)) && (decide (x6 < (x4.n : Int))))
      (cond (!(x4.g x6.toNat).2.2.2.1)
        (cond ((x4.g x6.toNat).2.1 == x7.2.1)
          (cond ((decide ((0 : Int) ≤ x6)) && (decide (x6 < (q9.n : Int))))
            (cond (Nat.blt x6.toNat q9.n)
              (rec x4 x5 (IntKind.i64.wrap (x6 + 1)) x7 q8 (⟨q9.nl, q9.n, (fun j => cond (Nat.beq j x6.toNat) ((q9.g j).1, (q9.g j).2.1, (q9.g j).2.2.1, ((x4.g x6.toNat).2.2.1 == x7.2.2.1), ()) (q9.g j))⟩ : Seq (Int × Int × Int × Bool × Unit)))
              none)
            none)
          (cond ((decide ((0 : Int) ≤ x6)) && (decide (x6 < (q9.n : Int))))
            (cond (Nat.blt x6.toNat q9.n)
              (rec x4 x5 (IntKind.i64.wrap (x6 + 1)) x7 q8 (⟨q9.nl, q9.n, (fun j => cond (Nat.beq j x6.toNat) ((q9.g j).1, (q9.g j).2.1, (q9.g j).2.2.1, false, ()) (q9.g j))⟩ : Seq (Int × Int × Int × Bool × Unit)))
              none)
            none))
        (cond ((decide ((0 : Int) ≤ x6)) && (decide (x6 < (q9.n : Int))))
          (cond (Nat.blt x6.toNat q9.n)
            (rec x4 x5 (IntKind.i64.wrap (x6 + 1)) x7 q8 (⟨q9.nl, q9.n, (fun j => cond (Nat.beq j x6.toNat) ((q9.g j).1, (q9.g j).2.1, (q9.g j).2.2.1, true, ()) (q9.g j))⟩ : Seq (Int × Int × Int × Bool × Unit)))
            none)
          none))
      none)
    (k0 x7 q8 q9))

noncomputable def carry_took_l0_run {α : Type} (slices_Concat_carry_Parcel_carry_Parcel : slices_Concat_carry_Parcel_carry_Parcel_T α) (k0 : Z0 → (Seq (Int × Int × Int × Bool × Unit)) → (Seq (Int × Int × Int × Bool × Unit)) → Option α) : Nat → (Seq (Int × Int × Int × Bool × Unit)) → (Int) → (Int) → Z0 → (Seq (Int × Int × Int × Bool × Unit)) → (Seq (Int × Int × Int × Bool × Unit)) → Option α
  | 0, _, _, _, _, _, _ => none
  | n + 1, x4, x5, x6, x7, q8, q9 => carry_took_l0_step slices_Concat_carry_Parcel_carry_Parcel k0 (fun x4 x5 x6 x7 q8 q9 => carry_took_l0_run slices_Concat_carry_Parcel_carry_Parcel k0 n x4 x5 x6 x7 q8 q9) x4 x5 x6 x7 q8 q9

noncomputable def carry_took_g {α : Type} (slices_Concat_carry_Parcel_carry_Parcel : slices_Concat_carry_Parcel_carry_Parcel_T α) (l1 : Seq (Int × Int × Int × Bool × Unit)) (x2 : Int × Int × Int × Bool × Int × Int × Bool × Unit) (k : (Seq (Int × Int × Int × Bool × Unit)) → Option α) : Option α :=
  (cond (!x2.2.2.2.1)
    (slices_Concat_carry_Parcel_carry_Parcel (⟨false, 2, (tSel [(l1, ()), ((⟨false, 1, (fun _ => ((IntKind.i64.wrap ((l1.n : Int) + 1)), x2.2.1, x2.2.2.1, false, ()))⟩ : Seq (Int × Int × Int × Bool × Unit)), ())] ((⟨true, 0, fun _ => (0, 0, 0, false, ())⟩ : Seq (Int × Int × Int × Bool × Unit)), ()))⟩ : Seq ((Seq (Int × Int × Int × Bool × Unit)) × Unit)) fun r3 =>
      (k r3))
    (cond (((decide ((0 : Int) ≤ (l1.n : Int))) && (decide ((l1.n : Int) ≤ (l1.n : Int)))) && (decide (((32 : Int) * (l1.n : Int)) ≤ 140737488355328)))
      (carry_took_l0_run slices_Concat_carry_Parcel_carry_Parcel
        (fun x10 q11 q12 =>
          (k q12))
        1000 l1 (l1.n : Int) 0 x2 (⟨true, 0, (fun _ => (0, 0, 0, false, ()))⟩ : Seq (Int × Int × Int × Bool × Unit)) (⟨false, (l1.n : Int).toNat, (tApp (min l1.n (l1.n : Int).toNat) l1.g (tShift (min l1.n (l1.n : Int).toNat) (fun _ => (0, 0, 0, false, ()))))⟩ : Seq (Int × Int × Int × Bool × Unit)))
      none))

noncomputable def carry_took {α : Type} : carry_took_T α := carry_took_g slices_Concat_carry_Parcel_carry_Parcel

noncomputable def carry_took_sp {α : Type} (carry_took : carry_took_T α) : FunSpec α := ⟨50, [.sl (.int .i64 (.int .i64 (.int .i64 (.bool (.nil))))), .agg [.int .i64, .int .i64, .int .i64, .bool, .int .i64, .int .i64, .bool]], [], fun ds k => carry_took (hdQ (.int .i64 (.int .i64 (.int .i64 (.bool (.nil))))) ds) (hdI ds.tail, hdI ds.tail.tail, hdI ds.tail.tail.tail, hdB ds.tail.tail.tail.tail, hdI ds.tail.tail.tail.tail.tail, hdI ds.tail.tail.tail.tail.tail.tail, hdB ds.tail.tail.tail.tail.tail.tail.tail, ()) (fun q1 => k (enc dep (.own 0) []).1 (encBs [.row true (.int .i64 (.int .i64 (.int .i64 (.bool (.nil)))))] [.q (.int .i64 (.int .i64 (.int .i64 (.bool (.nil))))) q1]).1)⟩

noncomputable def carry_took_spec {α : Type} : FunSpec α := carry_took_sp carry_took

noncomputable def carry_took_C {α : Type} (slices_Concat_carry_Parcel_carry_Parcel : slices_Concat_carry_Parcel_carry_Parcel_T α) : List (FunSpec α) := [slices_Concat_carry_Parcel_carry_Parcel_sp slices_Concat_carry_Parcel_carry_Parcel]

noncomputable def carry_took_q : FuncId → Bool := fun f => false

noncomputable def carry_took_inl : FuncId → Bool := fun f => false

noncomputable def carry_took_ann : FuncId → AnnT := fun f p => if f = 50 then (if p = [true, false, true, true, true, true] then ⟨[3, 5, 29, 30, 31], [1, 2], [5], [4], 0, [], []⟩ else ⟨[], [], [], [], 0, [], []⟩) else ⟨[], [], [], [], 0, [], []⟩

noncomputable def carry_took_l0_t : List Sh := [.dead, .dead, .dead, .ref 0 0, .dead, .own 2, .dead, .dead, .dead, .dead, .dead, .dead, .dead, .dead, .dead, .dead, .dead, .dead, .dead, .dead, .dead, .dead, .dead, .dead, .dead, .dead, .dead, .dead, .dead, .sl (.int .i64 (.int .i64 (.int .i64 (.bool (.nil))))), .int .i64, .int .i64, .dead, .dead, .dead, .dead, .dead, .dead, .dead, .dead, .dead, .dead, .dead, .dead, .dead, .dead, .dead, .dead, .dead, .dead, .dead, .dead, .dead, .dead, .dead, .dead, .dead, .dead]
noncomputable def carry_took_l0_s : List (List Sh) := []
noncomputable def carry_took_l0_h : List BSh := [.box [.int .i64, .int .i64, .int .i64, .bool, .int .i64, .int .i64, .bool], .row true (.int .i64 (.int .i64 (.int .i64 (.bool (.nil))))), .row true (.int .i64 (.int .i64 (.int .i64 (.bool (.nil)))))]

noncomputable def carry_took_l0_spec {α : Type} (slices_Concat_carry_Parcel_carry_Parcel : slices_Concat_carry_Parcel_carry_Parcel_T α) : LoopSpec α := ⟨6, 50, [true, false, true, true, true, true], carry_took_l0_t, carry_took_l0_s, carry_took_l0_h, fun ds k => carry_took_l0_run slices_Concat_carry_Parcel_carry_Parcel (fun y1 y2 y3 => k (.exit 0) (encSt [.dead, .dead, .dead, .dead, .dead, .own 2, .dead, .dead, .dead, .dead, .dead, .dead, .dead, .dead, .dead, .dead, .dead, .dead, .dead, .dead, .dead, .dead, .dead, .dead, .dead, .dead, .dead, .dead, .dead, .dead, .dead, .dead, .dead, .dead, .dead, .dead, .dead, .dead, .dead, .dead, .dead, .dead, .dead, .dead, .dead, .dead, .dead, .dead, .dead, .dead, .dead, .dead, .dead, .dead, .dead, .dead, .dead, .dead] [] [.box [.int .i64, .int .i64, .int .i64, .bool, .int .i64, .int .i64, .bool], .row true (.int .i64 (.int .i64 (.int .i64 (.bool (.nil))))), .row true (.int .i64 (.int .i64 (.int .i64 (.bool (.nil)))))] [.i y1.1, .i y1.2.1, .i y1.2.2.1, .b y1.2.2.2.1, .i y1.2.2.2.2.1, .i y1.2.2.2.2.2.1, .b y1.2.2.2.2.2.2.1, .q (.int .i64 (.int .i64 (.int .i64 (.bool (.nil))))) y2, .q (.int .i64 (.int .i64 (.int .i64 (.bool (.nil))))) y3])) 1000 (hdQ (.int .i64 (.int .i64 (.int .i64 (.bool (.nil))))) ds) (hdI ds.tail) (hdI ds.tail.tail) (hdI ds.tail.tail.tail, hdI ds.tail.tail.tail.tail, hdI ds.tail.tail.tail.tail.tail, hdB ds.tail.tail.tail.tail.tail.tail, hdI ds.tail.tail.tail.tail.tail.tail.tail, hdI ds.tail.tail.tail.tail.tail.tail.tail.tail, hdB ds.tail.tail.tail.tail.tail.tail.tail.tail.tail, ()) (hdQ (.int .i64 (.int .i64 (.int .i64 (.bool (.nil))))) ds.tail.tail.tail.tail.tail.tail.tail.tail.tail.tail) (hdQ (.int .i64 (.int .i64 (.int .i64 (.bool (.nil))))) ds.tail.tail.tail.tail.tail.tail.tail.tail.tail.tail.tail)⟩

noncomputable def carry_took_loops {α : Type} (slices_Concat_carry_Parcel_carry_Parcel : slices_Concat_carry_Parcel_carry_Parcel_T α) : List (LoopSpec α) := [carry_took_l0_spec slices_Concat_carry_Parcel_carry_Parcel]

noncomputable def carry_took_l0_ev {α : Type} (slices_Concat_carry_Parcel_carry_Parcel : slices_Concat_carry_Parcel_carry_Parcel_T α) (n : Nat) (st : St) (k : X → St → Option α) : Option α := loopN (evCode Go.Proofs.Try.prog (callD Go.Proofs.Try.prog (envOf (carry_took_C slices_Concat_carry_Parcel_carry_Parcel) carry_took_q carry_took_inl 1000 carry_took_ann false (carry_took_loops slices_Concat_carry_Parcel_carry_Parcel) (fun _ => none)) 6) (((envOf (carry_took_C slices_Concat_carry_Parcel_carry_Parcel) carry_took_q carry_took_inl 1000 carry_took_ann false (carry_took_loops slices_Concat_carry_Parcel_carry_Parcel) (fun _ => none)) : Env α).L 6 50) 1000 (carry_took_ann 50) (false :: [true, false, true, true, true, true]) (loopC Go.Proofs.Try.prog 50 [true, false, true, true, true, true])) ((carry_took_ann 50 [true, false, true, true, true, true]).head 3) ((carry_took_ann 50 [true, false, true, true, true, true]).leave 3) n st k

theorem carry_took_l0_eq {α : Type} (slices_Concat_carry_Parcel_carry_Parcel : slices_Concat_carry_Parcel_carry_Parcel_T α) : ∀ (n : Nat) (x4 : Seq (Int × Int × Int × Bool × Unit)) (x5 : Int) (x6 : Int) (x7 : Int × Int × Int × Bool × Int × Int × Bool × Unit) (q8 : Seq (Int × Int × Int × Bool × Unit)) (q9 : Seq (Int × Int × Int × Bool × Unit)) (k : X → St → Option α), carry_took_l0_ev slices_Concat_carry_Parcel_carry_Parcel n (encSt carry_took_l0_t carry_took_l0_s carry_took_l0_h [.q (.int .i64 (.int .i64 (.int .i64 (.bool (.nil))))) x4, .i x5, .i x6, .i x7.1, .i x7.2.1, .i x7.2.2.1, .b x7.2.2.2.1, .i x7.2.2.2.2.1, .i x7.2.2.2.2.2.1, .b x7.2.2.2.2.2.2.1, .q (.int .i64 (.int .i64 (.int .i64 (.bool (.nil))))) q8, .q (.int .i64 (.int .i64 (.int .i64 (.bool (.nil))))) q9]) k = carry_took_l0_run slices_Concat_carry_Parcel_carry_Parcel (fun y1 y2 y3 => k (.exit 0) (encSt [.dead, .dead, .dead, .dead, .dead, .own 2, .dead, .dead, .dead, .dead, .dead, .dead, .dead, .dead, .dead, .dead, .dead, .dead, .dead, .dead, .dead, .dead, .dead, .dead, .dead, .dead, .dead, .dead, .dead, .dead, .dead, .dead, .dead, .dead, .dead, .dead, .dead, .dead, .dead, .dead, .dead, .dead, .dead, .dead, .dead, .dead, .dead, .dead, .dead, .dead, .dead, .dead, .dead, .dead, .dead, .dead, .dead, .dead] [] [.box [.int .i64, .int .i64, .int .i64, .bool, .int .i64, .int .i64, .bool], .row true (.int .i64 (.int .i64 (.int .i64 (.bool (.nil))))), .row true (.int .i64 (.int .i64 (.int .i64 (.bool (.nil)))))] [.i y1.1, .i y1.2.1, .i y1.2.2.1, .b y1.2.2.2.1, .i y1.2.2.2.2.1, .i y1.2.2.2.2.2.1, .b y1.2.2.2.2.2.2.1, .q (.int .i64 (.int .i64 (.int .i64 (.bool (.nil))))) y2, .q (.int .i64 (.int .i64 (.int .i64 (.bool (.nil))))) y3])) n x4 x5 x6 x7 q8 q9 := by
  intro n
  induction n with
  | zero => intros; kernel_rfl
  | succ n ih =>
    intro x4 x5 x6 x7 q8 q9 k
    have e : (fun (x4 : Seq (Int × Int × Int × Bool × Unit)) (x5 : Int) (x6 : Int) (x7 : Int × Int × Int × Bool × Int × Int × Bool × Unit) (q8 : Seq (Int × Int × Int × Bool × Unit)) (q9 : Seq (Int × Int × Int × Bool × Unit)) => carry_took_l0_ev slices_Concat_carry_Parcel_carry_Parcel n (encSt carry_took_l0_t carry_took_l0_s carry_took_l0_h [.q (.int .i64 (.int .i64 (.int .i64 (.bool (.nil))))) x4, .i x5, .i x6, .i x7.1, .i x7.2.1, .i x7.2.2.1, .b x7.2.2.2.1, .i x7.2.2.2.2.1, .i x7.2.2.2.2.2.1, .b x7.2.2.2.2.2.2.1, .q (.int .i64 (.int .i64 (.int .i64 (.bool (.nil))))) q8, .q (.int .i64 (.int .i64 (.int .i64 (.bool (.nil))))) q9]) k) = (fun (x4 : Seq (Int × Int × Int × Bool × Unit)) (x5 : Int) (x6 : Int) (x7 : Int × Int × Int × Bool × Int × Int × Bool × Unit) (q8 : Seq (Int × Int × Int × Bool × Unit)) (q9 : Seq (Int × Int × Int × Bool × Unit)) => carry_took_l0_run slices_Concat_carry_Parcel_carry_Parcel (fun y1 y2 y3 => k (.exit 0) (encSt [.dead, .dead, .dead, .dead, .dead, .own 2, .dead, .dead, .dead, .dead, .dead, .dead, .dead, .dead, .dead, .dead, .dead, .dead, .dead, .dead, .dead, .dead, .dead, .dead, .dead, .dead, .dead, .dead, .dead, .dead, .dead, .dead, .dead, .dead, .dead, .dead, .dead, .dead, .dead, .dead, .dead, .dead, .dead, .dead, .dead, .dead, .dead, .dead, .dead, .dead, .dead, .dead, .dead, .dead, .dead, .dead, .dead, .dead] [] [.box [.int .i64, .int .i64, .int .i64, .bool, .int .i64, .int .i64, .bool], .row true (.int .i64 (.int .i64 (.int .i64 (.bool (.nil))))), .row true (.int .i64 (.int .i64 (.int .i64 (.bool (.nil)))))] [.i y1.1, .i y1.2.1, .i y1.2.2.1, .b y1.2.2.2.1, .i y1.2.2.2.2.1, .i y1.2.2.2.2.2.1, .b y1.2.2.2.2.2.2.1, .q (.int .i64 (.int .i64 (.int .i64 (.bool (.nil))))) y2, .q (.int .i64 (.int .i64 (.int .i64 (.bool (.nil))))) y3])) n x4 x5 x6 x7 q8 q9) := by
      funext x4 x5 x6 x7 q8 q9
      exact ih x4 x5 x6 x7 q8 q9 k
    have h1 : carry_took_l0_ev slices_Concat_carry_Parcel_carry_Parcel (n + 1) (encSt carry_took_l0_t carry_took_l0_s carry_took_l0_h [.q (.int .i64 (.int .i64 (.int .i64 (.bool (.nil))))) x4, .i x5, .i x6, .i x7.1, .i x7.2.1, .i x7.2.2.1, .b x7.2.2.2.1, .i x7.2.2.2.2.1, .i x7.2.2.2.2.2.1, .b x7.2.2.2.2.2.2.1, .q (.int .i64 (.int .i64 (.int .i64 (.bool (.nil))))) q8, .q (.int .i64 (.int .i64 (.int .i64 (.bool (.nil))))) q9]) k = carry_took_l0_step slices_Concat_carry_Parcel_carry_Parcel (fun y1 y2 y3 => k (.exit 0) (encSt [.dead, .dead, .dead, .dead, .dead, .own 2, .dead, .dead, .dead, .dead, .dead, .dead, .dead, .dead, .dead, .dead, .dead, .dead, .dead, .dead, .dead, .dead, .dead, .dead, .dead, .dead, .dead, .dead, .dead, .dead, .dead, .dead, .dead, .dead, .dead, .dead, .dead, .dead, .dead, .dead, .dead, .dead, .dead, .dead, .dead, .dead, .dead, .dead, .dead, .dead, .dead, .dead, .dead, .dead, .dead, .dead, .dead, .dead] [] [.box [.int .i64, .int .i64, .int .i64, .bool, .int .i64, .int .i64, .bool], .row true (.int .i64 (.int .i64 (.int .i64 (.bool (.nil))))), .row true (.int .i64 (.int .i64 (.int .i64 (.bool (.nil)))))] [.i y1.1, .i y1.2.1, .i y1.2.2.1, .b y1.2.2.2.1, .i y1.2.2.2.2.1, .i y1.2.2.2.2.2.1, .b y1.2.2.2.2.2.2.1, .q (.int .i64 (.int .i64 (.int .i64 (.bool (.nil))))) y2, .q (.int .i64 (.int .i64 (.int .i64 (.bool (.nil))))) y3])) (fun (x4 : Seq (Int × Int × Int × Bool × Unit)) (x5 : Int) (x6 : Int) (x7 : Int × Int × Int × Bool × Int × Int × Bool × Unit) (q8 : Seq (Int × Int × Int × Bool × Unit)) (q9 : Seq (Int × Int × Int × Bool × Unit)) => carry_took_l0_ev slices_Concat_carry_Parcel_carry_Parcel n (encSt carry_took_l0_t carry_took_l0_s carry_took_l0_h [.q (.int .i64 (.int .i64 (.int .i64 (.bool (.nil))))) x4, .i x5, .i x6, .i x7.1, .i x7.2.1, .i x7.2.2.1, .b x7.2.2.2.1, .i x7.2.2.2.2.1, .i x7.2.2.2.2.2.1, .b x7.2.2.2.2.2.2.1, .q (.int .i64 (.int .i64 (.int .i64 (.bool (.nil))))) q8, .q (.int .i64 (.int .i64 (.int .i64 (.bool (.nil))))) q9]) k) x4 x5 x6 x7 q8 q9 := by kernel_rfl
    have h2 := congrArg (fun r => carry_took_l0_step slices_Concat_carry_Parcel_carry_Parcel (fun y1 y2 y3 => k (.exit 0) (encSt [.dead, .dead, .dead, .dead, .dead, .own 2, .dead, .dead, .dead, .dead, .dead, .dead, .dead, .dead, .dead, .dead, .dead, .dead, .dead, .dead, .dead, .dead, .dead, .dead, .dead, .dead, .dead, .dead, .dead, .dead, .dead, .dead, .dead, .dead, .dead, .dead, .dead, .dead, .dead, .dead, .dead, .dead, .dead, .dead, .dead, .dead, .dead, .dead, .dead, .dead, .dead, .dead, .dead, .dead, .dead, .dead, .dead, .dead] [] [.box [.int .i64, .int .i64, .int .i64, .bool, .int .i64, .int .i64, .bool], .row true (.int .i64 (.int .i64 (.int .i64 (.bool (.nil))))), .row true (.int .i64 (.int .i64 (.int .i64 (.bool (.nil)))))] [.i y1.1, .i y1.2.1, .i y1.2.2.1, .b y1.2.2.2.1, .i y1.2.2.2.2.1, .i y1.2.2.2.2.2.1, .b y1.2.2.2.2.2.2.1, .q (.int .i64 (.int .i64 (.int .i64 (.bool (.nil))))) y2, .q (.int .i64 (.int .i64 (.int .i64 (.bool (.nil))))) y3])) r x4 x5 x6 x7 q8 q9) e
    have h3 : carry_took_l0_step slices_Concat_carry_Parcel_carry_Parcel (fun y1 y2 y3 => k (.exit 0) (encSt [.dead, .dead, .dead, .dead, .dead, .own 2, .dead, .dead, .dead, .dead, .dead, .dead, .dead, .dead, .dead, .dead, .dead, .dead, .dead, .dead, .dead, .dead, .dead, .dead, .dead, .dead, .dead, .dead, .dead, .dead, .dead, .dead, .dead, .dead, .dead, .dead, .dead, .dead, .dead, .dead, .dead, .dead, .dead, .dead, .dead, .dead, .dead, .dead, .dead, .dead, .dead, .dead, .dead, .dead, .dead, .dead, .dead, .dead] [] [.box [.int .i64, .int .i64, .int .i64, .bool, .int .i64, .int .i64, .bool], .row true (.int .i64 (.int .i64 (.int .i64 (.bool (.nil))))), .row true (.int .i64 (.int .i64 (.int .i64 (.bool (.nil)))))] [.i y1.1, .i y1.2.1, .i y1.2.2.1, .b y1.2.2.2.1, .i y1.2.2.2.2.1, .i y1.2.2.2.2.2.1, .b y1.2.2.2.2.2.2.1, .q (.int .i64 (.int .i64 (.int .i64 (.bool (.nil))))) y2, .q (.int .i64 (.int .i64 (.int .i64 (.bool (.nil))))) y3])) (fun (x4 : Seq (Int × Int × Int × Bool × Unit)) (x5 : Int) (x6 : Int) (x7 : Int × Int × Int × Bool × Int × Int × Bool × Unit) (q8 : Seq (Int × Int × Int × Bool × Unit)) (q9 : Seq (Int × Int × Int × Bool × Unit)) => carry_took_l0_run slices_Concat_carry_Parcel_carry_Parcel (fun y1 y2 y3 => k (.exit 0) (encSt [.dead, .dead, .dead, .dead, .dead, .own 2, .dead, .dead, .dead, .dead, .dead, .dead, .dead, .dead, .dead, .dead, .dead, .dead, .dead, .dead, .dead, .dead, .dead, .dead, .dead, .dead, .dead, .dead, .dead, .dead, .dead, .dead, .dead, .dead, .dead, .dead, .dead, .dead, .dead, .dead, .dead, .dead, .dead, .dead, .dead, .dead, .dead, .dead, .dead, .dead, .dead, .dead, .dead, .dead, .dead, .dead, .dead, .dead] [] [.box [.int .i64, .int .i64, .int .i64, .bool, .int .i64, .int .i64, .bool], .row true (.int .i64 (.int .i64 (.int .i64 (.bool (.nil))))), .row true (.int .i64 (.int .i64 (.int .i64 (.bool (.nil)))))] [.i y1.1, .i y1.2.1, .i y1.2.2.1, .b y1.2.2.2.1, .i y1.2.2.2.2.1, .i y1.2.2.2.2.2.1, .b y1.2.2.2.2.2.2.1, .q (.int .i64 (.int .i64 (.int .i64 (.bool (.nil))))) y2, .q (.int .i64 (.int .i64 (.int .i64 (.bool (.nil))))) y3])) n x4 x5 x6 x7 q8 q9) x4 x5 x6 x7 q8 q9 = carry_took_l0_run slices_Concat_carry_Parcel_carry_Parcel (fun y1 y2 y3 => k (.exit 0) (encSt [.dead, .dead, .dead, .dead, .dead, .own 2, .dead, .dead, .dead, .dead, .dead, .dead, .dead, .dead, .dead, .dead, .dead, .dead, .dead, .dead, .dead, .dead, .dead, .dead, .dead, .dead, .dead, .dead, .dead, .dead, .dead, .dead, .dead, .dead, .dead, .dead, .dead, .dead, .dead, .dead, .dead, .dead, .dead, .dead, .dead, .dead, .dead, .dead, .dead, .dead, .dead, .dead, .dead, .dead, .dead, .dead, .dead, .dead] [] [.box [.int .i64, .int .i64, .int .i64, .bool, .int .i64, .int .i64, .bool], .row true (.int .i64 (.int .i64 (.int .i64 (.bool (.nil))))), .row true (.int .i64 (.int .i64 (.int .i64 (.bool (.nil)))))] [.i y1.1, .i y1.2.1, .i y1.2.2.1, .b y1.2.2.2.1, .i y1.2.2.2.2.1, .i y1.2.2.2.2.2.1, .b y1.2.2.2.2.2.2.1, .q (.int .i64 (.int .i64 (.int .i64 (.bool (.nil))))) y2, .q (.int .i64 (.int .i64 (.int .i64 (.bool (.nil))))) y3])) (n + 1) x4 x5 x6 x7 q8 q9 := by kernel_rfl
    exact h1.trans (h2.trans h3)

theorem carry_took_l0_ok {α : Type} (slices_Concat_carry_Parcel_carry_Parcel : slices_Concat_carry_Parcel_carry_Parcel_T α) : (carry_took_l0_spec slices_Concat_carry_Parcel_carry_Parcel : LoopSpec α).ok Go.Proofs.Try.prog (envOf (carry_took_C slices_Concat_carry_Parcel_carry_Parcel) carry_took_q carry_took_inl 1000 carry_took_ann false (carry_took_loops slices_Concat_carry_Parcel_carry_Parcel) (fun _ => none)) := by
  intro ds k
  have h1 : carry_took_l0_ev slices_Concat_carry_Parcel_carry_Parcel 1000 (encSt carry_took_l0_t carry_took_l0_s carry_took_l0_h ds) k = carry_took_l0_ev slices_Concat_carry_Parcel_carry_Parcel 1000 (encSt carry_took_l0_t carry_took_l0_s carry_took_l0_h [.q (.int .i64 (.int .i64 (.int .i64 (.bool (.nil))))) (hdQ (.int .i64 (.int .i64 (.int .i64 (.bool (.nil))))) ds), .i (hdI ds.tail), .i (hdI ds.tail.tail), .i ((hdI ds.tail.tail.tail, hdI ds.tail.tail.tail.tail, hdI ds.tail.tail.tail.tail.tail, hdB ds.tail.tail.tail.tail.tail.tail, hdI ds.tail.tail.tail.tail.tail.tail.tail, hdI ds.tail.tail.tail.tail.tail.tail.tail.tail, hdB ds.tail.tail.tail.tail.tail.tail.tail.tail.tail, ()).1), .i ((hdI ds.tail.tail.tail, hdI ds.tail.tail.tail.tail, hdI ds.tail.tail.tail.tail.tail, hdB ds.tail.tail.tail.tail.tail.tail, hdI ds.tail.tail.tail.tail.tail.tail.tail, hdI ds.tail.tail.tail.tail.tail.tail.tail.tail, hdB ds.tail.tail.tail.tail.tail.tail.tail.tail.tail, ()).2.1), .i ((hdI ds.tail.tail.tail, hdI ds.tail.tail.tail.tail, hdI ds.tail.tail.tail.tail.tail, hdB ds.tail.tail.tail.tail.tail.tail, hdI ds.tail.tail.tail.tail.tail.tail.tail, hdI ds.tail.tail.tail.tail.tail.tail.tail.tail, hdB ds.tail.tail.tail.tail.tail.tail.tail.tail.tail, ()).2.2.1), .b ((hdI ds.tail.tail.tail, hdI ds.tail.tail.tail.tail, hdI ds.tail.tail.tail.tail.tail, hdB ds.tail.tail.tail.tail.tail.tail, hdI ds.tail.tail.tail.tail.tail.tail.tail, hdI ds.tail.tail.tail.tail.tail.tail.tail.tail, hdB ds.tail.tail.tail.tail.tail.tail.tail.tail.tail, ()).2.2.2.1), .i ((hdI ds.tail.tail.tail, hdI ds.tail.tail.tail.tail, hdI ds.tail.tail.tail.tail.tail, hdB ds.tail.tail.tail.tail.tail.tail, hdI ds.tail.tail.tail.tail.tail.tail.tail, hdI ds.tail.tail.tail.tail.tail.tail.tail.tail, hdB ds.tail.tail.tail.tail.tail.tail.tail.tail.tail, ()).2.2.2.2.1), .i ((hdI ds.tail.tail.tail, hdI ds.tail.tail.tail.tail, hdI ds.tail.tail.tail.tail.tail, hdB ds.tail.tail.tail.tail.tail.tail, hdI ds.tail.tail.tail.tail.tail.tail.tail, hdI ds.tail.tail.tail.tail.tail.tail.tail.tail, hdB ds.tail.tail.tail.tail.tail.tail.tail.tail.tail, ()).2.2.2.2.2.1), .b ((hdI ds.tail.tail.tail, hdI ds.tail.tail.tail.tail, hdI ds.tail.tail.tail.tail.tail, hdB ds.tail.tail.tail.tail.tail.tail, hdI ds.tail.tail.tail.tail.tail.tail.tail, hdI ds.tail.tail.tail.tail.tail.tail.tail.tail, hdB ds.tail.tail.tail.tail.tail.tail.tail.tail.tail, ()).2.2.2.2.2.2.1), .q (.int .i64 (.int .i64 (.int .i64 (.bool (.nil))))) (hdQ (.int .i64 (.int .i64 (.int .i64 (.bool (.nil))))) ds.tail.tail.tail.tail.tail.tail.tail.tail.tail.tail), .q (.int .i64 (.int .i64 (.int .i64 (.bool (.nil))))) (hdQ (.int .i64 (.int .i64 (.int .i64 (.bool (.nil))))) ds.tail.tail.tail.tail.tail.tail.tail.tail.tail.tail.tail)]) k := by kernel_rfl
  have h2 := carry_took_l0_eq slices_Concat_carry_Parcel_carry_Parcel 1000 (hdQ (.int .i64 (.int .i64 (.int .i64 (.bool (.nil))))) ds) (hdI ds.tail) (hdI ds.tail.tail) (hdI ds.tail.tail.tail, hdI ds.tail.tail.tail.tail, hdI ds.tail.tail.tail.tail.tail, hdB ds.tail.tail.tail.tail.tail.tail, hdI ds.tail.tail.tail.tail.tail.tail.tail, hdI ds.tail.tail.tail.tail.tail.tail.tail.tail, hdB ds.tail.tail.tail.tail.tail.tail.tail.tail.tail, ()) (hdQ (.int .i64 (.int .i64 (.int .i64 (.bool (.nil))))) ds.tail.tail.tail.tail.tail.tail.tail.tail.tail.tail) (hdQ (.int .i64 (.int .i64 (.int .i64 (.bool (.nil))))) ds.tail.tail.tail.tail.tail.tail.tail.tail.tail.tail.tail) k
  exact h1.trans h2

theorem carry_took_ev {α : Type} (slices_Concat_carry_Parcel_carry_Parcel : slices_Concat_carry_Parcel_carry_Parcel_T α) : EvOk (α := α) Go.Proofs.Try.prog (envOf (carry_took_C slices_Concat_carry_Parcel_carry_Parcel) carry_took_q carry_took_inl 1000 carry_took_ann false (carry_took_loops slices_Concat_carry_Parcel_carry_Parcel) (fun _ => none)) 6 (carry_took_sp (carry_took_g slices_Concat_carry_Parcel_carry_Parcel)) := by intro ds k; kernel_rfl

theorem carry_took_ok {α : Type} : (carry_took_spec : FunSpec α).ok Go.Proofs.Try.prog :=
  FunSpec.ok_of (sp := carry_took_spec) (C := carry_took_C slices_Concat_carry_Parcel_carry_Parcel) (q := carry_took_q) (inl := carry_took_inl) (N := 1000) (ann := carry_took_ann) (fr := false) (D := 6) (l := (carry_took_loops slices_Concat_carry_Parcel_carry_Parcel)) (hk := (fun _ => none)) (okCons slices_Concat_carry_Parcel_carry_Parcel_ok okNil) (lokCons (carry_took_l0_ok slices_Concat_carry_Parcel_carry_Parcel) lokNil) noHooks (carry_took_ev slices_Concat_carry_Parcel_carry_Parcel)

end
end Go.Rv.Try

set_option linter.unusedVariables false
set_option maxRecDepth 100000
set_option maxHeartbeats 4000000
namespace Go.Rv.Try
open Go Go.Rv Go.RowKit
noncomputable section

-- drayman/carry.Come

abbrev carry_Come_T (α : Type) : Type := ((Seq Z1) × Int × (Seq (Int × Int × Int × Bool × Unit)) × Unit) → Z0 → Int → (((Seq Z1) × Int × (Seq (Int × Int × Int × Bool × Unit)) × Unit) → (Int × Int × Int × Int × Bool × Int × Int × Unit) → Int → Option α) → Option α

noncomputable def carry_Come_g {α : Type} (carry_Fit : carry_Fit_T α) (outbox_Service : outbox_Service_T α) (keyed_Come : keyed_Come_T α) (slices_Clone_carry_Parcel_carry_Parcel : slices_Clone_carry_Parcel_carry_Parcel_T α) (carry_took : carry_took_T α) (x1 : (Seq Z1) × Int × (Seq (Int × Int × Int × Bool × Unit)) × Unit) (x2 : Int × Int × Int × Bool × Int × Int × Bool × Unit) (x3 : Int) (k : ((Seq Z1) × Int × (Seq (Int × Int × Int × Bool × Unit)) × Unit) → (Int × Int × Int × Int × Bool × Int × Int × Unit) → Int → Option α) : Option α :=
  (carry_Fit x1 fun r4 =>
    (cond (!r4)
      (k ((⟨true, 0, (fun _ => (0, 0, 0, 0, 0, 0, ()))⟩ : Seq Z1), 0, (⟨true, 0, (fun _ => (0, 0, 0, false, ()))⟩ : Seq (Int × Int × Int × Bool × Unit)), ()) (0, 0, 0, 0, false, 0, 0, ()) 12)
      (outbox_Service x2.2.2.2.2.1 fun r5 =>
        (cond (r5 != 2)
          (k ((⟨true, 0, (fun _ => (0, 0, 0, 0, 0, 0, ()))⟩ : Seq Z1), 0, (⟨true, 0, (fun _ => (0, 0, 0, false, ()))⟩ : Seq (Int × Int × Int × Bool × Unit)), ()) (0, 0, 0, 0, false, 0, 0, ()) 1)
          (keyed_Come x1.1 x2 x3 fun r6 r7 r8 r9 =>
            (cond (r8 == 0)
              (cond (x1.2.1 == 1099511627776)
                (k ((⟨true, 0, (fun _ => (0, 0, 0, 0, 0, 0, ()))⟩ : Seq Z1), 0, (⟨true, 0, (fun _ => (0, 0, 0, false, ()))⟩ : Seq (Int × Int × Int × Bool × Unit)), ()) (0, 0, 0, 0, false, 0, 0, ()) 5)
                (cond (r8 != 0)
                  (k ((⟨true, 0, (fun _ => (0, 0, 0, 0, 0, 0, ()))⟩ : Seq Z1), 0, (⟨true, 0, (fun _ => (0, 0, 0, false, ()))⟩ : Seq (Int × Int × Int × Bool × Unit)), ()) (0, 0, 0, 0, false, 0, 0, ()) r8)
                  (slices_Clone_carry_Parcel_carry_Parcel x1.2.2.1 fun r10 =>
                    (cond r7
                      (carry_took x1.2.2.1 x2 fun r11 =>
                        (k (r9, (IntKind.i64.wrap (x1.2.1 + 1)), r11, ()) (2, x1.2.1, x2.2.1, x2.2.2.1, x2.2.2.2.1, x2.1, r6, ()) 0))
                      (k (r9, (IntKind.i64.wrap (x1.2.1 + 1)), r10, ()) (2, x1.2.1, x2.2.1, x2.2.2.1, x2.2.2.2.1, x2.1, r6, ()) 0)))))
              (cond (r8 != 0)
                (k ((⟨true, 0, (fun _ => (0, 0, 0, 0, 0, 0, ()))⟩ : Seq Z1), 0, (⟨true, 0, (fun _ => (0, 0, 0, false, ()))⟩ : Seq (Int × Int × Int × Bool × Unit)), ()) (0, 0, 0, 0, false, 0, 0, ()) r8)
                (slices_Clone_carry_Parcel_carry_Parcel x1.2.2.1 fun r12 =>
                  (cond r7
                    (carry_took x1.2.2.1 x2 fun r13 =>
                      (k (r9, (IntKind.i64.wrap (x1.2.1 + 1)), r13, ()) (2, x1.2.1, x2.2.1, x2.2.2.1, x2.2.2.2.1, x2.1, r6, ()) 0))
                    (k (r9, (IntKind.i64.wrap (x1.2.1 + 1)), r12, ()) (2, x1.2.1, x2.2.1, x2.2.2.1, x2.2.2.2.1, x2.1, r6, ()) 0))))))))))

noncomputable def carry_Come {α : Type} : carry_Come_T α := carry_Come_g carry_Fit outbox_Service keyed_Come slices_Clone_carry_Parcel_carry_Parcel carry_took

noncomputable def carry_Come_sp {α : Type} (carry_Come : carry_Come_T α) : FunSpec α := ⟨22, [.agg [.sl (.int .i64 (.int .i64 (.int .i64 (.int .i64 (.int .i64 (.int .i64 (.nil))))))), .int .i64, .sl (.int .i64 (.int .i64 (.int .i64 (.bool (.nil)))))], .agg [.int .i64, .int .i64, .int .i64, .bool, .int .i64, .int .i64, .bool], .int .i64], [], fun ds k => carry_Come (hdQ (.int .i64 (.int .i64 (.int .i64 (.int .i64 (.int .i64 (.int .i64 (.nil))))))) ds, hdI ds.tail, hdQ (.int .i64 (.int .i64 (.int .i64 (.bool (.nil))))) ds.tail.tail, ()) (hdI ds.tail.tail.tail, hdI ds.tail.tail.tail.tail, hdI ds.tail.tail.tail.tail.tail, hdB ds.tail.tail.tail.tail.tail.tail, hdI ds.tail.tail.tail.tail.tail.tail.tail, hdI ds.tail.tail.tail.tail.tail.tail.tail.tail, hdB ds.tail.tail.tail.tail.tail.tail.tail.tail.tail, ()) (hdI ds.tail.tail.tail.tail.tail.tail.tail.tail.tail.tail) (fun r1 r2 r3 => k (enc dep (.tup [.agg [.sl (.int .i64 (.int .i64 (.int .i64 (.int .i64 (.int .i64 (.int .i64 (.nil))))))), .int .i64, .sl (.int .i64 (.int .i64 (.int .i64 (.bool (.nil)))))], .agg [.int .i64, .int .i64, .int .i64, .int .i64, .bool, .int .i64, .int .i64], .int .i64]) [.q (.int .i64 (.int .i64 (.int .i64 (.int .i64 (.int .i64 (.int .i64 (.nil))))))) r1.1, .i r1.2.1, .q (.int .i64 (.int .i64 (.int .i64 (.bool (.nil))))) r1.2.2.1, .i r2.1, .i r2.2.1, .i r2.2.2.1, .i r2.2.2.2.1, .b r2.2.2.2.2.1, .i r2.2.2.2.2.2.1, .i r2.2.2.2.2.2.2.1, .i r3]).1 [])⟩

noncomputable def carry_Come_spec {α : Type} : FunSpec α := carry_Come_sp carry_Come

noncomputable def carry_Come_C {α : Type} (carry_Fit : carry_Fit_T α) (outbox_Service : outbox_Service_T α) (keyed_Come : keyed_Come_T α) (slices_Clone_carry_Parcel_carry_Parcel : slices_Clone_carry_Parcel_carry_Parcel_T α) (carry_took : carry_took_T α) : List (FunSpec α) := [carry_Fit_sp carry_Fit, outbox_Service_sp outbox_Service, keyed_Come_sp keyed_Come, slices_Clone_carry_Parcel_carry_Parcel_sp slices_Clone_carry_Parcel_carry_Parcel, carry_took_sp carry_took]

noncomputable def carry_Come_q : FuncId → Bool := fun f => Nat.beq f 23 || Nat.beq f 33

noncomputable def carry_Come_inl : FuncId → Bool := fun f => false

noncomputable def carry_Come_ann : FuncId → AnnT := fun f p => if f = 22 then (if p = [false, true, true, true, true, true, true, true] then ⟨[0], [7, 6, 4, 2, 3, 5], [], [], 2, [], []⟩ else if p = [false, true, true, true, true, true] then ⟨[], [4], [], [], 2, [], []⟩ else ⟨[], [], [], [], 0, [], []⟩) else ⟨[], [], [], [], 0, [], []⟩

noncomputable def carry_Come_loops {α : Type} (carry_Fit : carry_Fit_T α) (outbox_Service : outbox_Service_T α) (keyed_Come : keyed_Come_T α) (slices_Clone_carry_Parcel_carry_Parcel : slices_Clone_carry_Parcel_carry_Parcel_T α) (carry_took : carry_took_T α) : List (LoopSpec α) := []

theorem carry_Come_ev {α : Type} (carry_Fit : carry_Fit_T α) (outbox_Service : outbox_Service_T α) (keyed_Come : keyed_Come_T α) (slices_Clone_carry_Parcel_carry_Parcel : slices_Clone_carry_Parcel_carry_Parcel_T α) (carry_took : carry_took_T α) : EvOk (α := α) Go.Proofs.Try.prog (envOf (carry_Come_C carry_Fit outbox_Service keyed_Come slices_Clone_carry_Parcel_carry_Parcel carry_took) carry_Come_q carry_Come_inl 1000 carry_Come_ann true (carry_Come_loops carry_Fit outbox_Service keyed_Come slices_Clone_carry_Parcel_carry_Parcel carry_took) (fun _ => none)) 6 (carry_Come_sp (carry_Come_g carry_Fit outbox_Service keyed_Come slices_Clone_carry_Parcel_carry_Parcel carry_took)) := by intro ds k; kernel_rfl

theorem carry_Come_ok {α : Type} : (carry_Come_spec : FunSpec α).ok Go.Proofs.Try.prog :=
  FunSpec.ok_of (sp := carry_Come_spec) (C := carry_Come_C carry_Fit outbox_Service keyed_Come slices_Clone_carry_Parcel_carry_Parcel carry_took) (q := carry_Come_q) (inl := carry_Come_inl) (N := 1000) (ann := carry_Come_ann) (fr := true) (D := 6) (l := (carry_Come_loops carry_Fit outbox_Service keyed_Come slices_Clone_carry_Parcel_carry_Parcel carry_took)) (hk := (fun _ => none)) (okCons carry_Fit_ok (okCons outbox_Service_ok (okCons keyed_Come_ok (okCons slices_Clone_carry_Parcel_carry_Parcel_ok (okCons carry_took_ok okNil))))) lokNil noHooks (carry_Come_ev carry_Fit outbox_Service keyed_Come slices_Clone_carry_Parcel_carry_Parcel carry_took)

end
end Go.Rv.Try

set_option linter.unusedVariables false
set_option maxRecDepth 100000
set_option maxHeartbeats 4000000
namespace Go.Rv.Try
open Go Go.Rv Go.RowKit
noncomputable section

-- drayman/carry.Out$1

abbrev carry_Out_1_T (α : Type) : Type := (Int × Int × Int × Bool × Unit) → (Bool → Option α) → Option α

noncomputable def carry_Out_1 {α : Type} (p1 : Int × Int × Int × Bool × Unit) (k : Bool → Option α) : Option α :=
  (k (!p1.2.2.2.1))

noncomputable def carry_Out_1_sp {α : Type} (carry_Out_1 : carry_Out_1_T α) : FunSpec α := ⟨48, [.agg [.int .i64, .int .i64, .int .i64, .bool]], [], fun ds k => carry_Out_1 (hdI ds, hdI ds.tail, hdI ds.tail.tail, hdB ds.tail.tail.tail, ()) (fun r1 => k (enc dep (.bool) [.b r1]).1 [])⟩

noncomputable def carry_Out_1_spec {α : Type} : FunSpec α := carry_Out_1_sp carry_Out_1

noncomputable def carry_Out_1_C {α : Type} : List (FunSpec α) := []

noncomputable def carry_Out_1_q : FuncId → Bool := fun f => false

noncomputable def carry_Out_1_inl : FuncId → Bool := fun f => false

noncomputable def carry_Out_1_ann : FuncId → AnnT := fun f p => ⟨[], [], [], [], 0, [], []⟩

noncomputable def carry_Out_1_loops {α : Type} : List (LoopSpec α) := []

theorem carry_Out_1_ev {α : Type} : EvOk (α := α) Go.Proofs.Try.prog (envOf (carry_Out_1_C) carry_Out_1_q carry_Out_1_inl 1000 carry_Out_1_ann false (carry_Out_1_loops) (fun _ => none)) 6 (carry_Out_1_sp (carry_Out_1)) := by intro ds k; kernel_rfl

theorem carry_Out_1_ok {α : Type} : (carry_Out_1_spec : FunSpec α).ok Go.Proofs.Try.prog :=
  FunSpec.ok_of (sp := carry_Out_1_spec) (C := carry_Out_1_C) (q := carry_Out_1_q) (inl := carry_Out_1_inl) (N := 1000) (ann := carry_Out_1_ann) (fr := false) (D := 6) (l := (carry_Out_1_loops)) (hk := (fun _ => none)) okNil lokNil noHooks (carry_Out_1_ev)

end
end Go.Rv.Try

set_option linter.unusedVariables false
set_option maxRecDepth 100000
set_option maxHeartbeats 4000000
namespace Go.Rv.Try
open Go Go.Rv Go.RowKit
noncomputable section

-- drayman/carry.count

abbrev carry_count_T (α : Type) : Type := (Seq (Int × Int × Int × Bool × Unit)) → (Int → Option α) → Option α

noncomputable def carry_count_l0_step {α : Type} (carry_Out_1 : carry_Out_1_T α) (k0 : (Int) → Option α) (rec : (Int) → (Seq (Int × Int × Int × Bool × Unit)) → (Int) → (Int) → Option α) (n2 : Int) (x3 : Seq (Int × Int × Int × Bool × Unit)) (x4 : Int) (x5 : Int) : Option α :=
  (cond (decide (x5 < x4))
    (cond ((decide ((0 : Int) ≤ x5)) && (decide (x5 < (x3.n : Int))))
      (carry_Out_1 (x3.g x5.toNat) fun r6 =>
        (cond r6
          (rec (IntKind.i64.wrap (n2 + 1)) x3 x4 (IntKind.i64.wrap (x5 + 1)))
          (rec n2 x3 x4 (IntKind.i64.wrap (x5 + 1)))))
      none)
    (k0 n2))

noncomputable def carry_count_l0_run {α : Type} (carry_Out_1 : carry_Out_1_T α) (k0 : (Int) → Option α) : Nat → (Int) → (Seq (Int × Int × Int × Bool × Unit)) → (Int) → (Int) → Option α
  | 0, _, _, _, _ => none
  | n + 1, n2, x3, x4, x5 => carry_count_l0_step carry_Out_1 k0 (fun n2 x3 x4 x5 => carry_count_l0_run carry_Out_1 k0 n n2 x3 x4 x5) n2 x3 x4 x5

noncomputable def carry_count_g {α : Type} (carry_Out_1 : carry_Out_1_T α) (l1 : Seq (Int × Int × Int × Bool × Unit)) (k : Int → Option α) : Option α :=
  (carry_count_l0_run carry_Out_1
    (fun x7 =>
      (k x7))
    1000 0 l1 (l1.n : Int) 0)

noncomputable def carry_count {α : Type} : carry_count_T α := carry_count_g carry_Out_1

noncomputable def carry_count_sp {α : Type} (carry_count : carry_count_T α) : FunSpec α := ⟨47, [.sl (.int .i64 (.int .i64 (.int .i64 (.bool (.nil))))), .func (.func 48) [] []], [], fun ds k => carry_count (hdQ (.int .i64 (.int .i64 (.int .i64 (.bool (.nil))))) ds) (fun r1 => k (enc dep (.int .i64) [.i r1]).1 [])⟩

noncomputable def carry_count_spec {α : Type} : FunSpec α := carry_count_sp carry_count

noncomputable def carry_count_C {α : Type} (carry_Out_1 : carry_Out_1_T α) : List (FunSpec α) := [carry_Out_1_sp carry_Out_1]

noncomputable def carry_count_q : FuncId → Bool := fun f => Nat.beq f 48

noncomputable def carry_count_inl : FuncId → Bool := fun f => false

noncomputable def carry_count_ann : FuncId → AnnT := fun f p => if f = 47 then (if p = [true, false, true, true] then ⟨[1, 5, 8, 9, 10], [], [5], [4], 0, [], []⟩ else ⟨[], [], [], [], 0, [], []⟩) else ⟨[], [], [], [], 0, [], []⟩

noncomputable def carry_count_l0_t : List Sh := [.dead, .func (.func 48) [] [], .dead, .dead, .dead, .int .i64, .dead, .dead, .sl (.int .i64 (.int .i64 (.int .i64 (.bool (.nil))))), .int .i64, .int .i64, .dead, .dead, .dead, .dead, .dead, .dead, .dead, .dead, .dead, .dead]
noncomputable def carry_count_l0_s : List (List Sh) := []
noncomputable def carry_count_l0_h : List BSh := []

noncomputable def carry_count_l0_spec {α : Type} (carry_Out_1 : carry_Out_1_T α) : LoopSpec α := ⟨6, 47, [true, false, true, true], carry_count_l0_t, carry_count_l0_s, carry_count_l0_h, fun ds k => carry_count_l0_run carry_Out_1 (fun y1 => k (.exit 0) (encSt [.dead, .dead, .dead, .dead, .dead, .int .i64, .dead, .dead, .dead, .dead, .dead, .dead, .dead, .dead, .dead, .dead, .dead, .dead, .dead, .dead, .dead] [] [] [.i y1])) 1000 (hdI ds) (hdQ (.int .i64 (.int .i64 (.int .i64 (.bool (.nil))))) ds.tail) (hdI ds.tail.tail) (hdI ds.tail.tail.tail)⟩

noncomputable def carry_count_loops {α : Type} (carry_Out_1 : carry_Out_1_T α) : List (LoopSpec α) := [carry_count_l0_spec carry_Out_1]

noncomputable def carry_count_l0_ev {α : Type} (carry_Out_1 : carry_Out_1_T α) (n : Nat) (st : St) (k : X → St → Option α) : Option α := loopN (evCode Go.Proofs.Try.prog (callD Go.Proofs.Try.prog (envOf (carry_count_C carry_Out_1) carry_count_q carry_count_inl 1000 carry_count_ann false (carry_count_loops carry_Out_1) (fun _ => none)) 6) (((envOf (carry_count_C carry_Out_1) carry_count_q carry_count_inl 1000 carry_count_ann false (carry_count_loops carry_Out_1) (fun _ => none)) : Env α).L 6 47) 1000 (carry_count_ann 47) (false :: [true, false, true, true]) (loopC Go.Proofs.Try.prog 47 [true, false, true, true])) ((carry_count_ann 47 [true, false, true, true]).head 0) ((carry_count_ann 47 [true, false, true, true]).leave 0) n st k

theorem carry_count_l0_eq {α : Type} (carry_Out_1 : carry_Out_1_T α) : ∀ (n : Nat) (n2 : Int) (x3 : Seq (Int × Int × Int × Bool × Unit)) (x4 : Int) (x5 : Int) (k : X → St → Option α), carry_count_l0_ev carry_Out_1 n (encSt carry_count_l0_t carry_count_l0_s carry_count_l0_h [.i n2, .q (.int .i64 (.int .i64 (.int .i64 (.bool (.nil))))) x3, .i x4, .i x5]) k = carry_count_l0_run carry_Out_1 (fun y1 => k (.exit 0) (encSt [.dead, .dead, .dead, .dead, .dead, .int .i64, .dead, .dead, .dead, .dead, .dead, .dead, .dead, .dead, .dead, .dead, .dead, .dead, .dead, .dead, .dead] [] [] [.i y1])) n n2 x3 x4 x5 := by
  intro n
  induction n with
  | zero => intros; kernel_rfl
  | succ n ih =>
    intro n2 x3 x4 x5 k
    have e : (fun (n2 : Int) (x3 : Seq (Int × Int × Int × Bool × Unit)) (x4 : Int) (x5 : Int) => carry_count_l0_ev carry_Out_1 n (encSt carry_count_l0_t carry_count_l0_s carry_count_l0_h [.i n2, .q (.int .i64 (.int .i64 (.int .i64 (.bool (.nil))))) x3, .i x4, .i x5]) k) = (fun (n2 : Int) (x3 : Seq (Int × Int × Int × Bool × Unit)) (x4 : Int) (x5 : Int) => carry_count_l0_run carry_Out_1 (fun y1 => k (.exit 0) (encSt [.dead, .dead, .dead, .dead, .dead, .int .i64, .dead, .dead, .dead, .dead, .dead, .dead, .dead, .dead, .dead, .dead, .dead, .dead, .dead, .dead, .dead] [] [] [.i y1])) n n2 x3 x4 x5) := by
      funext n2 x3 x4 x5
      exact ih n2 x3 x4 x5 k
    have h1 : carry_count_l0_ev carry_Out_1 (n + 1) (encSt carry_count_l0_t carry_count_l0_s carry_count_l0_h [.i n2, .q (.int .i64 (.int .i64 (.int .i64 (.bool (.nil))))) x3, .i x4, .i x5]) k = carry_count_l0_step carry_Out_1 (fun y1 => k (.exit 0) (encSt [.dead, .dead, .dead, .dead, .dead, .int .i64, .dead, .dead, .dead, .dead, .dead, .dead, .dead, .dead, .dead, .dead, .dead, .dead, .dead, .dead, .dead] [] [] [.i y1])) (fun (n2 : Int) (x3 : Seq (Int × Int × Int × Bool × Unit)) (x4 : Int) (x5 : Int) => carry_count_l0_ev carry_Out_1 n (encSt carry_count_l0_t carry_count_l0_s carry_count_l0_h [.i n2, .q (.int .i64 (.int .i64 (.int .i64 (.bool (.nil))))) x3, .i x4, .i x5]) k) n2 x3 x4 x5 := by kernel_rfl
    have h2 := congrArg (fun r => carry_count_l0_step carry_Out_1 (fun y1 => k (.exit 0) (encSt [.dead, .dead, .dead, .dead, .dead, .int .i64, .dead, .dead, .dead, .dead, .dead, .dead, .dead, .dead, .dead, .dead, .dead, .dead, .dead, .dead, .dead] [] [] [.i y1])) r n2 x3 x4 x5) e
    have h3 : carry_count_l0_step carry_Out_1 (fun y1 => k (.exit 0) (encSt [.dead, .dead, .dead, .dead, .dead, .int .i64, .dead, .dead, .dead, .dead, .dead, .dead, .dead, .dead, .dead, .dead, .dead, .dead, .dead, .dead, .dead] [] [] [.i y1])) (fun (n2 : Int) (x3 : Seq (Int × Int × Int × Bool × Unit)) (x4 : Int) (x5 : Int) => carry_count_l0_run carry_Out_1 (fun y1 => k (.exit 0) (encSt [.dead, .dead, .dead, .dead, .dead, .int .i64, .dead, .dead, .dead, .dead, .dead, .dead, .dead, .dead, .dead, .dead, .dead, .dead, .dead, .dead, .dead] [] [] [.i y1])) n n2 x3 x4 x5) n2 x3 x4 x5 = carry_count_l0_run carry_Out_1 (fun y1 => k (.exit 0) (encSt [.dead, .dead, .dead, .dead, .dead, .int .i64, .dead, .dead, .dead, .dead, .dead, .dead, .dead, .dead, .dead, .dead, .dead, .dead, .dead, .dead, .dead] [] [] [.i y1])) (n + 1) n2 x3 x4 x5 := by kernel_rfl
    exact h1.trans (h2.trans h3)

theorem carry_count_l0_ok {α : Type} (carry_Out_1 : carry_Out_1_T α) : (carry_count_l0_spec carry_Out_1 : LoopSpec α).ok Go.Proofs.Try.prog (envOf (carry_count_C carry_Out_1) carry_count_q carry_count_inl 1000 carry_count_ann false (carry_count_loops carry_Out_1) (fun _ => none)) := by
  intro ds k
  have h1 : carry_count_l0_ev carry_Out_1 1000 (encSt carry_count_l0_t carry_count_l0_s carry_count_l0_h ds) k = carry_count_l0_ev carry_Out_1 1000 (encSt carry_count_l0_t carry_count_l0_s carry_count_l0_h [.i (hdI ds), .q (.int .i64 (.int .i64 (.int .i64 (.bool (.nil))))) (hdQ (.int .i64 (.int .i64 (.int .i64 (.bool (.nil))))) ds.tail), .i (hdI ds.tail.tail), .i (hdI ds.tail.tail.tail)]) k := by kernel_rfl
  have h2 := carry_count_l0_eq carry_Out_1 1000 (hdI ds) (hdQ (.int .i64 (.int .i64 (.int .i64 (.bool (.nil))))) ds.tail) (hdI ds.tail.tail) (hdI ds.tail.tail.tail) k
  exact h1.trans h2

theorem carry_count_ev {α : Type} (carry_Out_1 : carry_Out_1_T α) : EvOk (α := α) Go.Proofs.Try.prog (envOf (carry_count_C carry_Out_1) carry_count_q carry_count_inl 1000 carry_count_ann false (carry_count_loops carry_Out_1) (fun _ => none)) 6 (carry_count_sp (carry_count_g carry_Out_1)) := by intro ds k; kernel_rfl

theorem carry_count_ok {α : Type} : (carry_count_spec : FunSpec α).ok Go.Proofs.Try.prog :=
  FunSpec.ok_of (sp := carry_count_spec) (C := carry_count_C carry_Out_1) (q := carry_count_q) (inl := carry_count_inl) (N := 1000) (ann := carry_count_ann) (fr := false) (D := 6) (l := (carry_count_loops carry_Out_1)) (hk := (fun _ => none)) (okCons carry_Out_1_ok okNil) (lokCons (carry_count_l0_ok carry_Out_1) lokNil) noHooks (carry_count_ev carry_Out_1)

end
end Go.Rv.Try

set_option linter.unusedVariables false
set_option maxRecDepth 100000
set_option maxHeartbeats 4000000
namespace Go.Rv.Try
open Go Go.Rv Go.RowKit
noncomputable section

-- drayman/carry.Out

abbrev carry_Out_T (α : Type) : Type := ((Seq Z1) × Int × (Seq (Int × Int × Int × Bool × Unit)) × Unit) → (Int → Option α) → Option α

noncomputable def carry_Out_g {α : Type} (carry_count : carry_count_T α) (d1 : (Seq Z1) × Int × (Seq (Int × Int × Int × Bool × Unit)) × Unit) (k : Int → Option α) : Option α :=
  (carry_count d1.2.2.1 fun r2 =>
    (k r2))

noncomputable def carry_Out {α : Type} : carry_Out_T α := carry_Out_g carry_count

noncomputable def carry_Out_sp {α : Type} (carry_Out : carry_Out_T α) : FunSpec α := ⟨21, [.agg [.sl (.int .i64 (.int .i64 (.int .i64 (.int .i64 (.int .i64 (.int .i64 (.nil))))))), .int .i64, .sl (.int .i64 (.int .i64 (.int .i64 (.bool (.nil)))))]], [], fun ds k => carry_Out (hdQ (.int .i64 (.int .i64 (.int .i64 (.int .i64 (.int .i64 (.int .i64 (.nil))))))) ds, hdI ds.tail, hdQ (.int .i64 (.int .i64 (.int .i64 (.bool (.nil))))) ds.tail.tail, ()) (fun r1 => k (enc dep (.int .i64) [.i r1]).1 [])⟩

noncomputable def carry_Out_spec {α : Type} : FunSpec α := carry_Out_sp carry_Out

noncomputable def carry_Out_C {α : Type} (carry_count : carry_count_T α) : List (FunSpec α) := [carry_count_sp carry_count]

noncomputable def carry_Out_q : FuncId → Bool := fun f => Nat.beq f 47

noncomputable def carry_Out_inl : FuncId → Bool := fun f => false

noncomputable def carry_Out_ann : FuncId → AnnT := fun f p => ⟨[], [], [], [], 0, [], []⟩

noncomputable def carry_Out_loops {α : Type} (carry_count : carry_count_T α) : List (LoopSpec α) := []

theorem carry_Out_ev {α : Type} (carry_count : carry_count_T α) : EvOk (α := α) Go.Proofs.Try.prog (envOf (carry_Out_C carry_count) carry_Out_q carry_Out_inl 1000 carry_Out_ann false (carry_Out_loops carry_count) (fun _ => none)) 6 (carry_Out_sp (carry_Out_g carry_count)) := by intro ds k; kernel_rfl

theorem carry_Out_ok {α : Type} : (carry_Out_spec : FunSpec α).ok Go.Proofs.Try.prog :=
  FunSpec.ok_of (sp := carry_Out_spec) (C := carry_Out_C carry_count) (q := carry_Out_q) (inl := carry_Out_inl) (N := 1000) (ann := carry_Out_ann) (fr := false) (D := 6) (l := (carry_Out_loops carry_count)) (hk := (fun _ => none)) (okCons carry_count_ok okNil) lokNil noHooks (carry_Out_ev carry_count)

end
end Go.Rv.Try

set_option linter.unusedVariables false
set_option maxRecDepth 100000
set_option maxHeartbeats 4000000
namespace Go.Rv.Try
open Go Go.Rv Go.RowKit
noncomputable section

-- drayman/draymanlaw33.awake

abbrev draymanlaw33_awake_T (α : Type) : Type := (Bool → Option α) → Option α

noncomputable def draymanlaw33_awake_g {α : Type} (carry_New : carry_New_T α) (carry_Come : carry_Come_T α) (carry_Out : carry_Out_T α) (carry_Fit : carry_Fit_T α) (k : Bool → Option α) : Option α :=
  (carry_New fun r1 =>
    (carry_Come r1 (1, 1, 0, false, 4, 5, false, ()) 1 fun r2 r3 r4 =>
      (carry_Come r2 (1, 1, 0, true, 4, 5, false, ()) 1 fun r5 r6 r7 =>
        (cond (r4 == 0)
          (cond (r7 == 0)
            (cond ((r2.2.2.1.n : Int) == 1)
              (cond (decide ((0 : Int) < (r2.2.2.1.n : Int)))
                (cond ((r2.2.2.1.g 0).1 == 1)
                  (cond (r3.2.2.2.2.2.2.1 == 1)
                    (carry_Out r2 fun r8 =>
                      (cond (r8 == 1)
                        (carry_Out r5 fun r9 =>
                          (cond (r9 == 0)
                            (cond r6.2.2.2.2.1
                              (carry_Fit r5 fun r10 =>
                                (k r10))
                              (k false))
                            (k false)))
                        (k false)))
                    (k false))
                  (k false))
                none)
              (k false))
            (k false))
          (k false)))))

noncomputable def draymanlaw33_awake {α : Type} : draymanlaw33_awake_T α := draymanlaw33_awake_g carry_New carry_Come carry_Out carry_Fit

noncomputable def draymanlaw33_awake_sp {α : Type} (draymanlaw33_awake : draymanlaw33_awake_T α) : FunSpec α := ⟨19, [], [], fun ds k => draymanlaw33_awake  (fun r1 => k (enc dep (.bool) [.b r1]).1 [])⟩

noncomputable def draymanlaw33_awake_spec {α : Type} : FunSpec α := draymanlaw33_awake_sp draymanlaw33_awake

noncomputable def draymanlaw33_awake_C {α : Type} (carry_New : carry_New_T α) (carry_Come : carry_Come_T α) (carry_Out : carry_Out_T α) (carry_Fit : carry_Fit_T α) : List (FunSpec α) := [carry_New_sp carry_New, carry_Come_sp carry_Come, carry_Out_sp carry_Out, carry_Fit_sp carry_Fit]

noncomputable def draymanlaw33_awake_q : FuncId → Bool := fun f => Nat.beq f 21 || Nat.beq f 23

noncomputable def draymanlaw33_awake_inl : FuncId → Bool := fun f => false

noncomputable def draymanlaw33_awake_ann : FuncId → AnnT := fun f p => if f = 19 then (if p = [false, true, true] then ⟨[], [], [], [], 2, [], []⟩ else ⟨[], [], [], [], 0, [], []⟩) else ⟨[], [], [], [], 0, [], []⟩

noncomputable def draymanlaw33_awake_loops {α : Type} (carry_New : carry_New_T α) (carry_Come : carry_Come_T α) (carry_Out : carry_Out_T α) (carry_Fit : carry_Fit_T α) : List (LoopSpec α) := []

theorem draymanlaw33_awake_ev {α : Type} (carry_New : carry_New_T α) (carry_Come : carry_Come_T α) (carry_Out : carry_Out_T α) (carry_Fit : carry_Fit_T α) : EvOk (α := α) Go.Proofs.Try.prog (envOf (draymanlaw33_awake_C carry_New carry_Come carry_Out carry_Fit) draymanlaw33_awake_q draymanlaw33_awake_inl 1000 draymanlaw33_awake_ann false (draymanlaw33_awake_loops carry_New carry_Come carry_Out carry_Fit) (fun _ => none)) 6 (draymanlaw33_awake_sp (draymanlaw33_awake_g carry_New carry_Come carry_Out carry_Fit)) := by intro ds k; kernel_rfl

theorem draymanlaw33_awake_ok {α : Type} : (draymanlaw33_awake_spec : FunSpec α).ok Go.Proofs.Try.prog :=
  FunSpec.ok_of (sp := draymanlaw33_awake_spec) (C := draymanlaw33_awake_C carry_New carry_Come carry_Out carry_Fit) (q := draymanlaw33_awake_q) (inl := draymanlaw33_awake_inl) (N := 1000) (ann := draymanlaw33_awake_ann) (fr := false) (D := 6) (l := (draymanlaw33_awake_loops carry_New carry_Come carry_Out carry_Fit)) (hk := (fun _ => none)) (okCons carry_New_ok (okCons carry_Come_ok (okCons carry_Out_ok (okCons carry_Fit_ok okNil)))) lokNil noHooks (draymanlaw33_awake_ev carry_New carry_Come carry_Out carry_Fit)

end
end Go.Rv.Try

set_option linter.unusedVariables false
set_option maxRecDepth 100000
set_option maxHeartbeats 4000000
namespace Go.Rv.Try
open Go Go.Rv Go.RowKit
noncomputable section

-- drayman/draymanlaw33.of

abbrev draymanlaw33_of_T (α : Type) : Type := ((Seq Z1) × Int × (Seq (Int × Int × Int × Bool × Unit)) × Unit) → ((Seq Z1) → Int → (Seq (Int × Int × Int × Bool × Unit)) → Option α) → Option α

noncomputable def draymanlaw33_of_l0_step {α : Type} (k0 : ((Seq Z1) × Int × (Seq (Int × Int × Int × Bool × Unit)) × Unit) → (Seq Z1) → (Int) → (Seq Z1) → (Int) → (Seq (Int × Int × Int × Bool × Unit)) → (Seq (Int × Int × Int × Bool × Unit)) → Option α) (rec : (Int) → ((Seq Z1) × Int × (Seq (Int × Int × Int × Bool × Unit)) × Unit) → (Seq Z1) → (Int) → (Seq Z1) → (Int) → (Seq (Int × Int × Int × Bool × Unit)) → (Seq (Int × Int × Int × Bool × Unit)) → Option α) (i2 : Int) (x3 : (Seq Z1) × Int × (Seq (Int × Int × Int × Bool × Unit)) × Unit) (x4 : Seq Z1) (x5 : Int) (x6 : Seq Z1) (x7 : Int) (q8 : Seq (Int × Int × Int × Bool × Unit)) (q9 : Seq (Int × Int × Int × Bool × Unit)) : Option α :=
  (cond (decide (i2 < (x3.2.2.1.n : Int)))
    (cond ((decide ((0 : Int) ≤ i2)) && (decide (i2 < (x3.2.2.1.n : Int))))
      (cond (decide (((q9.n + 1)) * 32 ≤ 140737488355328))
        (rec (IntKind.i64.wrap (i2 + 1)) x3 x4 x5 x6 x7 q8 (⟨(q9.nl && false), (q9.n + 1), (tApp q9.n q9.g (fun _ => (x3.2.2.1.g i2.toNat)))⟩ : Seq (Int × Int × Int × Bool × Unit)))
        none)
      none)
    (k0 x3 x4 x5 x6 x7 q8 q9))

noncomputable def draymanlaw33_of_l0_run {α : Type} (k0 : ((Seq Z1) × Int × (Seq (Int × Int × Int × Bool × Unit)) × Unit) → (Seq Z1) → (Int) → (Seq Z1) → (Int) → (Seq (Int × Int × Int × Bool × Unit)) → (Seq (Int × Int × Int × Bool × Unit)) → Option α) : Nat → (Int) → ((Seq Z1) × Int × (Seq (Int × Int × Int × Bool × Unit)) × Unit) → (Seq Z1) → (Int) → (Seq Z1) → (Int) → (Seq (Int × Int × Int × Bool × Unit)) → (Seq (Int × Int × Int × Bool × Unit)) → Option α
  | 0, _, _, _, _, _, _, _, _ => none
  | n + 1, i2, x3, x4, x5, x6, x7, q8, q9 => draymanlaw33_of_l0_step k0 (fun i2 x3 x4 x5 x6 x7 q8 q9 => draymanlaw33_of_l0_run k0 n i2 x3 x4 x5 x6 x7 q8 q9) i2 x3 x4 x5 x6 x7 q8 q9

noncomputable def draymanlaw33_of {α : Type} (d1 : (Seq Z1) × Int × (Seq (Int × Int × Int × Bool × Unit)) × Unit) (k : (Seq Z1) → Int → (Seq (Int × Int × Int × Bool × Unit)) → Option α) : Option α :=
  (draymanlaw33_of_l0_run
    (fun x10 x11 x12 x13 x14 q15 q16 =>
      (k x13 x14 q16))
    1000 0 d1 (⟨true, 0, (fun _ => (0, 0, 0, 0, 0, 0, ()))⟩ : Seq Z1) 0 d1.1 d1.2.1 (⟨true, 0, (fun _ => (0, 0, 0, false, ()))⟩ : Seq (Int × Int × Int × Bool × Unit)) (⟨true, 0, (fun _ => (0, 0, 0, false, ()))⟩ : Seq (Int × Int × Int × Bool × Unit)))

noncomputable def draymanlaw33_of_sp {α : Type} (draymanlaw33_of : draymanlaw33_of_T α) : FunSpec α := ⟨25, [.agg [.sl (.int .i64 (.int .i64 (.int .i64 (.int .i64 (.int .i64 (.int .i64 (.nil))))))), .int .i64, .sl (.int .i64 (.int .i64 (.int .i64 (.bool (.nil)))))]], [], fun ds k => draymanlaw33_of (hdQ (.int .i64 (.int .i64 (.int .i64 (.int .i64 (.int .i64 (.int .i64 (.nil))))))) ds, hdI ds.tail, hdQ (.int .i64 (.int .i64 (.int .i64 (.bool (.nil))))) ds.tail.tail, ()) (fun r1 r2 q3 => k (enc dep (.agg [.sl (.int .i64 (.int .i64 (.int .i64 (.int .i64 (.int .i64 (.int .i64 (.nil))))))), .int .i64, .own 0]) [.q (.int .i64 (.int .i64 (.int .i64 (.int .i64 (.int .i64 (.int .i64 (.nil))))))) r1, .i r2]).1 (encBs [.row true (.int .i64 (.int .i64 (.int .i64 (.bool (.nil)))))] [.q (.int .i64 (.int .i64 (.int .i64 (.bool (.nil))))) q3]).1)⟩

noncomputable def draymanlaw33_of_spec {α : Type} : FunSpec α := draymanlaw33_of_sp draymanlaw33_of

noncomputable def draymanlaw33_of_C {α : Type} : List (FunSpec α) := []

noncomputable def draymanlaw33_of_q : FuncId → Bool := fun f => false

noncomputable def draymanlaw33_of_inl : FuncId → Bool := fun f => false

noncomputable def draymanlaw33_of_ann : FuncId → AnnT := fun f p => if f = 25 then (if p = [true, false, true, true] then ⟨[1, 2, 3, 4], [3, 4], [2, 3], [2], 0, [], [(1, 2), (2, 2)]⟩ else ⟨[], [], [], [], 0, [], []⟩) else ⟨[], [], [], [], 0, [], []⟩

noncomputable def draymanlaw33_of_l0_t : List Sh := [.dead, .ref 0 0, .ref 1 0, .ref 2 0, .int .i64, .dead, .dead, .dead, .dead, .dead, .dead, .dead, .dead, .dead, .dead, .dead, .dead, .dead, .dead, .dead, .dead, .dead, .dead, .dead, .dead, .dead, .dead, .dead, .dead, .dead, .dead, .dead, .dead, .dead, .dead, .dead, .dead, .dead]
noncomputable def draymanlaw33_of_l0_s : List (List Sh) := []
noncomputable def draymanlaw33_of_l0_h : List BSh := [.box [.sl (.int .i64 (.int .i64 (.int .i64 (.int .i64 (.int .i64 (.int .i64 (.nil))))))), .int .i64, .sl (.int .i64 (.int .i64 (.int .i64 (.bool (.nil)))))], .box [.sl (.int .i64 (.int .i64 (.int .i64 (.int .i64 (.int .i64 (.int .i64 (.nil))))))), .int .i64, .own 3], .box [.sl (.int .i64 (.int .i64 (.int .i64 (.int .i64 (.int .i64 (.int .i64 (.nil))))))), .int .i64, .own 4], .row true (.int .i64 (.int .i64 (.int .i64 (.bool (.nil))))), .row true (.int .i64 (.int .i64 (.int .i64 (.bool (.nil)))))]

noncomputable def draymanlaw33_of_l0_spec {α : Type} : LoopSpec α := ⟨6, 25, [true, false, true, true], draymanlaw33_of_l0_t, draymanlaw33_of_l0_s, draymanlaw33_of_l0_h, fun ds k => draymanlaw33_of_l0_run (fun y1 y2 y3 y4 y5 y6 y7 => k (.exit 0) (encSt [.dead, .dead, .ref 1 0, .ref 2 0, .dead, .dead, .dead, .dead, .dead, .dead, .dead, .dead, .dead, .dead, .dead, .dead, .dead, .dead, .dead, .dead, .dead, .dead, .dead, .dead, .dead, .dead, .dead, .dead, .dead, .dead, .dead, .dead, .dead, .dead, .dead, .dead, .dead, .dead] [] [.box [.sl (.int .i64 (.int .i64 (.int .i64 (.int .i64 (.int .i64 (.int .i64 (.nil))))))), .int .i64, .sl (.int .i64 (.int .i64 (.int .i64 (.bool (.nil)))))], .box [.sl (.int .i64 (.int .i64 (.int .i64 (.int .i64 (.int .i64 (.int .i64 (.nil))))))), .int .i64, .own 3], .box [.sl (.int .i64 (.int .i64 (.int .i64 (.int .i64 (.int .i64 (.int .i64 (.nil))))))), .int .i64, .own 4], .row true (.int .i64 (.int .i64 (.int .i64 (.bool (.nil))))), .row true (.int .i64 (.int .i64 (.int .i64 (.bool (.nil)))))] [.q (.int .i64 (.int .i64 (.int .i64 (.int .i64 (.int .i64 (.int .i64 (.nil))))))) y1.1, .i y1.2.1, .q (.int .i64 (.int .i64 (.int .i64 (.bool (.nil))))) y1.2.2.1, .q (.int .i64 (.int .i64 (.int .i64 (.int .i64 (.int .i64 (.int .i64 (.nil))))))) y2, .i y3, .q (.int .i64 (.int .i64 (.int .i64 (.int .i64 (.int .i64 (.int .i64 (.nil))))))) y4, .i y5, .q (.int .i64 (.int .i64 (.int .i64 (.bool (.nil))))) y6, .q (.int .i64 (.int .i64 (.int .i64 (.bool (.nil))))) y7])) 1000 (hdI ds) (hdQ (.int .i64 (.int .i64 (.int .i64 (.int .i64 (.int .i64 (.int .i64 (.nil))))))) ds.tail, hdI ds.tail.tail, hdQ (.int .i64 (.int .i64 (.int .i64 (.bool (.nil))))) ds.tail.tail.tail, ()) (hdQ (.int .i64 (.int .i64 (.int .i64 (.int .i64 (.int .i64 (.int .i64 (.nil))))))) ds.tail.tail.tail.tail) (hdI ds.tail.tail.tail.tail.tail) (hdQ (.int .i64 (.int .i64 (.int .i64 (.int .i64 (.int .i64 (.int .i64 (.nil))))))) ds.tail.tail.tail.tail.tail.tail) (hdI ds.tail.tail.tail.tail.tail.tail.tail) (hdQ (.int .i64 (.int .i64 (.int .i64 (.bool (.nil))))) ds.tail.tail.tail.tail.tail.tail.tail.tail) (hdQ (.int .i64 (.int .i64 (.int .i64 (.bool (.nil))))) ds.tail.tail.tail.tail.tail.tail.tail.tail.tail)⟩

noncomputable def draymanlaw33_of_loops {α : Type} : List (LoopSpec α) := [draymanlaw33_of_l0_spec]

noncomputable def draymanlaw33_of_l0_ev {α : Type} (n : Nat) (st : St) (k : X → St → Option α) : Option α := loopN (evCode Go.Proofs.Try.prog (callD Go.Proofs.Try.prog (envOf (draymanlaw33_of_C) draymanlaw33_of_q draymanlaw33_of_inl 1000 draymanlaw33_of_ann false (draymanlaw33_of_loops) (fun _ => none)) 6) (((envOf (draymanlaw33_of_C) draymanlaw33_of_q draymanlaw33_of_inl 1000 draymanlaw33_of_ann false (draymanlaw33_of_loops) (fun _ => none)) : Env α).L 6 25) 1000 (draymanlaw33_of_ann 25) (false :: [true, false, true, true]) (loopC Go.Proofs.Try.prog 25 [true, false, true, true])) ((draymanlaw33_of_ann 25 [true, false, true, true]).head 5) ((draymanlaw33_of_ann 25 [true, false, true, true]).leave 5) n st k

theorem draymanlaw33_of_l0_eq {α : Type} : ∀ (n : Nat) (i2 : Int) (x3 : (Seq Z1) × Int × (Seq (Int × Int × Int × Bool × Unit)) × Unit) (x4 : Seq Z1) (x5 : Int) (x6 : Seq Z1) (x7 : Int) (q8 : Seq (Int × Int × Int × Bool × Unit)) (q9 : Seq (Int × Int × Int × Bool × Unit)) (k : X → St → Option α), draymanlaw33_of_l0_ev n (encSt draymanlaw33_of_l0_t draymanlaw33_of_l0_s draymanlaw33_of_l0_h [.i i2, .q (.int .i64 (.int .i64 (.int .i64 (.int .i64 (.int .i64 (.int .i64 (.nil))))))) x3.1, .i x3.2.1, .q (.int .i64 (.int .i64 (.int .i64 (.bool (.nil))))) x3.2.2.1, .q (.int .i64 (.int .i64 (.int .i64 (.int .i64 (.int .i64 (.int .i64 (.nil))))))) x4, .i x5, .q (.int .i64 (.int .i64 (.int .i64 (.int .i64 (.int .i64 (.int .i64 (.nil))))))) x6, .i x7, .q (.int .i64 (.int .i64 (.int .i64 (.bool (.nil))))) q8, .q (.int .i64 (.int .i64 (.int .i64 (.bool (.nil))))) q9]) k = draymanlaw33_of_l0_run (fun y1 y2 y3 y4 y5 y6 y7 => k (.exit 0) (encSt [.dead, .dead, .ref 1 0, .ref 2 0, .dead, .dead, .dead, .dead, .dead, .dead, .dead, .dead, .dead, .dead, .dead, .dead, .dead, .dead, .dead, .dead, .dead, .dead, .dead, .dead, .dead, .dead, .dead, .dead, .dead, .dead, .dead, .dead, .dead, .dead, .dead, .dead, .dead, .dead] [] [.box [.sl (.int .i64 (.int .i64 (.int .i64 (.int .i64 (.int .i64 (.int .i64 (.nil))))))), .int .i64, .sl (.int .i64 (.int .i64 (.int .i64 (.bool (.nil)))))], .box [.sl (.int .i64 (.int .i64 (.int .i64 (.int .i64 (.int .i64 (.int .i64 (.nil))))))), .int .i64, .own 3], .box [.sl (.int .i64 (.int .i64 (.int .i64 (.int .i64 (.int .i64 (.int .i64 (.nil))))))), .int .i64, .own 4], .row true (.int .i64 (.int .i64 (.int .i64 (.bool (.nil))))), .row true (.int .i64 (.int .i64 (.int .i64 (.bool (.nil)))))] [.q (.int .i64 (.int .i64 (.int .i64 (.int .i64 (.int .i64 (.int .i64 (.nil))))))) y1.1, .i y1.2.1, .q (.int .i64 (.int .i64 (.int .i64 (.bool (.nil))))) y1.2.2.1, .q (.int .i64 (.int .i64 (.int .i64 (.int .i64 (.int .i64 (.int .i64 (.nil))))))) y2, .i y3, .q (.int .i64 (.int .i64 (.int .i64 (.int .i64 (.int .i64 (.int .i64 (.nil))))))) y4, .i y5, .q (.int .i64 (.int .i64 (.int .i64 (.bool (.nil))))) y6, .q (.int .i64 (.int .i64 (.int .i64 (.bool (.nil))))) y7])) n i2 x3 x4 x5 x6 x7 q8 q9 := by
  intro n
  induction n with
  | zero => intros; kernel_rfl
  | succ n ih =>
    intro i2 x3 x4 x5 x6 x7 q8 q9 k
    have e : (fun (i2 : Int) (x3 : (Seq Z1) × Int × (Seq (Int × Int × Int × Bool × Unit)) × Unit) (x4 : Seq Z1) (x5 : Int) (x6 : Seq Z1) (x7 : Int) (q8 : Seq (Int × Int × Int × Bool × Unit)) (q9 : Seq (Int × Int × Int × Bool × Unit)) => draymanlaw33_of_l0_ev n (encSt draymanlaw33_of_l0_t draymanlaw33_of_l0_s draymanlaw33_of_l0_h [.i i2, .q (.int .i64 (.int .i64 (.int .i64 (.int .i64 (.int .i64 (.int .i64 (.nil))))))) x3.1, .i x3.2.1, .q (.int .i64 (.int .i64 (.int .i64 (.bool (.nil))))) x3.2.2.1, .q (.int .i64 (.int .i64 (.int .i64 (.int .i64 (.int .i64 (.int .i64 (.nil))))))) x4, .i x5, .q (.int .i64 (.int .i64 (.int .i64 (.int .i64 (.int .i64 (.int .i64 (.nil))))))) x6, .i x7, .q (.int .i64 (.int .i64 (.int .i64 (.bool (.nil))))) q8, .q (.int .i64 (.int .i64 (.int .i64 (.bool (.nil))))) q9]) k) = (fun (i2 : Int) (x3 : (Seq Z1) × Int × (Seq (Int × Int × Int × Bool × Unit)) × Unit) (x4 : Seq Z1) (x5 : Int) (x6 : Seq Z1) (x7 : Int) (q8 : Seq (Int × Int × Int × Bool × Unit)) (q9 : Seq (Int × Int × Int × Bool × Unit)) => draymanlaw33_of_l0_run (fun y1 y2 y3 y4 y5 y6 y7 => k (.exit 0) (encSt [.dead, .dead, .ref 1 0, .ref 2 0, .dead, .dead, .dead, .dead, .dead, .dead, .dead, .dead, .dead, .dead, .dead, .dead, .dead, .dead, .dead, .dead, .dead, .dead, .dead, .dead, .dead, .dead, .dead, .dead, .dead, .dead, .dead, .dead, .dead, .dead, .dead, .dead, .dead, .dead] [] [.box [.sl (.int .i64 (.int .i64 (.int .i64 (.int .i64 (.int .i64 (.int .i64 (.nil))))))), .int .i64, .sl (.int .i64 (.int .i64 (.int .i64 (.bool (.nil)))))], .box [.sl (.int .i64 (.int .i64 (.int .i64 (.int .i64 (.int .i64 (.int .i64 (.nil))))))), .int .i64, .own 3], .box [.sl (.int .i64 (.int .i64 (.int .i64 (.int .i64 (.int .i64 (.int .i64 (.nil))))))), .int .i64, .own 4], .row true (.int .i64 (.int .i64 (.int .i64 (.bool (.nil))))), .row true (.int .i64 (.int .i64 (.int .i64 (.bool (.nil)))))] [.q (.int .i64 (.int .i64 (.int .i64 (.int .i64 (.int .i64 (.int .i64 (.nil))))))) y1.1, .i y1.2.1, .q (.int .i64 (.int .i64 (.int .i64 (.bool (.nil))))) y1.2.2.1, .q (.int .i64 (.int .i64 (.int .i64 (.int .i64 (.int .i64 (.int .i64 (.nil))))))) y2, .i y3, .q (.int .i64 (.int .i64 (.int .i64 (.int .i64 (.int .i64 (.int .i64 (.nil))))))) y4, .i y5, .q (.int .i64 (.int .i64 (.int .i64 (.bool (.nil))))) y6, .q (.int .i64 (.int .i64 (.int .i64 (.bool (.nil))))) y7])) n i2 x3 x4 x5 x6 x7 q8 q9) := by
      funext i2 x3 x4 x5 x6 x7 q8 q9
      exact ih i2 x3 x4 x5 x6 x7 q8 q9 k
    have h1 : draymanlaw33_of_l0_ev (n + 1) (encSt draymanlaw33_of_l0_t draymanlaw33_of_l0_s draymanlaw33_of_l0_h [.i i2, .q (.int .i64 (.int .i64 (.int .i64 (.int .i64 (.int .i64 (.int .i64 (.nil))))))) x3.1, .i x3.2.1, .q (.int .i64 (.int .i64 (.int .i64 (.bool (.nil))))) x3.2.2.1, .q (.int .i64 (.int .i64 (.int .i64 (.int .i64 (.int .i64 (.int .i64 (.nil))))))) x4, .i x5, .q (.int .i64 (.int .i64 (.int .i64 (.int .i64 (.int .i64 (.int .i64 (.nil))))))) x6, .i x7, .q (.int .i64 (.int .i64 (.int .i64 (.bool (.nil))))) q8, .q (.int .i64 (.int .i64 (.int .i64 (.bool (.nil))))) q9]) k = draymanlaw33_of_l0_step (fun y1 y2 y3 y4 y5 y6 y7 => k (.exit 0) (encSt [.dead, .dead, .ref 1 0, .ref 2 0, .dead, .dead, .dead, .dead, .dead, .dead, .dead, .dead, .dead, .dead, .dead, .dead, .dead, .dead, .dead, .dead, .dead, .dead, .dead, .dead, .dead, .dead, .dead, .dead, .dead, .dead, .dead, .dead, .dead, .dead, .dead, .dead, .dead, .dead] [] [.box [.sl (.int .i64 (.int .i64 (.int .i64 (.int .i64 (.int .i64 (.int .i64 (.nil))))))), .int .i64, .sl (.int .i64 (.int .i64 (.int .i64 (.bool (.nil)))))], .box [.sl (.int .i64 (.int .i64 (.int .i64 (.int .i64 (.int .i64 (.int .i64 (.nil))))))), .int .i64, .own 3], .box [.sl (.int .i64 (.int .i64 (.int .i64 (.int .i64 (.int .i64 (.int .i64 (.nil))))))), .int .i64, .own 4], .row true (.int .i64 (.int .i64 (.int .i64 (.bool (.nil))))), .row true (.int .i64 (.int .i64 (.int .i64 (.bool (.nil)))))] [.q (.int .i64 (.int .i64 (.int .i64 (.int .i64 (.int .i64 (.int .i64 (.nil))))))) y1.1, .i y1.2.1, .q (.int .i64 (.int .i64 (.int .i64 (.bool (.nil))))) y1.2.2.1, .q (.int .i64 (.int .i64 (.int .i64 (.int .i64 (.int .i64 (.int .i64 (.nil))))))) y2, .i y3, .q (.int .i64 (.int .i64 (.int .i64 (.int .i64 (.int .i64 (.int .i64 (.nil))))))) y4, .i y5, .q (.int .i64 (.int .i64 (.int .i64 (.bool (.nil))))) y6, .q (.int .i64 (.int .i64 (.int .i64 (.bool (.nil))))) y7])) (fun (i2 : Int) (x3 : (Seq Z1) × Int × (Seq (Int × Int × Int × Bool × Unit)) × Unit) (x4 : Seq Z1) (x5 : Int) (x6 : Seq Z1) (x7 : Int) (q8 : Seq (Int × Int × Int × Bool × Unit)) (q9 : Seq (Int × Int × Int × Bool × Unit)) => draymanlaw33_of_l0_ev n (encSt draymanlaw33_of_l0_t draymanlaw33_of_l0_s draymanlaw33_of_l0_h [.i i2, .q (.int .i64 (.int .i64 (.int .i64 (.int .i64 (.int .i64 (.int .i64 (.nil))))))) x3.1, .i x3.2.1, .q (.int .i64 (.int .i64 (.int .i64 (.bool (.nil))))) x3.2.2.1, .q (.int .i64 (.int .i64 (.int .i64 (.int .i64 (.int .i64 (.int .i64 (.nil))))))) x4, .i x5, .q (.int .i64 (.int .i64 (.int .i64 (.int .i64 (.int .i64 (.int .i64 (.nil))))))) x6, .i x7, .q (.int .i64 (.int .i64 (.int .i64 (.bool (.nil))))) q8, .q (.int .i64 (.int .i64 (.int .i64 (.bool (.nil))))) q9]) k) i2 x3 x4 x5 x6 x7 q8 q9 := by kernel_rfl
    have h2 := congrArg (fun r => draymanlaw33_of_l0_step (fun y1 y2 y3 y4 y5 y6 y7 => k (.exit 0) (encSt [.dead, .dead, .ref 1 0, .ref 2 0, .dead, .dead, .dead, .dead, .dead, .dead, .dead, .dead, .dead, .dead, .dead, .dead, .dead, .dead, .dead, .dead, .dead, .dead, .dead, .dead, .dead, .dead, .dead, .dead, .dead, .dead, .dead, .dead, .dead, .dead, .dead, .dead, .dead, .dead] [] [.box [.sl (.int .i64 (.int .i64 (.int .i64 (.int .i64 (.int .i64 (.int .i64 (.nil))))))), .int .i64, .sl (.int .i64 (.int .i64 (.int .i64 (.bool (.nil)))))], .box [.sl (.int .i64 (.int .i64 (.int .i64 (.int .i64 (.int .i64 (.int .i64 (.nil))))))), .int .i64, .own 3], .box [.sl (.int .i64 (.int .i64 (.int .i64 (.int .i64 (.int .i64 (.int .i64 (.nil))))))), .int .i64, .own 4], .row true (.int .i64 (.int .i64 (.int .i64 (.bool (.nil))))), .row true (.int .i64 (.int .i64 (.int .i64 (.bool (.nil)))))] [.q (.int .i64 (.int .i64 (.int .i64 (.int .i64 (.int .i64 (.int .i64 (.nil))))))) y1.1, .i y1.2.1, .q (.int .i64 (.int .i64 (.int .i64 (.bool (.nil))))) y1.2.2.1, .q (.int .i64 (.int .i64 (.int .i64 (.int .i64 (.int .i64 (.int .i64 (.nil))))))) y2, .i y3, .q (.int .i64 (.int .i64 (.int .i64 (.int .i64 (.int .i64 (.int .i64 (.nil))))))) y4, .i y5, .q (.int .i64 (.int .i64 (.int .i64 (.bool (.nil))))) y6, .q (.int .i64 (.int .i64 (.int .i64 (.bool (.nil))))) y7])) r i2 x3 x4 x5 x6 x7 q8 q9) e
    have h3 : draymanlaw33_of_l0_step (fun y1 y2 y3 y4 y5 y6 y7 => k (.exit 0) (encSt [.dead, .dead, .ref 1 0, .ref 2 0, .dead, .dead, .dead, .dead, .dead, .dead, .dead, .dead, .dead, .dead, .dead, .dead, .dead, .dead, .dead, .dead, .dead, .dead, .dead, .dead, .dead, .dead, .dead, .dead, .dead, .dead, .dead, .dead, .dead, .dead, .dead, .dead, .dead, .dead] [] [.box [.sl (.int .i64 (.int .i64 (.int .i64 (.int .i64 (.int .i64 (.int .i64 (.nil))))))), .int .i64, .sl (.int .i64 (.int .i64 (.int .i64 (.bool (.nil)))))], .box [.sl (.int .i64 (.int .i64 (.int .i64 (.int .i64 (.int .i64 (.int .i64 (.nil))))))), .int .i64, .own 3], .box [.sl (.int .i64 (.int .i64 (.int .i64 (.int .i64 (.int .i64 (.int .i64 (.nil))))))), .int .i64, .own 4], .row true (.int .i64 (.int .i64 (.int .i64 (.bool (.nil))))), .row true (.int .i64 (.int .i64 (.int .i64 (.bool (.nil)))))] [.q (.int .i64 (.int .i64 (.int .i64 (.int .i64 (.int .i64 (.int .i64 (.nil))))))) y1.1, .i y1.2.1, .q (.int .i64 (.int .i64 (.int .i64 (.bool (.nil))))) y1.2.2.1, .q (.int .i64 (.int .i64 (.int .i64 (.int .i64 (.int .i64 (.int .i64 (.nil))))))) y2, .i y3, .q (.int .i64 (.int .i64 (.int .i64 (.int .i64 (.int .i64 (.int .i64 (.nil))))))) y4, .i y5, .q (.int .i64 (.int .i64 (.int .i64 (.bool (.nil))))) y6, .q (.int .i64 (.int .i64 (.int .i64 (.bool (.nil))))) y7])) (fun (i2 : Int) (x3 : (Seq Z1) × Int × (Seq (Int × Int × Int × Bool × Unit)) × Unit) (x4 : Seq Z1) (x5 : Int) (x6 : Seq Z1) (x7 : Int) (q8 : Seq (Int × Int × Int × Bool × Unit)) (q9 : Seq (Int × Int × Int × Bool × Unit)) => draymanlaw33_of_l0_run (fun y1 y2 y3 y4 y5 y6 y7 => k (.exit 0) (encSt [.dead, .dead, .ref 1 0, .ref 2 0, .dead, .dead, .dead, .dead, .dead, .dead, .dead, .dead, .dead, .dead, .dead, .dead, .dead, .dead, .dead, .dead, .dead, .dead, .dead, .dead, .dead, .dead, .dead, .dead, .dead, .dead, .dead, .dead, .dead, .dead, .dead, .dead, .dead, .dead] [] [.box [.sl (.int .i64 (.int .i64 (.int .i64 (.int .i64 (.int .i64 (.int .i64 (.nil))))))), .int .i64, .sl (.int .i64 (.int .i64 (.int .i64 (.bool (.nil)))))], .box [.sl (.int .i64 (.int .i64 (.int .i64 (.int .i64 (.int .i64 (.int .i64 (.nil))))))), .int .i64, .own 3], .box [.sl (.int .i64 (.int .i64 (.int .i64 (.int .i64 (.int .i64 (.int .i64 (.nil))))))), .int .i64, .own 4], .row true (.int .i64 (.int .i64 (.int .i64 (.bool (.nil))))), .row true (.int .i64 (.int .i64 (.int .i64 (.bool (.nil)))))] [.q (.int .i64 (.int .i64 (.int .i64 (.int .i64 (.int .i64 (.int .i64 (.nil))))))) y1.1, .i y1.2.1, .q (.int .i64 (.int .i64 (.int .i64 (.bool (.nil))))) y1.2.2.1, .q (.int .i64 (.int .i64 (.int .i64 (.int .i64 (.int .i64 (.int .i64 (.nil))))))) y2, .i y3, .q (.int .i64 (.int .i64 (.int .i64 (.int .i64 (.int .i64 (.int .i64 (.nil))))))) y4, .i y5, .q (.int .i64 (.int .i64 (.int .i64 (.bool (.nil))))) y6, .q (.int .i64 (.int .i64 (.int .i64 (.bool (.nil))))) y7])) n i2 x3 x4 x5 x6 x7 q8 q9) i2 x3 x4 x5 x6 x7 q8 q9 = draymanlaw33_of_l0_run (fun y1 y2 y3 y4 y5 y6 y7 => k (.exit 0) (encSt [.dead, .dead, .ref 1 0, .ref 2 0, .dead, .dead, .dead, .dead, .dead, .dead, .dead, .dead, .dead, .dead, .dead, .dead, .dead, .dead, .dead, .dead, .dead, .dead, .dead, .dead, .dead, .dead, .dead, .dead, .dead, .dead, .dead, .dead, .dead, .dead, .dead, .dead, .dead, .dead] [] [.box [.sl (.int .i64 (.int .i64 (.int .i64 (.int .i64 (.int .i64 (.int .i64 (.nil))))))), .int .i64, .sl (.int .i64 (.int .i64 (.int .i64 (.bool (.nil)))))], .box [.sl (.int .i64 (.int .i64 (.int .i64 (.int .i64 (.int .i64 (.int .i64 (.nil))))))), .int .i64, .own 3], .box [.sl (.int .i64 (.int .i64 (.int .i64 (.int .i64 (.int .i64 (.int .i64 (.nil))))))), .int .i64, .own 4], .row true (.int .i64 (.int .i64 (.int .i64 (.bool (.nil))))), .row true (.int .i64 (.int .i64 (.int .i64 (.bool (.nil)))))] [.q (.int .i64 (.int .i64 (.int .i64 (.int .i64 (.int .i64 (.int .i64 (.nil))))))) y1.1, .i y1.2.1, .q (.int .i64 (.int .i64 (.int .i64 (.bool (.nil))))) y1.2.2.1, .q (.int .i64 (.int .i64 (.int .i64 (.int .i64 (.int .i64 (.int .i64 (.nil))))))) y2, .i y3, .q (.int .i64 (.int .i64 (.int .i64 (.int .i64 (.int .i64 (.int .i64 (.nil))))))) y4, .i y5, .q (.int .i64 (.int .i64 (.int .i64 (.bool (.nil))))) y6, .q (.int .i64 (.int .i64 (.int .i64 (.bool (.nil))))) y7])) (n + 1) i2 x3 x4 x5 x6 x7 q8 q9 := by kernel_rfl
    exact h1.trans (h2.trans h3)

theorem draymanlaw33_of_l0_ok {α : Type} : (draymanlaw33_of_l0_spec : LoopSpec α).ok Go.Proofs.Try.prog (envOf (draymanlaw33_of_C) draymanlaw33_of_q draymanlaw33_of_inl 1000 draymanlaw33_of_ann false (draymanlaw33_of_loops) (fun _ => none)) := by
  intro ds k
  have h1 : draymanlaw33_of_l0_ev 1000 (encSt draymanlaw33_of_l0_t draymanlaw33_of_l0_s draymanlaw33_of_l0_h ds) k = draymanlaw33_of_l0_ev 1000 (encSt draymanlaw33_of_l0_t draymanlaw33_of_l0_s draymanlaw33_of_l0_h [.i (hdI ds), .q (.int .i64 (.int .i64 (.int .i64 (.int .i64 (.int .i64 (.int .i64 (.nil))))))) ((hdQ (.int .i64 (.int .i64 (.int .i64 (.int .i64 (.int .i64 (.int .i64 (.nil))))))) ds.tail, hdI ds.tail.tail, hdQ (.int .i64 (.int .i64 (.int .i64 (.bool (.nil))))) ds.tail.tail.tail, ()).1), .i ((hdQ (.int .i64 (.int .i64 (.int .i64 (.int .i64 (.int .i64 (.int .i64 (.nil))))))) ds.tail, hdI ds.tail.tail, hdQ (.int .i64 (.int .i64 (.int .i64 (.bool (.nil))))) ds.tail.tail.tail, ()).2.1), .q (.int .i64 (.int .i64 (.int .i64 (.bool (.nil))))) ((hdQ (.int .i64 (.int .i64 (.int .i64 (.int .i64 (.int .i64 (.int .i64 (.nil))))))) ds.tail, hdI ds.tail.tail, hdQ (.int .i64 (.int .i64 (.int .i64 (.bool (.nil))))) ds.tail.tail.tail, ()).2.2.1), .q (.int .i64 (.int .i64 (.int .i64 (.int .i64 (.int .i64 (.int .i64 (.nil))))))) (hdQ (.int .i64 (.int .i64 (.int .i64 (.int .i64 (.int .i64 (.int .i64 (.nil))))))) ds.tail.tail.tail.tail), .i (hdI ds.tail.tail.tail.tail.tail), .q (.int .i64 (.int .i64 (.int .i64 (.int .i64 (.int .i64 (.int .i64 (.nil))))))) (hdQ (.int .i64 (.int .i64 (.int .i64 (.int .i64 (.int .i64 (.int .i64 (.nil))))))) ds.tail.tail.tail.tail.tail.tail), .i (hdI ds.tail.tail.tail.tail.tail.tail.tail), .q (.int .i64 (.int .i64 (.int .i64 (.bool (.nil))))) (hdQ (.int .i64 (.int .i64 (.int .i64 (.bool (.nil))))) ds.tail.tail.tail.tail.tail.tail.tail.tail), .q (.int .i64 (.int .i64 (.int .i64 (.bool (.nil))))) (hdQ (.int .i64 (.int .i64 (.int .i64 (.bool (.nil))))) ds.tail.tail.tail.tail.tail.tail.tail.tail.tail)]) k := by kernel_rfl
  have h2 := draymanlaw33_of_l0_eq 1000 (hdI ds) (hdQ (.int .i64 (.int .i64 (.int .i64 (.int .i64 (.int .i64 (.int .i64 (.nil))))))) ds.tail, hdI ds.tail.tail, hdQ (.int .i64 (.int .i64 (.int .i64 (.bool (.nil))))) ds.tail.tail.tail, ()) (hdQ (.int .i64 (.int .i64 (.int .i64 (.int .i64 (.int .i64 (.int .i64 (.nil))))))) ds.tail.tail.tail.tail) (hdI ds.tail.tail.tail.tail.tail) (hdQ (.int .i64 (.int .i64 (.int .i64 (.int .i64 (.int .i64 (.int .i64 (.nil))))))) ds.tail.tail.tail.tail.tail.tail) (hdI ds.tail.tail.tail.tail.tail.tail.tail) (hdQ (.int .i64 (.int .i64 (.int .i64 (.bool (.nil))))) ds.tail.tail.tail.tail.tail.tail.tail.tail) (hdQ (.int .i64 (.int .i64 (.int .i64 (.bool (.nil))))) ds.tail.tail.tail.tail.tail.tail.tail.tail.tail) k
  exact h1.trans h2

theorem draymanlaw33_of_ev {α : Type} : EvOk (α := α) Go.Proofs.Try.prog (envOf (draymanlaw33_of_C) draymanlaw33_of_q draymanlaw33_of_inl 1000 draymanlaw33_of_ann false (draymanlaw33_of_loops) (fun _ => none)) 6 (draymanlaw33_of_sp (draymanlaw33_of)) := by intro ds k; kernel_rfl

theorem draymanlaw33_of_ok {α : Type} : (draymanlaw33_of_spec : FunSpec α).ok Go.Proofs.Try.prog :=
  FunSpec.ok_of (sp := draymanlaw33_of_spec) (C := draymanlaw33_of_C) (q := draymanlaw33_of_q) (inl := draymanlaw33_of_inl) (N := 1000) (ann := draymanlaw33_of_ann) (fr := false) (D := 6) (l := (draymanlaw33_of_loops)) (hk := (fun _ => none)) okNil (lokCons (draymanlaw33_of_l0_ok) lokNil) noHooks (draymanlaw33_of_ev)

end
end Go.Rv.Try

set_option linter.unusedVariables false
set_option maxRecDepth 100000
set_option maxHeartbeats 4000000
namespace Go.Rv.Try
open Go Go.Rv Go.RowKit
noncomputable section

-- drayman/draymanref01.Fit

abbrev draymanref01_Fit_T (α : Type) : Type := Int → (Bool → Option α) → Option α

noncomputable def draymanref01_Fit {α : Type} (n1 : Int) (k : Bool → Option α) : Option α :=
  (cond (decide (n1 ≥ 0))
    (k (decide (n1 ≤ 1099511627776)))
    (k false))

noncomputable def draymanref01_Fit_sp {α : Type} (draymanref01_Fit : draymanref01_Fit_T α) : FunSpec α := ⟨65, [.int .i64], [], fun ds k => draymanref01_Fit (hdI ds) (fun r1 => k (enc dep (.bool) [.b r1]).1 [])⟩

noncomputable def draymanref01_Fit_spec {α : Type} : FunSpec α := draymanref01_Fit_sp draymanref01_Fit

noncomputable def draymanref01_Fit_C {α : Type} : List (FunSpec α) := []

noncomputable def draymanref01_Fit_q : FuncId → Bool := fun f => false

noncomputable def draymanref01_Fit_inl : FuncId → Bool := fun f => false

noncomputable def draymanref01_Fit_ann : FuncId → AnnT := fun f p => ⟨[], [], [], [], 0, [], []⟩

noncomputable def draymanref01_Fit_loops {α : Type} : List (LoopSpec α) := []

theorem draymanref01_Fit_ev {α : Type} : EvOk (α := α) Go.Proofs.Try.prog (envOf (draymanref01_Fit_C) draymanref01_Fit_q draymanref01_Fit_inl 1000 draymanref01_Fit_ann false (draymanref01_Fit_loops) (fun _ => none)) 6 (draymanref01_Fit_sp (draymanref01_Fit)) := by intro ds k; kernel_rfl

theorem draymanref01_Fit_ok {α : Type} : (draymanref01_Fit_spec : FunSpec α).ok Go.Proofs.Try.prog :=
  FunSpec.ok_of (sp := draymanref01_Fit_spec) (C := draymanref01_Fit_C) (q := draymanref01_Fit_q) (inl := draymanref01_Fit_inl) (N := 1000) (ann := draymanref01_Fit_ann) (fr := false) (D := 6) (l := (draymanref01_Fit_loops)) (hk := (fun _ => none)) okNil lokNil noHooks (draymanref01_Fit_ev)

end
end Go.Rv.Try

set_option linter.unusedVariables false
set_option maxRecDepth 100000
set_option maxHeartbeats 4000000
namespace Go.Rv.Try
open Go Go.Rv Go.RowKit
noncomputable section

-- drayman/draymanref31.One

abbrev draymanref31_One_T (α : Type) : Type := Z1 → (Bool → Option α) → Option α

noncomputable def draymanref31_One_g {α : Type} (draymanref01_Fit : draymanref01_Fit_T α) (x1 : Int × Int × Int × Int × Int × Int × Unit) (k : Bool → Option α) : Option α :=
  (cond (!(decide (x1.1 < 1)))
    (cond (!(decide (x1.1 > 1099511627776)))
      (cond (!(decide (x1.2.1 < 0)))
        (cond (!(decide (x1.2.1 ≥ 6)))
          (draymanref01_Fit x1.2.2.2.2.2.1 fun r2 =>
            (cond (!r2)
              (k false)
              (cond (x1.2.2.1 == 2)
                (cond (x1.2.2.2.1 == 1)
                  (k (x1.2.2.2.2.1 == 0))
                  (k false))
                (cond (x1.2.2.1 == 4)
                  (cond (x1.2.2.2.1 == 1)
                    (k (x1.2.2.2.2.1 == 1))
                    (k false))
                  (cond (x1.2.2.1 == 5)
                    (cond (x1.2.2.1 == 5)
                      (cond (x1.2.2.2.1 == 0)
                        (k (x1.2.2.2.2.1 == 0))
                        (k false))
                      (k false))
                    (cond (x1.2.2.1 == 3)
                      (cond (x1.2.2.2.1 == 0)
                        (k (x1.2.2.2.2.1 == 0))
                        (k false))
                      (k false)))))))
          (k false))
        (k false))
      (k false))
    (k false))

noncomputable def draymanref31_One {α : Type} : draymanref31_One_T α := draymanref31_One_g draymanref01_Fit

noncomputable def draymanref31_One_sp {α : Type} (draymanref31_One : draymanref31_One_T α) : FunSpec α := ⟨39, [.agg [.int .i64, .int .i64, .int .i64, .int .i64, .int .i64, .int .i64]], [], fun ds k => draymanref31_One (hdI ds, hdI ds.tail, hdI ds.tail.tail, hdI ds.tail.tail.tail, hdI ds.tail.tail.tail.tail, hdI ds.tail.tail.tail.tail.tail, ()) (fun r1 => k (enc dep (.bool) [.b r1]).1 [])⟩

noncomputable def draymanref31_One_spec {α : Type} : FunSpec α := draymanref31_One_sp draymanref31_One

noncomputable def draymanref31_One_C {α : Type} (draymanref01_Fit : draymanref01_Fit_T α) : List (FunSpec α) := [draymanref01_Fit_sp draymanref01_Fit]

noncomputable def draymanref31_One_q : FuncId → Bool := fun f => Nat.beq f 65

noncomputable def draymanref31_One_inl : FuncId → Bool := fun f => false

noncomputable def draymanref31_One_ann : FuncId → AnnT := fun f p => ⟨[], [], [], [], 0, [], []⟩

noncomputable def draymanref31_One_loops {α : Type} (draymanref01_Fit : draymanref01_Fit_T α) : List (LoopSpec α) := []

theorem draymanref31_One_ev {α : Type} (draymanref01_Fit : draymanref01_Fit_T α) : EvOk (α := α) Go.Proofs.Try.prog (envOf (draymanref31_One_C draymanref01_Fit) draymanref31_One_q draymanref31_One_inl 1000 draymanref31_One_ann false (draymanref31_One_loops draymanref01_Fit) (fun _ => none)) 6 (draymanref31_One_sp (draymanref31_One_g draymanref01_Fit)) := by intro ds k; kernel_rfl

theorem draymanref31_One_ok {α : Type} : (draymanref31_One_spec : FunSpec α).ok Go.Proofs.Try.prog :=
  FunSpec.ok_of (sp := draymanref31_One_spec) (C := draymanref31_One_C draymanref01_Fit) (q := draymanref31_One_q) (inl := draymanref31_One_inl) (N := 1000) (ann := draymanref31_One_ann) (fr := false) (D := 6) (l := (draymanref31_One_loops draymanref01_Fit)) (hk := (fun _ => none)) (okCons draymanref01_Fit_ok okNil) lokNil noHooks (draymanref31_One_ev draymanref01_Fit)

end
end Go.Rv.Try

set_option linter.unusedVariables false
set_option maxRecDepth 100000
set_option maxHeartbeats 4000000
namespace Go.Rv.Try
open Go Go.Rv Go.RowKit
noncomputable section

-- drayman/draymanref31.ahead

abbrev draymanref31_ahead_T (α : Type) : Type := Z1 → Z1 → (Bool → Option α) → Option α

noncomputable def draymanref31_ahead {α : Type} (a1 : Int × Int × Int × Int × Int × Int × Unit) (b2 : Int × Int × Int × Int × Int × Int × Unit) (k : Bool → Option α) : Option α :=
  (cond (!(decide (a1.1 < b2.1)))
    (cond (a1.1 == b2.1)
      (k (decide (a1.2.1 < b2.2.1)))
      (k false))
    (k true))

noncomputable def draymanref31_ahead_sp {α : Type} (draymanref31_ahead : draymanref31_ahead_T α) : FunSpec α := ⟨40, [.agg [.int .i64, .int .i64, .int .i64, .int .i64, .int .i64, .int .i64], .agg [.int .i64, .int .i64, .int .i64, .int .i64, .int .i64, .int .i64]], [], fun ds k => draymanref31_ahead (hdI ds, hdI ds.tail, hdI ds.tail.tail, hdI ds.tail.tail.tail, hdI ds.tail.tail.tail.tail, hdI ds.tail.tail.tail.tail.tail, ()) (hdI ds.tail.tail.tail.tail.tail.tail, hdI ds.tail.tail.tail.tail.tail.tail.tail, hdI ds.tail.tail.tail.tail.tail.tail.tail.tail, hdI ds.tail.tail.tail.tail.tail.tail.tail.tail.tail, hdI ds.tail.tail.tail.tail.tail.tail.tail.tail.tail.tail, hdI ds.tail.tail.tail.tail.tail.tail.tail.tail.tail.tail.tail, ()) (fun r1 => k (enc dep (.bool) [.b r1]).1 [])⟩

noncomputable def draymanref31_ahead_spec {α : Type} : FunSpec α := draymanref31_ahead_sp draymanref31_ahead

noncomputable def draymanref31_ahead_C {α : Type} : List (FunSpec α) := []

noncomputable def draymanref31_ahead_q : FuncId → Bool := fun f => false

noncomputable def draymanref31_ahead_inl : FuncId → Bool := fun f => false

noncomputable def draymanref31_ahead_ann : FuncId → AnnT := fun f p => ⟨[], [], [], [], 0, [], []⟩

noncomputable def draymanref31_ahead_loops {α : Type} : List (LoopSpec α) := []

theorem draymanref31_ahead_ev {α : Type} : EvOk (α := α) Go.Proofs.Try.prog (envOf (draymanref31_ahead_C) draymanref31_ahead_q draymanref31_ahead_inl 1000 draymanref31_ahead_ann false (draymanref31_ahead_loops) (fun _ => none)) 6 (draymanref31_ahead_sp (draymanref31_ahead)) := by intro ds k; kernel_rfl

theorem draymanref31_ahead_ok {α : Type} : (draymanref31_ahead_spec : FunSpec α).ok Go.Proofs.Try.prog :=
  FunSpec.ok_of (sp := draymanref31_ahead_spec) (C := draymanref31_ahead_C) (q := draymanref31_ahead_q) (inl := draymanref31_ahead_inl) (N := 1000) (ann := draymanref31_ahead_ann) (fr := false) (D := 6) (l := (draymanref31_ahead_loops)) (hk := (fun _ => none)) okNil lokNil noHooks (draymanref31_ahead_ev)

end
end Go.Rv.Try

set_option linter.unusedVariables false
set_option maxRecDepth 100000
set_option maxHeartbeats 4000000
namespace Go.Rv.Try
open Go Go.Rv Go.RowKit
noncomputable section

-- drayman/draymanref31.Fit

abbrev draymanref31_Fit_T (α : Type) : Type := (Seq Z1) → (Bool → Option α) → Option α

noncomputable def draymanref31_Fit_l0_step {α : Type} (draymanref31_One : draymanref31_One_T α) (draymanref31_ahead : draymanref31_ahead_T α) (kr : (Bool) → Option α) (k0 : Option α) (rec : (Seq Z1) → (Int) → Option α) (l2 : Seq Z1) (i3 : Int) : Option α :=
  (cond (decide (i3 < (l2.n : Int)))
    (cond (((decide ((0 : Int) ≤ i3)) && (decide (i3 < (l2.n : Int)))) && ((decide ((0 : Int) ≤ i3)) && (decide (i3 < (l2.n : Int)))))
      (draymanref31_One (l2.g i3.toNat) fun r4 =>
        (cond (!(!r4))
          (cond (decide (i3 > 0))
            (cond (((decide ((0 : Int) ≤ (IntKind.i64.wrap (i3 - 1)))) && (decide ((IntKind.i64.wrap (i3 - 1)) < (l2.n : Int)))) && ((decide ((0 : Int) ≤ (IntKind.i64.wrap (i3 - 1)))) && (decide ((IntKind.i64.wrap (i3 - 1)) < (l2.n : Int)))))
              (cond (((decide ((0 : Int) ≤ i3)) && (decide (i3 < (l2.n : Int)))) && ((decide ((0 : Int) ≤ i3)) && (decide (i3 < (l2.n : Int)))))
                (draymanref31_ahead (l2.g (IntKind.i64.wrap (i3 - 1)).toNat) (l2.g i3.toNat) fun r5 =>
                  (cond (!r5)
                    (kr false)
                    (rec l2 (IntKind.i64.wrap (i3 + 1)))))
                none)
              none)
            (rec l2 (IntKind.i64.wrap (i3 + 1))))
          (kr false)))
      none)
    (k0))

noncomputable def draymanref31_Fit_l0_run {α : Type} (draymanref31_One : draymanref31_One_T α) (draymanref31_ahead : draymanref31_ahead_T α) (kr : (Bool) → Option α) (k0 : Option α) : Nat → (Seq Z1) → (Int) → Option α
  | 0, _, _ => none
  | n + 1, l2, i3 => draymanref31_Fit_l0_step draymanref31_One draymanref31_ahead kr k0 (fun l2 i3 => draymanref31_Fit_l0_run draymanref31_One draymanref31_ahead kr k0 n l2 i3) l2 i3

noncomputable def draymanref31_Fit_g {α : Type} (draymanref31_One : draymanref31_One_T α) (draymanref31_ahead : draymanref31_ahead_T α) (l1 : Seq Z1) (k : Bool → Option α) : Option α :=
  (draymanref31_Fit_l0_run draymanref31_One draymanref31_ahead
    (fun x6 =>
      (k x6))
    ((k true))
    1000 l1 0)

noncomputable def draymanref31_Fit {α : Type} : draymanref31_Fit_T α := draymanref31_Fit_g draymanref31_One draymanref31_ahead

noncomputable def draymanref31_Fit_sp {α : Type} (draymanref31_Fit : draymanref31_Fit_T α) : FunSpec α := ⟨11, [.sl (.int .i64 (.int .i64 (.int .i64 (.int .i64 (.int .i64 (.int .i64 (.nil)))))))], [], fun ds k => draymanref31_Fit (hdQ (.int .i64 (.int .i64 (.int .i64 (.int .i64 (.int .i64 (.int .i64 (.nil))))))) ds) (fun r1 => k (enc dep (.bool) [.b r1]).1 [])⟩

noncomputable def draymanref31_Fit_spec {α : Type} : FunSpec α := draymanref31_Fit_sp draymanref31_Fit

noncomputable def draymanref31_Fit_C {α : Type} (draymanref31_One : draymanref31_One_T α) (draymanref31_ahead : draymanref31_ahead_T α) : List (FunSpec α) := [draymanref31_One_sp draymanref31_One, draymanref31_ahead_sp draymanref31_ahead]

noncomputable def draymanref31_Fit_q : FuncId → Bool := fun f => Nat.beq f 39 || Nat.beq f 40

noncomputable def draymanref31_Fit_inl : FuncId → Bool := fun f => false

noncomputable def draymanref31_Fit_ann : FuncId → AnnT := fun f p => if f = 11 then (if p = [true, false, true] then ⟨[0, 3], [], [], [2], 0, [], []⟩ else ⟨[], [], [], [], 0, [], []⟩) else ⟨[], [], [], [], 0, [], []⟩

noncomputable def draymanref31_Fit_l0_t : List Sh := [.sl (.int .i64 (.int .i64 (.int .i64 (.int .i64 (.int .i64 (.int .i64 (.nil))))))), .dead, .dead, .int .i64, .dead, .dead, .dead, .dead, .dead, .dead, .dead, .dead, .dead, .dead, .dead, .dead, .dead, .dead, .dead, .dead, .dead, .dead, .dead, .dead, .dead, .dead, .dead, .dead, .dead, .dead, .dead, .dead, .dead]
noncomputable def draymanref31_Fit_l0_s : List (List Sh) := []
noncomputable def draymanref31_Fit_l0_h : List BSh := []

noncomputable def draymanref31_Fit_l0_spec {α : Type} (draymanref31_One : draymanref31_One_T α) (draymanref31_ahead : draymanref31_ahead_T α) : LoopSpec α := ⟨6, 11, [true, false, true], draymanref31_Fit_l0_t, draymanref31_Fit_l0_s, draymanref31_Fit_l0_h, fun ds k => draymanref31_Fit_l0_run draymanref31_One draymanref31_ahead (fun y1 => k .ret (encSt [.dead, .dead, .bool, .dead, .dead, .dead, .dead, .dead, .dead, .dead, .dead, .dead, .dead, .dead, .dead, .dead, .dead, .dead, .dead, .dead, .dead, .dead, .dead, .dead, .dead, .dead, .dead, .dead, .dead, .dead, .dead, .dead, .dead] [] [] [.b y1])) (k (.exit 0) (encSt [.dead, .dead, .dead, .dead, .dead, .dead, .dead, .dead, .dead, .dead, .dead, .dead, .dead, .dead, .dead, .dead, .dead, .dead, .dead, .dead, .dead, .dead, .dead, .dead, .dead, .dead, .dead, .dead, .dead, .dead, .dead, .dead, .dead] [] [] [])) 1000 (hdQ (.int .i64 (.int .i64 (.int .i64 (.int .i64 (.int .i64 (.int .i64 (.nil))))))) ds) (hdI ds.tail)⟩

noncomputable def draymanref31_Fit_loops {α : Type} (draymanref31_One : draymanref31_One_T α) (draymanref31_ahead : draymanref31_ahead_T α) : List (LoopSpec α) := [draymanref31_Fit_l0_spec draymanref31_One draymanref31_ahead]

noncomputable def draymanref31_Fit_l0_ev {α : Type} (draymanref31_One : draymanref31_One_T α) (draymanref31_ahead : draymanref31_ahead_T α) (n : Nat) (st : St) (k : X → St → Option α) : Option α := loopN (evCode Go.Proofs.Try.prog (callD Go.Proofs.Try.prog (envOf (draymanref31_Fit_C draymanref31_One draymanref31_ahead) draymanref31_Fit_q draymanref31_Fit_inl 1000 draymanref31_Fit_ann false (draymanref31_Fit_loops draymanref31_One draymanref31_ahead) (fun _ => none)) 6) (((envOf (draymanref31_Fit_C draymanref31_One draymanref31_ahead) draymanref31_Fit_q draymanref31_Fit_inl 1000 draymanref31_Fit_ann false (draymanref31_Fit_loops draymanref31_One draymanref31_ahead) (fun _ => none)) : Env α).L 6 11) 1000 (draymanref31_Fit_ann 11) (false :: [true, false, true]) (loopC Go.Proofs.Try.prog 11 [true, false, true])) ((draymanref31_Fit_ann 11 [true, false, true]).head 0) ((draymanref31_Fit_ann 11 [true, false, true]).leave 0) n st k

theorem draymanref31_Fit_l0_eq {α : Type} (draymanref31_One : draymanref31_One_T α) (draymanref31_ahead : draymanref31_ahead_T α) : ∀ (n : Nat) (l2 : Seq Z1) (i3 : Int) (k : X → St → Option α), draymanref31_Fit_l0_ev draymanref31_One draymanref31_ahead n (encSt draymanref31_Fit_l0_t draymanref31_Fit_l0_s draymanref31_Fit_l0_h [.q (.int .i64 (.int .i64 (.int .i64 (.int .i64 (.int .i64 (.int .i64 (.nil))))))) l2, .i i3]) k = draymanref31_Fit_l0_run draymanref31_One draymanref31_ahead (fun y1 => k .ret (encSt [.dead, .dead, .bool, .dead, .dead, .dead, .dead, .dead, .dead, .dead, .dead, .dead, .dead, .dead, .dead, .dead, .dead, .dead, .dead, .dead, .dead, .dead, .dead, .dead, .dead, .dead, .dead, .dead, .dead, .dead, .dead, .dead, .dead] [] [] [.b y1])) (k (.exit 0) (encSt [.dead, .dead, .dead, .dead, .dead, .dead, .dead, .dead, .dead, .dead, .dead, .dead, .dead, .dead, .dead, .dead, .dead, .dead, .dead, .dead, .dead, .dead, .dead, .dead, .dead, .dead, .dead, .dead, .dead, .dead, .dead, .dead, .dead] [] [] [])) n l2 i3 := by
  intro n
  induction n with
  | zero => intros; kernel_rfl
  | succ n ih =>
    intro l2 i3 k
    have e : (fun (l2 : Seq Z1) (i3 : Int) => draymanref31_Fit_l0_ev draymanref31_One draymanref31_ahead n (encSt draymanref31_Fit_l0_t draymanref31_Fit_l0_s draymanref31_Fit_l0_h [.q (.int .i64 (.int .i64 (.int .i64 (.int .i64 (.int .i64 (.int .i64 (.nil))))))) l2, .i i3]) k) = (fun (l2 : Seq Z1) (i3 : Int) => draymanref31_Fit_l0_run draymanref31_One draymanref31_ahead (fun y1 => k .ret (encSt [.dead, .dead, .bool, .dead, .dead, .dead, .dead, .dead, .dead, .dead, .dead, .dead, .dead, .dead, .dead, .dead, .dead, .dead, .dead, .dead, .dead, .dead, .dead, .dead, .dead, .dead, .dead, .dead, .dead, .dead, .dead, .dead, .dead] [] [] [.b y1])) (k (.exit 0) (encSt [.dead, .dead, .dead, .dead, .dead, .dead, .dead, .dead, .dead, .dead, .dead, .dead, .dead, .dead, .dead, .dead, .dead, .dead, .dead, .dead, .dead, .dead, .dead, .dead, .dead, .dead, .dead, .dead, .dead, .dead, .dead, .dead, .dead] [] [] [])) n l2 i3) := by
      funext l2 i3
      exact ih l2 i3 k
    have h1 : draymanref31_Fit_l0_ev draymanref31_One draymanref31_ahead (n + 1) (encSt draymanref31_Fit_l0_t draymanref31_Fit_l0_s draymanref31_Fit_l0_h [.q (.int .i64 (.int .i64 (.int .i64 (.int .i64 (.int .i64 (.int .i64 (.nil))))))) l2, .i i3]) k = draymanref31_Fit_l0_step draymanref31_One draymanref31_ahead (fun y1 => k .ret (encSt [.dead, .dead, .bool, .dead, .dead, .dead, .dead, .dead, .dead, .dead, .dead, .dead, .dead, .dead, .dead, .dead, .dead, .dead, .dead, .dead, .dead, .dead, .dead, .dead, .dead, .dead, .dead, .dead, .dead, .dead, .dead, .dead, .dead] [] [] [.b y1])) (k (.exit 0) (encSt [.dead, .dead, .dead, .dead, .dead, .dead, .dead, .dead, .dead, .dead, .dead, .dead, .dead, .dead, .dead, .dead, .dead, .dead, .dead, .dead, .dead, .dead, .dead, .dead, .dead, .dead, .dead, .dead, .dead, .dead, .dead, .dead, .dead] [] [] [])) (fun (l2 : Seq Z1) (i3 : Int) => draymanref31_Fit_l0_ev draymanref31_One draymanref31_ahead n (encSt draymanref31_Fit_l0_t draymanref31_Fit_l0_s draymanref31_Fit_l0_h [.q (.int .i64 (.int .i64 (.int .i64 (.int .i64 (.int .i64 (.int .i64 (.nil))))))) l2, .i i3]) k) l2 i3 := by kernel_rfl
    have h2 := congrArg (fun r => draymanref31_Fit_l0_step draymanref31_One draymanref31_ahead (fun y1 => k .ret (encSt [.dead, .dead, .bool, .dead, .dead, .dead, .dead, .dead, .dead, .dead, .dead, .dead, .dead, .dead, .dead, .dead, .dead, .dead, .dead, .dead, .dead, .dead, .dead, .dead, .dead, .dead, .dead, .dead, .dead, .dead, .dead, .dead, .dead] [] [] [.b y1])) (k (.exit 0) (encSt [.dead, .dead, .dead, .dead, .dead, .dead, .dead, .dead, .dead, .dead, .dead, .dead, .dead, .dead, .dead, .dead, .dead, .dead, .dead, .dead, .dead, .dead, .dead, .dead, .dead, .dead, .dead, .dead, .dead, .dead, .dead, .dead, .dead] [] [] [])) r l2 i3) e
    have h3 : draymanref31_Fit_l0_step draymanref31_One draymanref31_ahead (fun y1 => k .ret (encSt [.dead, .dead, .bool, .dead, .dead, .dead, .dead, .dead, .dead, .dead, .dead, .dead, .dead, .dead, .dead, .dead, .dead, .dead, .dead, .dead, .dead, .dead, .dead, .dead, .dead, .dead, .dead, .dead, .dead, .dead, .dead, .dead, .dead] [] [] [.b y1])) (k (.exit 0) (encSt [.dead, .dead, .dead, .dead, .dead, .dead, .dead, .dead, .dead, .dead, .dead, .dead, .dead, .dead, .dead, .dead, .dead, .dead, .dead, .dead, .dead, .dead, .dead, .dead, .dead, .dead, .dead, .dead, .dead, .dead, .dead, .dead, .dead] [] [] [])) (fun (l2 : Seq Z1) (i3 : Int) => draymanref31_Fit_l0_run draymanref31_One draymanref31_ahead (fun y1 => k .ret (encSt [.dead, .dead, .bool, .dead, .dead, .dead, .dead, .dead, .dead, .dead, .dead, .dead, .dead, .dead, .dead, .dead, .dead, .dead, .dead, .dead, .dead, .dead, .dead, .dead, .dead, .dead, .dead, .dead, .dead, .dead, .dead, .dead, .dead] [] [] [.b y1])) (k (.exit 0) (encSt [.dead, .dead, .dead, .dead, .dead, .dead, .dead, .dead, .dead, .dead, .dead, .dead, .dead, .dead, .dead, .dead, .dead, .dead, .dead, .dead, .dead, .dead, .dead, .dead, .dead, .dead, .dead, .dead, .dead, .dead, .dead, .dead, .dead] [] [] [])) n l2 i3) l2 i3 = draymanref31_Fit_l0_run draymanref31_One draymanref31_ahead (fun y1 => k .ret (encSt [.dead, .dead, .bool, .dead, .dead, .dead, .dead, .dead, .dead, .dead, .dead, .dead, .dead, .dead, .dead, .dead, .dead, .dead, .dead, .dead, .dead, .dead, .dead, .dead, .dead, .dead, .dead, .dead, .dead, .dead, .dead, .dead, .dead] [] [] [.b y1])) (k (.exit 0) (encSt [.dead, .dead, .dead, .dead, .dead, .dead, .dead, .dead, .dead, .dead, .dead, .dead, .dead, .dead, .dead, .dead, .dead, .dead, .dead, .dead, .dead, .dead, .dead, .dead, .dead, .dead, .dead, .dead, .dead, .dead, .dead, .dead, .dead] [] [] [])) (n + 1) l2 i3 := by kernel_rfl
    exact h1.trans (h2.trans h3)

theorem draymanref31_Fit_l0_ok {α : Type} (draymanref31_One : draymanref31_One_T α) (draymanref31_ahead : draymanref31_ahead_T α) : (draymanref31_Fit_l0_spec draymanref31_One draymanref31_ahead : LoopSpec α).ok Go.Proofs.Try.prog (envOf (draymanref31_Fit_C draymanref31_One draymanref31_ahead) draymanref31_Fit_q draymanref31_Fit_inl 1000 draymanref31_Fit_ann false (draymanref31_Fit_loops draymanref31_One draymanref31_ahead) (fun _ => none)) := by
  intro ds k
  have h1 : draymanref31_Fit_l0_ev draymanref31_One draymanref31_ahead 1000 (encSt draymanref31_Fit_l0_t draymanref31_Fit_l0_s draymanref31_Fit_l0_h ds) k = draymanref31_Fit_l0_ev draymanref31_One draymanref31_ahead 1000 (encSt draymanref31_Fit_l0_t draymanref31_Fit_l0_s draymanref31_Fit_l0_h [.q (.int .i64 (.int .i64 (.int .i64 (.int .i64 (.int .i64 (.int .i64 (.nil))))))) (hdQ (.int .i64 (.int .i64 (.int .i64 (.int .i64 (.int .i64 (.int .i64 (.nil))))))) ds), .i (hdI ds.tail)]) k := by kernel_rfl
  have h2 := draymanref31_Fit_l0_eq draymanref31_One draymanref31_ahead 1000 (hdQ (.int .i64 (.int .i64 (.int .i64 (.int .i64 (.int .i64 (.int .i64 (.nil))))))) ds) (hdI ds.tail) k
  exact h1.trans h2

theorem draymanref31_Fit_ev {α : Type} (draymanref31_One : draymanref31_One_T α) (draymanref31_ahead : draymanref31_ahead_T α) : EvOk (α := α) Go.Proofs.Try.prog (envOf (draymanref31_Fit_C draymanref31_One draymanref31_ahead) draymanref31_Fit_q draymanref31_Fit_inl 1000 draymanref31_Fit_ann false (draymanref31_Fit_loops draymanref31_One draymanref31_ahead) (fun _ => none)) 6 (draymanref31_Fit_sp (draymanref31_Fit_g draymanref31_One draymanref31_ahead)) := by intro ds k; kernel_rfl

theorem draymanref31_Fit_ok {α : Type} : (draymanref31_Fit_spec : FunSpec α).ok Go.Proofs.Try.prog :=
  FunSpec.ok_of (sp := draymanref31_Fit_spec) (C := draymanref31_Fit_C draymanref31_One draymanref31_ahead) (q := draymanref31_Fit_q) (inl := draymanref31_Fit_inl) (N := 1000) (ann := draymanref31_Fit_ann) (fr := false) (D := 6) (l := (draymanref31_Fit_loops draymanref31_One draymanref31_ahead)) (hk := (fun _ => none)) (okCons draymanref31_One_ok (okCons draymanref31_ahead_ok okNil)) (lokCons (draymanref31_Fit_l0_ok draymanref31_One draymanref31_ahead) lokNil) noHooks (draymanref31_Fit_ev draymanref31_One draymanref31_ahead)

end
end Go.Rv.Try

set_option linter.unusedVariables false
set_option maxRecDepth 100000
set_option maxHeartbeats 4000000
namespace Go.Rv.Try
open Go Go.Rv Go.RowKit
noncomputable section

-- drayman/draymanref31.Effects

abbrev draymanref31_Effects_T (α : Type) : Type := (Seq Z1) → (Int → Int → Option α) → Option α

noncomputable def draymanref31_Effects_l0_step {α : Type} (draymanref31_Fit : draymanref31_Fit_T α) (k0 : (Int) → (Int) → Option α) (rec : (Seq Z1) → (Int) → (Int) → (Int) → Option α) (l2 : Seq Z1) (n3 : Int) (m4 : Int) (i5 : Int) : Option α :=
  (cond (decide (i5 < (l2.n : Int)))
    (draymanref31_Fit l2 fun r6 =>
      (cond r6
        (cond ((decide ((0 : Int) ≤ i5)) && (decide (i5 < (l2.n : Int))))
          (cond ((decide ((0 : Int) ≤ i5)) && (decide (i5 < (l2.n : Int))))
            (rec l2 (IntKind.i64.wrap (n3 + (l2.g i5.toNat).2.2.2.1)) (IntKind.i64.wrap (m4 + (l2.g i5.toNat).2.2.2.2.1)) (IntKind.i64.wrap (i5 + 1)))
            none)
          none)
        (k0 n3 m4)))
    (k0 n3 m4))

noncomputable def draymanref31_Effects_l0_run {α : Type} (draymanref31_Fit : draymanref31_Fit_T α) (k0 : (Int) → (Int) → Option α) : Nat → (Seq Z1) → (Int) → (Int) → (Int) → Option α
  | 0, _, _, _, _ => none
  | n + 1, l2, n3, m4, i5 => draymanref31_Effects_l0_step draymanref31_Fit k0 (fun l2 n3 m4 i5 => draymanref31_Effects_l0_run draymanref31_Fit k0 n l2 n3 m4 i5) l2 n3 m4 i5

noncomputable def draymanref31_Effects_g {α : Type} (draymanref31_Fit : draymanref31_Fit_T α) (l1 : Seq Z1) (k : Int → Int → Option α) : Option α :=
  (draymanref31_Effects_l0_run draymanref31_Fit
    (fun x7 x8 =>
      (k x7 x8))
    1000 l1 0 0 0)

noncomputable def draymanref31_Effects {α : Type} : draymanref31_Effects_T α := draymanref31_Effects_g draymanref31_Fit

noncomputable def draymanref31_Effects_sp {α : Type} (draymanref31_Effects : draymanref31_Effects_T α) : FunSpec α := ⟨53, [.sl (.int .i64 (.int .i64 (.int .i64 (.int .i64 (.int .i64 (.int .i64 (.nil)))))))], [], fun ds k => draymanref31_Effects (hdQ (.int .i64 (.int .i64 (.int .i64 (.int .i64 (.int .i64 (.int .i64 (.nil))))))) ds) (fun r1 r2 => k (enc dep (.tup [.int .i64, .int .i64]) [.i r1, .i r2]).1 [])⟩

noncomputable def draymanref31_Effects_spec {α : Type} : FunSpec α := draymanref31_Effects_sp draymanref31_Effects

noncomputable def draymanref31_Effects_C {α : Type} (draymanref31_Fit : draymanref31_Fit_T α) : List (FunSpec α) := [draymanref31_Fit_sp draymanref31_Fit]

noncomputable def draymanref31_Effects_q : FuncId → Bool := fun f => Nat.beq f 11

noncomputable def draymanref31_Effects_inl : FuncId → Bool := fun f => false

noncomputable def draymanref31_Effects_ann : FuncId → AnnT := fun f p => if f = 53 then (if p = [true, false, true, true] then ⟨[0, 4, 5, 6], [], [4, 5], [2, 3], 0, [], []⟩ else ⟨[], [], [], [], 0, [], []⟩) else ⟨[], [], [], [], 0, [], []⟩

noncomputable def draymanref31_Effects_l0_t : List Sh := [.sl (.int .i64 (.int .i64 (.int .i64 (.int .i64 (.int .i64 (.int .i64 (.nil))))))), .dead, .dead, .dead, .int .i64, .int .i64, .int .i64, .dead, .dead, .dead, .dead, .dead, .dead, .dead, .dead, .dead, .dead, .dead, .dead, .dead, .dead, .dead, .dead, .dead, .dead, .dead, .dead, .dead, .dead, .dead, .dead, .dead, .dead]
noncomputable def draymanref31_Effects_l0_s : List (List Sh) := []
noncomputable def draymanref31_Effects_l0_h : List BSh := []

noncomputable def draymanref31_Effects_l0_spec {α : Type} (draymanref31_Fit : draymanref31_Fit_T α) : LoopSpec α := ⟨6, 53, [true, false, true, true], draymanref31_Effects_l0_t, draymanref31_Effects_l0_s, draymanref31_Effects_l0_h, fun ds k => draymanref31_Effects_l0_run draymanref31_Fit (fun y1 y2 => k (.exit 0) (encSt [.dead, .dead, .dead, .dead, .int .i64, .int .i64, .dead, .dead, .dead, .dead, .dead, .dead, .dead, .dead, .dead, .dead, .dead, .dead, .dead, .dead, .dead, .dead, .dead, .dead, .dead, .dead, .dead, .dead, .dead, .dead, .dead, .dead, .dead] [] [] [.i y1, .i y2])) 1000 (hdQ (.int .i64 (.int .i64 (.int .i64 (.int .i64 (.int .i64 (.int .i64 (.nil))))))) ds) (hdI ds.tail) (hdI ds.tail.tail) (hdI ds.tail.tail.tail)⟩

noncomputable def draymanref31_Effects_loops {α : Type} (draymanref31_Fit : draymanref31_Fit_T α) : List (LoopSpec α) := [draymanref31_Effects_l0_spec draymanref31_Fit]

noncomputable def draymanref31_Effects_l0_ev {α : Type} (draymanref31_Fit : draymanref31_Fit_T α) (n : Nat) (st : St) (k : X → St → Option α) : Option α := loopN (evCode Go.Proofs.Try.prog (callD Go.Proofs.Try.prog (envOf (draymanref31_Effects_C draymanref31_Fit) draymanref31_Effects_q draymanref31_Effects_inl 1000 draymanref31_Effects_ann false (draymanref31_Effects_loops draymanref31_Fit) (fun _ => none)) 6) (((envOf (draymanref31_Effects_C draymanref31_Fit) draymanref31_Effects_q draymanref31_Effects_inl 1000 draymanref31_Effects_ann false (draymanref31_Effects_loops draymanref31_Fit) (fun _ => none)) : Env α).L 6 53) 1000 (draymanref31_Effects_ann 53) (false :: [true, false, true, true]) (loopC Go.Proofs.Try.prog 53 [true, false, true, true])) ((draymanref31_Effects_ann 53 [true, false, true, true]).head 0) ((draymanref31_Effects_ann 53 [true, false, true, true]).leave 0) n st k

theorem draymanref31_Effects_l0_eq {α : Type} (draymanref31_Fit : draymanref31_Fit_T α) : ∀ (n : Nat) (l2 : Seq Z1) (n3 : Int) (m4 : Int) (i5 : Int) (k : X → St → Option α), draymanref31_Effects_l0_ev draymanref31_Fit n (encSt draymanref31_Effects_l0_t draymanref31_Effects_l0_s draymanref31_Effects_l0_h [.q (.int .i64 (.int .i64 (.int .i64 (.int .i64 (.int .i64 (.int .i64 (.nil))))))) l2, .i n3, .i m4, .i i5]) k = draymanref31_Effects_l0_run draymanref31_Fit (fun y1 y2 => k (.exit 0) (encSt [.dead, .dead, .dead, .dead, .int .i64, .int .i64, .dead, .dead, .dead, .dead, .dead, .dead, .dead, .dead, .dead, .dead, .dead, .dead, .dead, .dead, .dead, .dead, .dead, .dead, .dead, .dead, .dead, .dead, .dead, .dead, .dead, .dead, .dead] [] [] [.i y1, .i y2])) n l2 n3 m4 i5 := by
  intro n
  induction n with
  | zero => intros; kernel_rfl
  | succ n ih =>
    intro l2 n3 m4 i5 k
    have e : (fun (l2 : Seq Z1) (n3 : Int) (m4 : Int) (i5 : Int) => draymanref31_Effects_l0_ev draymanref31_Fit n (encSt draymanref31_Effects_l0_t draymanref31_Effects_l0_s draymanref31_Effects_l0_h [.q (.int .i64 (.int .i64 (.int .i64 (.int .i64 (.int .i64 (.int .i64 (.nil))))))) l2, .i n3, .i m4, .i i5]) k) = (fun (l2 : Seq Z1) (n3 : Int) (m4 : Int) (i5 : Int) => draymanref31_Effects_l0_run draymanref31_Fit (fun y1 y2 => k (.exit 0) (encSt [.dead, .dead, .dead, .dead, .int .i64, .int .i64, .dead, .dead, .dead, .dead, .dead, .dead, .dead, .dead, .dead, .dead, .dead, .dead, .dead, .dead, .dead, .dead, .dead, .dead, .dead, .dead, .dead, .dead, .dead, .dead, .dead, .dead, .dead] [] [] [.i y1, .i y2])) n l2 n3 m4 i5) := by
      funext l2 n3 m4 i5
      exact ih l2 n3 m4 i5 k
    have h1 : draymanref31_Effects_l0_ev draymanref31_Fit (n + 1) (encSt draymanref31_Effects_l0_t draymanref31_Effects_l0_s draymanref31_Effects_l0_h [.q (.int .i64 (.int .i64 (.int .i64 (.int .i64 (.int .i64 (.int .i64 (.nil))))))) l2, .i n3, .i m4, .i i5]) k = draymanref31_Effects_l0_step draymanref31_Fit (fun y1 y2 => k (.exit 0) (encSt [.dead, .dead, .dead, .dead, .int .i64, .int .i64, .dead, .dead, .dead, .dead, .dead, .dead, .dead, .dead, .dead, .dead, .dead, .dead, .dead, .dead, .dead, .dead, .dead, .dead, .dead, .dead, .dead, .dead, .dead, .dead, .dead, .dead, .dead] [] [] [.i y1, .i y2])) (fun (l2 : Seq Z1) (n3 : Int) (m4 : Int) (i5 : Int) => draymanref31_Effects_l0_ev draymanref31_Fit n (encSt draymanref31_Effects_l0_t draymanref31_Effects_l0_s draymanref31_Effects_l0_h [.q (.int .i64 (.int .i64 (.int .i64 (.int .i64 (.int .i64 (.int .i64 (.nil))))))) l2, .i n3, .i m4, .i i5]) k) l2 n3 m4 i5 := by kernel_rfl
    have h2 := congrArg (fun r => draymanref31_Effects_l0_step draymanref31_Fit (fun y1 y2 => k (.exit 0) (encSt [.dead, .dead, .dead, .dead, .int .i64, .int .i64, .dead, .dead, .dead, .dead, .dead, .dead, .dead, .dead, .dead, .dead, .dead, .dead, .dead, .dead, .dead, .dead, .dead, .dead, .dead, .dead, .dead, .dead, .dead, .dead, .dead, .dead, .dead] [] [] [.i y1, .i y2])) r l2 n3 m4 i5) e
    have h3 : draymanref31_Effects_l0_step draymanref31_Fit (fun y1 y2 => k (.exit 0) (encSt [.dead, .dead, .dead, .dead, .int .i64, .int .i64, .dead, .dead, .dead, .dead, .dead, .dead, .dead, .dead, .dead, .dead, .dead, .dead, .dead, .dead, .dead, .dead, .dead, .dead, .dead, .dead, .dead, .dead, .dead, .dead, .dead, .dead, .dead] [] [] [.i y1, .i y2])) (fun (l2 : Seq Z1) (n3 : Int) (m4 : Int) (i5 : Int) => draymanref31_Effects_l0_run draymanref31_Fit (fun y1 y2 => k (.exit 0) (encSt [.dead, .dead, .dead, .dead, .int .i64, .int .i64, .dead, .dead, .dead, .dead, .dead, .dead, .dead, .dead, .dead, .dead, .dead, .dead, .dead, .dead, .dead, .dead, .dead, .dead, .dead, .dead, .dead, .dead, .dead, .dead, .dead, .dead, .dead] [] [] [.i y1, .i y2])) n l2 n3 m4 i5) l2 n3 m4 i5 = draymanref31_Effects_l0_run draymanref31_Fit (fun y1 y2 => k (.exit 0) (encSt [.dead, .dead, .dead, .dead, .int .i64, .int .i64, .dead, .dead, .dead, .dead, .dead, .dead, .dead, .dead, .dead, .dead, .dead, .dead, .dead, .dead, .dead, .dead, .dead, .dead, .dead, .dead, .dead, .dead, .dead, .dead, .dead, .dead, .dead] [] [] [.i y1, .i y2])) (n + 1) l2 n3 m4 i5 := by kernel_rfl
    exact h1.trans (h2.trans h3)

theorem draymanref31_Effects_l0_ok {α : Type} (draymanref31_Fit : draymanref31_Fit_T α) : (draymanref31_Effects_l0_spec draymanref31_Fit : LoopSpec α).ok Go.Proofs.Try.prog (envOf (draymanref31_Effects_C draymanref31_Fit) draymanref31_Effects_q draymanref31_Effects_inl 1000 draymanref31_Effects_ann false (draymanref31_Effects_loops draymanref31_Fit) (fun _ => none)) := by
  intro ds k
  have h1 : draymanref31_Effects_l0_ev draymanref31_Fit 1000 (encSt draymanref31_Effects_l0_t draymanref31_Effects_l0_s draymanref31_Effects_l0_h ds) k = draymanref31_Effects_l0_ev draymanref31_Fit 1000 (encSt draymanref31_Effects_l0_t draymanref31_Effects_l0_s draymanref31_Effects_l0_h [.q (.int .i64 (.int .i64 (.int .i64 (.int .i64 (.int .i64 (.int .i64 (.nil))))))) (hdQ (.int .i64 (.int .i64 (.int .i64 (.int .i64 (.int .i64 (.int .i64 (.nil))))))) ds), .i (hdI ds.tail), .i (hdI ds.tail.tail), .i (hdI ds.tail.tail.tail)]) k := by kernel_rfl
  have h2 := draymanref31_Effects_l0_eq draymanref31_Fit 1000 (hdQ (.int .i64 (.int .i64 (.int .i64 (.int .i64 (.int .i64 (.int .i64 (.nil))))))) ds) (hdI ds.tail) (hdI ds.tail.tail) (hdI ds.tail.tail.tail) k
  exact h1.trans h2

theorem draymanref31_Effects_ev {α : Type} (draymanref31_Fit : draymanref31_Fit_T α) : EvOk (α := α) Go.Proofs.Try.prog (envOf (draymanref31_Effects_C draymanref31_Fit) draymanref31_Effects_q draymanref31_Effects_inl 1000 draymanref31_Effects_ann false (draymanref31_Effects_loops draymanref31_Fit) (fun _ => none)) 6 (draymanref31_Effects_sp (draymanref31_Effects_g draymanref31_Fit)) := by intro ds k; kernel_rfl

theorem draymanref31_Effects_ok {α : Type} : (draymanref31_Effects_spec : FunSpec α).ok Go.Proofs.Try.prog :=
  FunSpec.ok_of (sp := draymanref31_Effects_spec) (C := draymanref31_Effects_C draymanref31_Fit) (q := draymanref31_Effects_q) (inl := draymanref31_Effects_inl) (N := 1000) (ann := draymanref31_Effects_ann) (fr := false) (D := 6) (l := (draymanref31_Effects_loops draymanref31_Fit)) (hk := (fun _ => none)) (okCons draymanref31_Fit_ok okNil) (lokCons (draymanref31_Effects_l0_ok draymanref31_Fit) lokNil) noHooks (draymanref31_Effects_ev draymanref31_Fit)

end
end Go.Rv.Try

set_option linter.unusedVariables false
set_option maxRecDepth 100000
set_option maxHeartbeats 4000000
namespace Go.Rv.Try
open Go Go.Rv Go.RowKit
noncomputable section

-- drayman/draymanref31.Find

abbrev draymanref31_Find_T (α : Type) : Type := (Seq Z1) → Int → Int → (Z1 → Bool → Option α) → Option α

noncomputable def draymanref31_Find_l0_step {α : Type} (kr : (Bool) → Z1 → Option α) (k0 : Z1 → Option α) (rec : (Seq Z1) → (Int) → (Int) → (Int) → Z1 → Option α) (l4 : Seq Z1) (saga5 : Int) (step6 : Int) (i7 : Int) (x8 : Int × Int × Int × Int × Int × Int × Unit) : Option α :=
  (cond (decide (i7 < (l4.n : Int)))
    (cond ((decide ((0 : Int) ≤ i7)) && (decide (i7 < (l4.n : Int))))
      (cond ((l4.g i7.toNat).1 == saga5)
        (cond ((decide ((0 : Int) ≤ i7)) && (decide (i7 < (l4.n : Int))))
          (cond ((l4.g i7.toNat).2.1 == step6)
            (cond ((decide ((0 : Int) ≤ i7)) && (decide (i7 < (l4.n : Int))))
              (kr true (l4.g i7.toNat))
              none)
            (rec l4 saga5 step6 (IntKind.i64.wrap (i7 + 1)) x8))
          none)
        (rec l4 saga5 step6 (IntKind.i64.wrap (i7 + 1)) x8))
      none)
    (k0 x8))

noncomputable def draymanref31_Find_l0_run {α : Type} (kr : (Bool) → Z1 → Option α) (k0 : Z1 → Option α) : Nat → (Seq Z1) → (Int) → (Int) → (Int) → Z1 → Option α
  | 0, _, _, _, _, _ => none
  | n + 1, l4, saga5, step6, i7, x8 => draymanref31_Find_l0_step kr k0 (fun l4 saga5 step6 i7 x8 => draymanref31_Find_l0_run kr k0 n l4 saga5 step6 i7 x8) l4 saga5 step6 i7 x8

noncomputable def draymanref31_Find {α : Type} (l1 : Seq Z1) (saga2 : Int) (step3 : Int) (k : Z1 → Bool → Option α) : Option α :=
  (draymanref31_Find_l0_run
    (fun x9 x10 =>
      (k x10 x9))
    (fun x11 =>
      (k (0, 0, 0, 0, 0, 0, ()) false))
    1000 l1 saga2 step3 0 (0, 0, 0, 0, 0, 0, ()))

noncomputable def draymanref31_Find_sp {α : Type} (draymanref31_Find : draymanref31_Find_T α) : FunSpec α := ⟨43, [.sl (.int .i64 (.int .i64 (.int .i64 (.int .i64 (.int .i64 (.int .i64 (.nil))))))), .int .i64, .int .i64], [], fun ds k => draymanref31_Find (hdQ (.int .i64 (.int .i64 (.int .i64 (.int .i64 (.int .i64 (.int .i64 (.nil))))))) ds) (hdI ds.tail) (hdI ds.tail.tail) (fun r1 r2 => k (enc dep (.tup [.agg [.int .i64, .int .i64, .int .i64, .int .i64, .int .i64, .int .i64], .bool]) [.i r1.1, .i r1.2.1, .i r1.2.2.1, .i r1.2.2.2.1, .i r1.2.2.2.2.1, .i r1.2.2.2.2.2.1, .b r2]).1 [])⟩

noncomputable def draymanref31_Find_spec {α : Type} : FunSpec α := draymanref31_Find_sp draymanref31_Find

noncomputable def draymanref31_Find_C {α : Type} : List (FunSpec α) := []

noncomputable def draymanref31_Find_q : FuncId → Bool := fun f => false

noncomputable def draymanref31_Find_inl : FuncId → Bool := fun f => false

noncomputable def draymanref31_Find_ann : FuncId → AnnT := fun f p => if f = 43 then (if p = [true, false, true] then ⟨[0, 1, 2, 6, 8], [], [6], [6, 7], 0, [], []⟩ else ⟨[], [], [], [], 0, [], []⟩) else ⟨[], [], [], [], 0, [], []⟩

noncomputable def draymanref31_Find_l0_t : List Sh := [.sl (.int .i64 (.int .i64 (.int .i64 (.int .i64 (.int .i64 (.int .i64 (.nil))))))), .int .i64, .int .i64, .dead, .dead, .dead, .ref 0 0, .dead, .int .i64, .dead, .dead, .dead, .dead, .dead, .dead, .dead, .dead, .dead, .dead, .dead, .dead, .dead, .dead, .dead, .dead, .dead, .dead, .dead, .dead, .dead, .dead, .dead, .dead, .dead, .dead, .dead]
noncomputable def draymanref31_Find_l0_s : List (List Sh) := []
noncomputable def draymanref31_Find_l0_h : List BSh := [.box [.int .i64, .int .i64, .int .i64, .int .i64, .int .i64, .int .i64]]

noncomputable def draymanref31_Find_l0_spec {α : Type} : LoopSpec α := ⟨6, 43, [true, false, true], draymanref31_Find_l0_t, draymanref31_Find_l0_s, draymanref31_Find_l0_h, fun ds k => draymanref31_Find_l0_run (fun y1 y2 => k .ret (encSt [.dead, .dead, .dead, .dead, .dead, .dead, .ref 0 0, .bool, .dead, .dead, .dead, .dead, .dead, .dead, .dead, .dead, .dead, .dead, .dead, .dead, .dead, .dead, .dead, .dead, .dead, .dead, .dead, .dead, .dead, .dead, .dead, .dead, .dead, .dead, .dead, .dead] [] [.box [.int .i64, .int .i64, .int .i64, .int .i64, .int .i64, .int .i64]] [.b y1, .i y2.1, .i y2.2.1, .i y2.2.2.1, .i y2.2.2.2.1, .i y2.2.2.2.2.1, .i y2.2.2.2.2.2.1])) (fun y1 => k (.exit 0) (encSt [.dead, .dead, .dead, .dead, .dead, .dead, .ref 0 0, .dead, .dead, .dead, .dead, .dead, .dead, .dead, .dead, .dead, .dead, .dead, .dead, .dead, .dead, .dead, .dead, .dead, .dead, .dead, .dead, .dead, .dead, .dead, .dead, .dead, .dead, .dead, .dead, .dead] [] [.box [.int .i64, .int .i64, .int .i64, .int .i64, .int .i64, .int .i64]] [.i y1.1, .i y1.2.1, .i y1.2.2.1, .i y1.2.2.2.1, .i y1.2.2.2.2.1, .i y1.2.2.2.2.2.1])) 1000 (hdQ (.int .i64 (.int .i64 (.int .i64 (.int .i64 (.int .i64 (.int .i64 (.nil))))))) ds) (hdI ds.tail) (hdI ds.tail.tail) (hdI ds.tail.tail.tail) (hdI ds.tail.tail.tail.tail, hdI ds.tail.tail.tail.tail.tail, hdI ds.tail.tail.tail.tail.tail.tail, hdI ds.tail.tail.tail.tail.tail.tail.tail, hdI ds.tail.tail.tail.tail.tail.tail.tail.tail, hdI ds.tail.tail.tail.tail.tail.tail.tail.tail.tail, ())⟩

noncomputable def draymanref31_Find_loops {α : Type} : List (LoopSpec α) := [draymanref31_Find_l0_spec]

noncomputable def draymanref31_Find_l0_ev {α : Type} (n : Nat) (st : St) (k : X → St → Option α) : Option α := loopN (evCode Go.Proofs.Try.prog (callD Go.Proofs.Try.prog (envOf (draymanref31_Find_C) draymanref31_Find_q draymanref31_Find_inl 1000 draymanref31_Find_ann false (draymanref31_Find_loops) (fun _ => none)) 6) (((envOf (draymanref31_Find_C) draymanref31_Find_q draymanref31_Find_inl 1000 draymanref31_Find_ann false (draymanref31_Find_loops) (fun _ => none)) : Env α).L 6 43) 1000 (draymanref31_Find_ann 43) (false :: [true, false, true]) (loopC Go.Proofs.Try.prog 43 [true, false, true])) ((draymanref31_Find_ann 43 [true, false, true]).head 1) ((draymanref31_Find_ann 43 [true, false, true]).leave 1) n st k

theorem draymanref31_Find_l0_eq {α : Type} : ∀ (n : Nat) (l4 : Seq Z1) (saga5 : Int) (step6 : Int) (i7 : Int) (x8 : Int × Int × Int × Int × Int × Int × Unit) (k : X → St → Option α), draymanref31_Find_l0_ev n (encSt draymanref31_Find_l0_t draymanref31_Find_l0_s draymanref31_Find_l0_h [.q (.int .i64 (.int .i64 (.int .i64 (.int .i64 (.int .i64 (.int .i64 (.nil))))))) l4, .i saga5, .i step6, .i i7, .i x8.1, .i x8.2.1, .i x8.2.2.1, .i x8.2.2.2.1, .i x8.2.2.2.2.1, .i x8.2.2.2.2.2.1]) k = draymanref31_Find_l0_run (fun y1 y2 => k .ret (encSt [.dead, .dead, .dead, .dead, .dead, .dead, .ref 0 0, .bool, .dead, .dead, .dead, .dead, .dead, .dead, .dead, .dead, .dead, .dead, .dead, .dead, .dead, .dead, .dead, .dead, .dead, .dead, .dead, .dead, .dead, .dead, .dead, .dead, .dead, .dead, .dead, .dead] [] [.box [.int .i64, .int .i64, .int .i64, .int .i64, .int .i64, .int .i64]] [.b y1, .i y2.1, .i y2.2.1, .i y2.2.2.1, .i y2.2.2.2.1, .i y2.2.2.2.2.1, .i y2.2.2.2.2.2.1])) (fun y1 => k (.exit 0) (encSt [.dead, .dead, .dead, .dead, .dead, .dead, .ref 0 0, .dead, .dead, .dead, .dead, .dead, .dead, .dead, .dead, .dead, .dead, .dead, .dead, .dead, .dead, .dead, .dead, .dead, .dead, .dead, .dead, .dead, .dead, .dead, .dead, .dead, .dead, .dead, .dead, .dead] [] [.box [.int .i64, .int .i64, .int .i64, .int .i64, .int .i64, .int .i64]] [.i y1.1, .i y1.2.1, .i y1.2.2.1, .i y1.2.2.2.1, .i y1.2.2.2.2.1, .i y1.2.2.2.2.2.1])) n l4 saga5 step6 i7 x8 := by
  intro n
  induction n with
  | zero => intros; kernel_rfl
  | succ n ih =>
    intro l4 saga5 step6 i7 x8 k
    have e : (fun (l4 : Seq Z1) (saga5 : Int) (step6 : Int) (i7 : Int) (x8 : Int × Int × Int × Int × Int × Int × Unit) => draymanref31_Find_l0_ev n (encSt draymanref31_Find_l0_t draymanref31_Find_l0_s draymanref31_Find_l0_h [.q (.int .i64 (.int .i64 (.int .i64 (.int .i64 (.int .i64 (.int .i64 (.nil))))))) l4, .i saga5, .i step6, .i i7, .i x8.1, .i x8.2.1, .i x8.2.2.1, .i x8.2.2.2.1, .i x8.2.2.2.2.1, .i x8.2.2.2.2.2.1]) k) = (fun (l4 : Seq Z1) (saga5 : Int) (step6 : Int) (i7 : Int) (x8 : Int × Int × Int × Int × Int × Int × Unit) => draymanref31_Find_l0_run (fun y1 y2 => k .ret (encSt [.dead, .dead, .dead, .dead, .dead, .dead, .ref 0 0, .bool, .dead, .dead, .dead, .dead, .dead, .dead, .dead, .dead, .dead, .dead, .dead, .dead, .dead, .dead, .dead, .dead, .dead, .dead, .dead, .dead, .dead, .dead, .dead, .dead, .dead, .dead, .dead, .dead] [] [.box [.int .i64, .int .i64, .int .i64, .int .i64, .int .i64, .int .i64]] [.b y1, .i y2.1, .i y2.2.1, .i y2.2.2.1, .i y2.2.2.2.1, .i y2.2.2.2.2.1, .i y2.2.2.2.2.2.1])) (fun y1 => k (.exit 0) (encSt [.dead, .dead, .dead, .dead, .dead, .dead, .ref 0 0, .dead, .dead, .dead, .dead, .dead, .dead, .dead, .dead, .dead, .dead, .dead, .dead, .dead, .dead, .dead, .dead, .dead, .dead, .dead, .dead, .dead, .dead, .dead, .dead, .dead, .dead, .dead, .dead, .dead] [] [.box [.int .i64, .int .i64, .int .i64, .int .i64, .int .i64, .int .i64]] [.i y1.1, .i y1.2.1, .i y1.2.2.1, .i y1.2.2.2.1, .i y1.2.2.2.2.1, .i y1.2.2.2.2.2.1])) n l4 saga5 step6 i7 x8) := by
      funext l4 saga5 step6 i7 x8
      exact ih l4 saga5 step6 i7 x8 k
    have h1 : draymanref31_Find_l0_ev (n + 1) (encSt draymanref31_Find_l0_t draymanref31_Find_l0_s draymanref31_Find_l0_h [.q (.int .i64 (.int .i64 (.int .i64 (.int .i64 (.int .i64 (.int .i64 (.nil))))))) l4, .i saga5, .i step6, .i i7, .i x8.1, .i x8.2.1, .i x8.2.2.1, .i x8.2.2.2.1, .i x8.2.2.2.2.1, .i x8.2.2.2.2.2.1]) k = draymanref31_Find_l0_step (fun y1 y2 => k .ret (encSt [.dead, .dead, .dead, .dead, .dead, .dead, .ref 0 0, .bool, .dead, .dead, .dead, .dead, .dead, .dead, .dead, .dead, .dead, .dead, .dead, .dead, .dead, .dead, .dead, .dead, .dead, .dead, .dead, .dead, .dead, .dead, .dead, .dead, .dead, .dead, .dead, .dead] [] [.box [.int .i64, .int .i64, .int .i64, .int .i64, .int .i64, .int .i64]] [.b y1, .i y2.1, .i y2.2.1, .i y2.2.2.1, .i y2.2.2.2.1, .i y2.2.2.2.2.1, .i y2.2.2.2.2.2.1])) (fun y1 => k (.exit 0) (encSt [.dead, .dead, .dead, .dead, .dead, .dead, .ref 0 0, .dead, .dead, .dead, .dead, .dead, .dead, .dead, .dead, .dead, .dead, .dead, .dead, .dead, .dead, .dead, .dead, .dead, .dead, .dead, .dead, .dead, .dead, .dead, .dead, .dead, .dead, .dead, .dead, .dead] [] [.box [.int .i64, .int .i64, .int .i64, .int .i64, .int .i64, .int .i64]] [.i y1.1, .i y1.2.1, .i y1.2.2.1, .i y1.2.2.2.1, .i y1.2.2.2.2.1, .i y1.2.2.2.2.2.1])) (fun (l4 : Seq Z1) (saga5 : Int) (step6 : Int) (i7 : Int) (x8 : Int × Int × Int × Int × Int × Int × Unit) => draymanref31_Find_l0_ev n (encSt draymanref31_Find_l0_t draymanref31_Find_l0_s draymanref31_Find_l0_h [.q (.int .i64 (.int .i64 (.int .i64 (.int .i64 (.int .i64 (.int .i64 (.nil))))))) l4, .i saga5, .i step6, .i i7, .i x8.1, .i x8.2.1, .i x8.2.2.1, .i x8.2.2.2.1, .i x8.2.2.2.2.1, .i x8.2.2.2.2.2.1]) k) l4 saga5 step6 i7 x8 := by kernel_rfl
    have h2 := congrArg (fun r => draymanref31_Find_l0_step (fun y1 y2 => k .ret (encSt [.dead, .dead, .dead, .dead, .dead, .dead, .ref 0 0, .bool, .dead, .dead, .dead, .dead, .dead, .dead, .dead, .dead, .dead, .dead, .dead, .dead, .dead, .dead, .dead, .dead, .dead, .dead, .dead, .dead, .dead, .dead, .dead, .dead, .dead, .dead, .dead, .dead] [] [.box [.int .i64, .int .i64, .int .i64, .int .i64, .int .i64, .int .i64]] [.b y1, .i y2.1, .i y2.2.1, .i y2.2.2.1, .i y2.2.2.2.1, .i y2.2.2.2.2.1, .i y2.2.2.2.2.2.1])) (fun y1 => k (.exit 0) (encSt [.dead, .dead, .dead, .dead, .dead, .dead, .ref 0 0, .dead, .dead, .dead, .dead, .dead, .dead, .dead, .dead, .dead, .dead, .dead, .dead, .dead, .dead, .dead, .dead, .dead, .dead, .dead, .dead, .dead, .dead, .dead, .dead, .dead, .dead, .dead, .dead, .dead] [] [.box [.int .i64, .int .i64, .int .i64, .int .i64, .int .i64, .int .i64]] [.i y1.1, .i y1.2.1, .i y1.2.2.1, .i y1.2.2.2.1, .i y1.2.2.2.2.1, .i y1.2.2.2.2.2.1])) r l4 saga5 step6 i7 x8) e
    have h3 : draymanref31_Find_l0_step (fun y1 y2 => k .ret (encSt [.dead, .dead, .dead, .dead, .dead, .dead, .ref 0 0, .bool, .dead, .dead, .dead, .dead, .dead, .dead, .dead, .dead, .dead, .dead, .dead, .dead, .dead, .dead, .dead, .dead, .dead, .dead, .dead, .dead, .dead, .dead, .dead, .dead, .dead, .dead, .dead, .dead] [] [.box [.int .i64, .int .i64, .int .i64, .int .i64, .int .i64, .int .i64]] [.b y1, .i y2.1, .i y2.2.1, .i y2.2.2.1, .i y2.2.2.2.1, .i y2.2.2.2.2.1, .i y2.2.2.2.2.2.1])) (fun y1 => k (.exit 0) (encSt [.dead, .dead, .dead, .dead, .dead, .dead, .ref 0 0, .dead, .dead, .dead, .dead, .dead, .dead, .dead, .dead, .dead, .dead, .dead, .dead, .dead, .dead, .dead, .dead, .dead, .dead, .dead, .dead, .dead, .dead, .dead, .dead, .dead, .dead, .dead, .dead, .dead] [] [.box [.int .i64, .int .i64, .int .i64, .int .i64, .int .i64, .int .i64]] [.i y1.1, .i y1.2.1, .i y1.2.2.1, .i y1.2.2.2.1, .i y1.2.2.2.2.1, .i y1.2.2.2.2.2.1])) (fun (l4 : Seq Z1) (saga5 : Int) (step6 : Int) (i7 : Int) (x8 : Int × Int × Int × Int × Int × Int × Unit) => draymanref31_Find_l0_run (fun y1 y2 => k .ret (encSt [.dead, .dead, .dead, .dead, .dead, .dead, .ref 0 0, .bool, .dead, .dead, .dead, .dead, .dead, .dead, .dead, .dead, .dead, .dead, .dead, .dead, .dead, .dead, .dead, .dead, .dead, .dead, .dead, .dead, .dead, .dead, .dead, .dead, .dead, .dead, .dead, .dead] [] [.box [.int .i64, .int .i64, .int .i64, .int .i64, .int .i64, .int .i64]] [.b y1, .i y2.1, .i y2.2.1, .i y2.2.2.1, .i y2.2.2.2.1, .i y2.2.2.2.2.1, .i y2.2.2.2.2.2.1])) (fun y1 => k (.exit 0) (encSt [.dead, .dead, .dead, .dead, .dead, .dead, .ref 0 0, .dead, .dead, .dead, .dead, .dead, .dead, .dead, .dead, .dead, .dead, .dead, .dead, .dead, .dead, .dead, .dead, .dead, .dead, .dead, .dead, .dead, .dead, .dead, .dead, .dead, .dead, .dead, .dead, .dead] [] [.box [.int .i64, .int .i64, .int .i64, .int .i64, .int .i64, .int .i64]] [.i y1.1, .i y1.2.1, .i y1.2.2.1, .i y1.2.2.2.1, .i y1.2.2.2.2.1, .i y1.2.2.2.2.2.1])) n l4 saga5 step6 i7 x8) l4 saga5 step6 i7 x8 = draymanref31_Find_l0_run (fun y1 y2 => k .ret (encSt [.dead, .dead, .dead, .dead, .dead, .dead, .ref 0 0, .bool, .dead, .dead, .dead, .dead, .dead, .dead, .dead, .dead, .dead, .dead, .dead, .dead, .dead, .dead, .dead, .dead, .dead, .dead, .dead, .dead, .dead, .dead, .dead, .dead, .dead, .dead, .dead, .dead] [] [.box [.int .i64, .int .i64, .int .i64, .int .i64, .int .i64, .int .i64]] [.b y1, .i y2.1, .i y2.2.1, .i y2.2.2.1, .i y2.2.2.2.1, .i y2.2.2.2.2.1, .i y2.2.2.2.2.2.1])) (fun y1 => k (.exit 0) (encSt [.dead, .dead, .dead, .dead, .dead, .dead, .ref 0 0, .dead, .dead, .dead, .dead, .dead, .dead, .dead, .dead, .dead, .dead, .dead, .dead, .dead, .dead, .dead, .dead, .dead, .dead, .dead, .dead, .dead, .dead, .dead, .dead, .dead, .dead, .dead, .dead, .dead] [] [.box [.int .i64, .int .i64, .int .i64, .int .i64, .int .i64, .int .i64]] [.i y1.1, .i y1.2.1, .i y1.2.2.1, .i y1.2.2.2.1, .i y1.2.2.2.2.1, .i y1.2.2.2.2.2.1])) (n + 1) l4 saga5 step6 i7 x8 := by kernel_rfl
    exact h1.trans (h2.trans h3)

theorem draymanref31_Find_l0_ok {α : Type} : (draymanref31_Find_l0_spec : LoopSpec α).ok Go.Proofs.Try.prog (envOf (draymanref31_Find_C) draymanref31_Find_q draymanref31_Find_inl 1000 draymanref31_Find_ann false (draymanref31_Find_loops) (fun _ => none)) := by
  intro ds k
  have h1 : draymanref31_Find_l0_ev 1000 (encSt draymanref31_Find_l0_t draymanref31_Find_l0_s draymanref31_Find_l0_h ds) k = draymanref31_Find_l0_ev 1000 (encSt draymanref31_Find_l0_t draymanref31_Find_l0_s draymanref31_Find_l0_h [.q (.int .i64 (.int .i64 (.int .i64 (.int .i64 (.int .i64 (.int .i64 (.nil))))))) (hdQ (.int .i64 (.int .i64 (.int .i64 (.int .i64 (.int .i64 (.int .i64 (.nil))))))) ds), .i (hdI ds.tail), .i (hdI ds.tail.tail), .i (hdI ds.tail.tail.tail), .i ((hdI ds.tail.tail.tail.tail, hdI ds.tail.tail.tail.tail.tail, hdI ds.tail.tail.tail.tail.tail.tail, hdI ds.tail.tail.tail.tail.tail.tail.tail, hdI ds.tail.tail.tail.tail.tail.tail.tail.tail, hdI ds.tail.tail.tail.tail.tail.tail.tail.tail.tail, ()).1), .i ((hdI ds.tail.tail.tail.tail, hdI ds.tail.tail.tail.tail.tail, hdI ds.tail.tail.tail.tail.tail.tail, hdI ds.tail.tail.tail.tail.tail.tail.tail, hdI ds.tail.tail.tail.tail.tail.tail.tail.tail, hdI ds.tail.tail.tail.tail.tail.tail.tail.tail.tail, ()).2.1), .i ((hdI ds.tail.tail.tail.tail, hdI ds.tail.tail.tail.tail.tail, hdI ds.tail.tail.tail.tail.tail.tail, hdI ds.tail.tail.tail.tail.tail.tail.tail, hdI ds.tail.tail.tail.tail.tail.tail.tail.tail, hdI ds.tail.tail.tail.tail.tail.tail.tail.tail.tail, ()).2.2.1), .i ((hdI ds.tail.tail.tail.tail, hdI ds.tail.tail.tail.tail.tail, hdI ds.tail.tail.tail.tail.tail.tail, hdI ds.tail.tail.tail.tail.tail.tail.tail, hdI ds.tail.tail.tail.tail.tail.tail.tail.tail, hdI ds.tail.tail.tail.tail.tail.tail.tail.tail.tail, ()).2.2.2.1), .i ((hdI ds.tail.tail.tail.tail, hdI ds.tail.tail.tail.tail.tail, hdI ds.tail.tail.tail.tail.tail.tail, hdI ds.tail.tail.tail.tail.tail.tail.tail, hdI ds.tail.tail.tail.tail.tail.tail.tail.tail, hdI ds.tail.tail.tail.tail.tail.tail.tail.tail.tail, ()).2.2.2.2.1), .i ((hdI ds.tail.tail.tail.tail, hdI ds.tail.tail.tail.tail.tail, hdI ds.tail.tail.tail.tail.tail.tail, hdI ds.tail.tail.tail.tail.tail.tail.tail, hdI ds.tail.tail.tail.tail.tail.tail.tail.tail, hdI ds.tail.tail.tail.tail.tail.tail.tail.tail.tail, ()).2.2.2.2.2.1)]) k := by kernel_rfl
  have h2 := draymanref31_Find_l0_eq 1000 (hdQ (.int .i64 (.int .i64 (.int .i64 (.int .i64 (.int .i64 (.int .i64 (.nil))))))) ds) (hdI ds.tail) (hdI ds.tail.tail) (hdI ds.tail.tail.tail) (hdI ds.tail.tail.tail.tail, hdI ds.tail.tail.tail.tail.tail, hdI ds.tail.tail.tail.tail.tail.tail, hdI ds.tail.tail.tail.tail.tail.tail.tail, hdI ds.tail.tail.tail.tail.tail.tail.tail.tail, hdI ds.tail.tail.tail.tail.tail.tail.tail.tail.tail, ()) k
  exact h1.trans h2

theorem draymanref31_Find_ev {α : Type} : EvOk (α := α) Go.Proofs.Try.prog (envOf (draymanref31_Find_C) draymanref31_Find_q draymanref31_Find_inl 1000 draymanref31_Find_ann false (draymanref31_Find_loops) (fun _ => none)) 6 (draymanref31_Find_sp (draymanref31_Find)) := by intro ds k; kernel_rfl

theorem draymanref31_Find_ok {α : Type} : (draymanref31_Find_spec : FunSpec α).ok Go.Proofs.Try.prog :=
  FunSpec.ok_of (sp := draymanref31_Find_spec) (C := draymanref31_Find_C) (q := draymanref31_Find_q) (inl := draymanref31_Find_inl) (N := 1000) (ann := draymanref31_Find_ann) (fr := false) (D := 6) (l := (draymanref31_Find_loops)) (hk := (fun _ => none)) okNil (lokCons (draymanref31_Find_l0_ok) lokNil) noHooks (draymanref31_Find_ev)

end
end Go.Rv.Try
