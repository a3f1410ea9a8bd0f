/- What the functions of the program compute, each with the proof that its code computes it. Written by a program (rvp2.py). -/
import Derived.Test.YtmoeohjaafpmgaaProg
import Derived.Test.YtmoeohjaafpmgaaRvP
import Derived.Test.YtmoeohjaafpmgaaE1

set_option linter.unusedVariables false
set_option maxRecDepth 100000
set_option maxHeartbeats 4000000
namespace Go.Rv.Try
open Go Go.Rv Go.RowKit
noncomputable section

-- drayman/carry.took

abbrev carry_took_T (α : Type) : Type := (Seq (Int × Int × Int × Bool × Unit)) → Z0 → ((Seq (Int × Int × Int × Bool × Unit)) → Option α) → Option α

noncomputable def carry_took_l0_step {α : Type} (slices_Concat_carry_Parcel_carry_Parcel : slices_Concat_carry_Parcel_carry_Parcel_T α) (k0 : Z0 → (Seq (Int × Int × Int × Bool × Unit)) → (Seq (Int × Int × Int × Bool × Unit)) → Option α) (rec : (Seq (Int × Int × Int × Bool × Unit)) → (Int) → (Int) → Z0 → (Seq (Int × Int × Int × Bool × Unit)) → (Seq (Int × Int × Int × Bool × Unit)) → Option α) (x4 : Seq (Int × Int × Int × Bool × Unit)) (x5 : Int) (x6 : Int) (x7 : Int × Int × Int × Bool × Int × Int × Bool × Unit) (q8 : Seq (Int × Int × Int × Bool × Unit)) (q9 : Seq (Int × Int × Int × Bool × Unit)) : Option α :=
  (cond (decide (x6 < x5))
    (cond ((decide ((0 : Int) ≤ x6)) && (decide (x6 < (x4.n : Int))))
      (cond (!(x4.g x6.toNat).2.2.2.1)
        (cond ((x4.g x6.toNat).2.1 == x7.2.1)
          (cond ((decide ((0 : Int) ≤ x6)) && (decide (x6 < (q9.n : Int))))
            (cond (Nat.blt x6.toNat q9.n)
              (rec x4 x5 (IntKind.i64.wrap (x6 + 1)) x7 q8 (⟨q9.nl, q9.n, (fun j => cond (Nat.beq j x6.toNat) ((q9.g j).1, (q9.g j).2.1, (q9.g j).2.2.1, ((x4.g x6.toNat).2.2.1 == x7.2.2.1), ()) (q9.g j))⟩ : Seq (Int × Int × Int × Bool × Unit)))
              none)
            none)
          (cond ((decide ((0 : Int) ≤ x6)) && (decide (x6 < (q9.n : Int))))
            (cond (Nat.blt x6.toNat q9.n)
              (rec x4 x5 (IntKind.i64.wrap (x6 + 1)) x7 q8 (⟨q9.nl, q9.n, (fun j => cond (Nat.beq j x6.toNat) ((q9.g j).1, (q9.g j).2.1, (q9.g j).2.2.1, false, ()) (q9.g j))⟩ : Seq (Int × Int × Int × Bool × Unit)))
              none)
            none))
        (cond ((decide ((0 : Int) ≤ x6)) && (decide (x6 < (q9.n : Int))))
          (cond (Nat.blt x6.toNat q9.n)
            (rec x4 x5 (IntKind.i64.wrap (x6 + 1)) x7 q8 (⟨q9.nl, q9.n, (fun j => cond (Nat.beq j x6.toNat) ((q9.g j).1, (q9.g j).2.1, (q9.g j).2.2.1, true, ()) (q9.g j))⟩ : Seq (Int × Int × Int × Bool × Unit)))
            none)
          none))
      none)
    (k0 x7 q8 q9))

noncomputable def carry_took_l0_run {α : Type} (slices_Concat_carry_Parcel_carry_Parcel : slices_Concat_carry_Parcel_carry_Parcel_T α) (k0 : Z0 → (Seq (Int × Int × Int × Bool × Unit)) → (Seq (Int × Int × Int × Bool × Unit)) → Option α) : Nat → (Seq (Int × Int × Int × Bool × Unit)) → (Int) → (Int) → Z0 → (Seq (Int × Int × Int × Bool × Unit)) → (Seq (Int × Int × Int × Bool × Unit)) → Option α
  | 0, _, _, _, _, _, _ => none
  | n + 1, x4, x5, x6, x7, q8, q9 => carry_took_l0_step slices_Concat_carry_Parcel_carry_Parcel k0 (fun x4 x5 x6 x7 q8 q9 => carry_took_l0_run slices_Concat_carry_Parcel_carry_Parcel k0 n x4 x5 x6 x7 q8 q9) x4 x5 x6 x7 q8 q9

noncomputable def carry_took_g {α : Type} (slices_Concat_carry_Parcel_carry_Parcel : slices_Concat_carry_Parcel_carry_Parcel_T α) (l1 : Seq (Int × Int × Int × Bool × Unit)) (x2 : Int × Int × Int × Bool × Int × Int × Bool × Unit) (k : (Seq (Int × Int × Int × Bool × Unit)) → Option α) : Option α :=
  (cond (!x2.2.2.2.1)
    (slices_Concat_carry_Parcel_carry_Parcel (⟨false, 2, (tSel [(l1, ()), ((⟨false, 1, (fun _ => ((IntKind.i64.wrap ((l1.n : Int) + 1)), x2.2.1, x2.2.2.1, false, ()))⟩ : Seq (Int × Int × Int × Bool × Unit)), ())] ((⟨true, 0, fun _ => (0, 0, 0, false, ())⟩ : Seq (Int × Int × Int × Bool × Unit)), ()))⟩ : Seq ((Seq (Int × Int × Int × Bool × Unit)) × Unit)) fun r3 =>
      (k r3))
    (cond (((decide ((0 : Int) ≤ (l1.n : Int))) && (decide ((l1.n : Int) ≤ (l1.n : Int)))) && (decide (((32 : Int) * (l1.n : Int)) ≤ 140737488355328)))
      (carry_took_l0_run slices_Concat_carry_Parcel_carry_Parcel
        (fun x10 q11 q12 =>
          (k q12))
        1000 l1 (l1.n : Int) 0 x2 (⟨true, 0, (fun _ => (0, 0, 0, false, ()))⟩ : Seq (Int × Int × Int × Bool × Unit)) (⟨false, (l1.n : Int).toNat, (tApp (min l1.n (l1.n : Int).toNat) l1.g (tShift (min l1.n (l1.n : Int).toNat) (fun _ => (0, 0, 0, false, ()))))⟩ : Seq (Int × Int × Int × Bool × Unit)))
      none))

noncomputable def carry_took {α : Type} : carry_took_T α := carry_took_g slices_Concat_carry_Parcel_carry_Parcel

noncomputable def carry_took_sp {α : Type} (carry_took : carry_took_T α) : FunSpec α := ⟨50, [.sl (.int .i64 (.int .i64 (.int .i64 (.bool (.nil))))), .agg [.int .i64, .int .i64, .int .i64, .bool, .int .i64, .int .i64, .bool]], [], fun ds k => carry_took (hdQ (.int .i64 (.int .i64 (.int .i64 (.bool (.nil))))) ds) (hdI ds.tail, hdI ds.tail.tail, hdI ds.tail.tail.tail, hdB ds.tail.tail.tail.tail, hdI ds.tail.tail.tail.tail.tail, hdI ds.tail.tail.tail.tail.tail.tail, hdB ds.tail.tail.tail.tail.tail.tail.tail, ()) (fun q1 => k (enc dep (.own 0) []).1 (encBs [.row true (.int .i64 (.int .i64 (.int .i64 (.bool (.nil)))))] [.q (.int .i64 (.int .i64 (.int .i64 (.bool (.nil))))) q1]).1)⟩

noncomputable def carry_took_spec {α : Type} : FunSpec α := carry_took_sp carry_took

noncomputable def carry_took_C {α : Type} (slices_Concat_carry_Parcel_carry_Parcel : slices_Concat_carry_Parcel_carry_Parcel_T α) : List (FunSpec α) := [slices_Concat_carry_Parcel_carry_Parcel_sp slices_Concat_carry_Parcel_carry_Parcel]

noncomputable def carry_took_q : FuncId → Bool := fun f => false

noncomputable def carry_took_inl : FuncId → Bool := fun f => false

noncomputable def carry_took_ann : FuncId → AnnT := fun f p => if f = 50 then (if p = [true, false, true, true, true, true] then ⟨[3, 5, 29, 30, 31], [1, 2], [5], [4], 0, [], []⟩ else ⟨[], [], [], [], 0, [], []⟩) else ⟨[], [], [], [], 0, [], []⟩

noncomputable def carry_took_l0_t : List Sh := [.dead, .dead, .dead, .ref 0 0, .dead, .own 2, .dead, .dead, .dead, .dead, .dead, .dead, .dead, .dead, .dead, .dead, .dead, .dead, .dead, .dead, .dead, .dead, .dead, .dead, .dead, .dead, .dead, .dead, .dead, .sl (.int .i64 (.int .i64 (.int .i64 (.bool (.nil))))), .int .i64, .int .i64, .dead, .dead, .dead, .dead, .dead, .dead, .dead, .dead, .dead, .dead, .dead, .dead, .dead, .dead, .dead, .dead, .dead, .dead, .dead, .dead, .dead, .dead, .dead, .dead, .dead, .dead]
noncomputable def carry_took_l0_s : List (List Sh) := []
noncomputable def carry_took_l0_h : List BSh := [.box [.int .i64, .int .i64, .int .i64, .bool, .int .i64, .int .i64, .bool], .row true (.int .i64 (.int .i64 (.int .i64 (.bool (.nil))))), .row true (.int .i64 (.int .i64 (.int .i64 (.bool (.nil)))))]

noncomputable def carry_took_l0_spec {α : Type} (slices_Concat_carry_Parcel_carry_Parcel : slices_Concat_carry_Parcel_carry_Parcel_T α) : LoopSpec α := ⟨6, 50, [true, false, true, true, true, true], carry_took_l0_t, carry_took_l0_s, carry_took_l0_h, fun ds k => carry_took_l0_run slices_Concat_carry_Parcel_carry_Parcel (fun y1 y2 y3 => k (.exit 0) (encSt [.dead, .dead, .dead, .dead, .dead, .own 2, .dead, .dead, .dead, .dead, .dead, .dead, .dead, .dead, .dead, .dead, .dead, .dead, .dead, .dead, .dead, .dead, .dead, .dead, .dead, .dead, .dead, .dead, .dead, .dead, .dead, .dead, .dead, .dead, .dead, .dead, .dead, .dead, .dead, .dead, .dead, .dead, .dead, .dead, .dead, .dead, .dead, .dead, .dead, .dead, .dead, .dead, .dead, .dead, .dead, .dead, .dead, .dead] [] [.box [.int .i64, .int .i64, .int .i64, .bool, .int .i64, .int .i64, .bool], .row true (.int .i64 (.int .i64 (.int .i64 (.bool (.nil))))), .row true (.int .i64 (.int .i64 (.int .i64 (.bool (.nil)))))] [.i y1.1, .i y1.2.1, .i y1.2.2.1, .b y1.2.2.2.1, .i y1.2.2.2.2.1, .i y1.2.2.2.2.2.1, .b y1.2.2.2.2.2.2.1, .q (.int .i64 (.int .i64 (.int .i64 (.bool (.nil))))) y2, .q (.int .i64 (.int .i64 (.int .i64 (.bool (.nil))))) y3])) 1000 (hdQ (.int .i64 (.int .i64 (.int .i64 (.bool (.nil))))) ds) (hdI ds.tail) (hdI ds.tail.tail) (hdI ds.tail.tail.tail, hdI ds.tail.tail.tail.tail, hdI ds.tail.tail.tail.tail.tail, hdB ds.tail.tail.tail.tail.tail.tail, hdI ds.tail.tail.tail.tail.tail.tail.tail, hdI ds.tail.tail.tail.tail.tail.tail.tail.tail, hdB ds.tail.tail.tail.tail.tail.tail.tail.tail.tail, ()) (hdQ (.int .i64 (.int .i64 (.int .i64 (.bool (.nil))))) ds.tail.tail.tail.tail.tail.tail.tail.tail.tail.tail) (hdQ (.int .i64 (.int .i64 (.int .i64 (.bool (.nil))))) ds.tail.tail.tail.tail.tail.tail.tail.tail.tail.tail.tail)⟩

noncomputable def carry_took_loops {α : Type} (slices_Concat_carry_Parcel_carry_Parcel : slices_Concat_carry_Parcel_carry_Parcel_T α) : List (LoopSpec α) := [carry_took_l0_spec slices_Concat_carry_Parcel_carry_Parcel]

noncomputable def carry_took_l0_ev {α : Type} (slices_Concat_carry_Parcel_carry_Parcel : slices_Concat_carry_Parcel_carry_Parcel_T α) (n : Nat) (st : St) (k : X → St → Option α) : Option α := loopN (evCode Go.Proofs.Try.prog (callD Go.Proofs.Try.prog (envOf (carry_took_C slices_Concat_carry_Parcel_carry_Parcel) carry_took_q carry_took_inl 1000 carry_took_ann false (carry_took_loops slices_Concat_carry_Parcel_carry_Parcel) (fun _ => none)) 6) (((envOf (carry_took_C slices_Concat_carry_Parcel_carry_Parcel) carry_took_q carry_took_inl 1000 carry_took_ann false (carry_took_loops slices_Concat_carry_Parcel_carry_Parcel) (fun _ => none)) : Env α).L 6 50) 1000 (carry_took_ann 50) (false :: [true, false, true, true, true, true]) (loopC Go.Proofs.Try.prog 50 [true, false, true, true, true, true])) ((carry_took_ann 50 [true, false, true, true, true, true]).head 3) ((carry_took_ann 50 [true, false, true, true, true, true]).leave 3) n st k

theorem carry_took_l0_eq {α : Type} (slices_Concat_carry_Parcel_carry_Parcel : slices_Concat_carry_Parcel_carry_Parcel_T α) : ∀ (n : Nat) (x4 : Seq (Int × Int × Int × Bool × Unit)) (x5 : Int) (x6 : Int) (x7 : Int × Int × Int × Bool × Int × Int × Bool × Unit) (q8 : Seq (Int × Int × Int × Bool × Unit)) (q9 : Seq (Int × Int × Int × Bool × Unit)) (k : X → St → Option α), carry_took_l0_ev slices_Concat_carry_Parcel_carry_Parcel n (encSt carry_took_l0_t carry_took_l0_s carry_took_l0_h [.q (.int .i64 (.int .i64 (.int .i64 (.bool (.nil))))) x4, .i x5, .i x6, .i x7.1, .i x7.2.1, .i x7.2.2.1, .b x7.2.2.2.1, .i x7.2.2.2.2.1, .i x7.2.2.2.2.2.1, .b x7.2.2.2.2.2.2.1, .q (.int .i64 (.int .i64 (.int .i64 (.bool (.nil))))) q8, .q (.int .i64 (.int .i64 (.int .i64 (.bool (.nil))))) q9]) k = carry_took_l0_run slices_Concat_carry_Parcel_carry_Parcel (fun y1 y2 y3 => k (.exit 0) (encSt [.dead, .dead, .dead, .dead, .dead, .own 2, .dead, .dead, .dead, .dead, .dead, .dead, .dead, .dead, .dead, .dead, .dead, .dead, .dead, .dead, .dead, .dead, .dead, .dead, .dead, .dead, .dead, .dead, .dead, .dead, .dead, .dead, .dead, .dead, .dead, .dead, .dead, .dead, .dead, .dead, .dead, .dead, .dead, .dead, .dead, .dead, .dead, .dead, .dead, .dead, .dead, .dead, .dead, .dead, .dead, .dead, .dead, .dead] [] [.box [.int .i64, .int .i64, .int .i64, .bool, .int .i64, .int .i64, .bool], .row true (.int .i64 (.int .i64 (.int .i64 (.bool (.nil))))), .row true (.int .i64 (.int .i64 (.int .i64 (.bool (.nil)))))] [.i y1.1, .i y1.2.1, .i y1.2.2.1, .b y1.2.2.2.1, .i y1.2.2.2.2.1, .i y1.2.2.2.2.2.1, .b y1.2.2.2.2.2.2.1, .q (.int .i64 (.int .i64 (.int .i64 (.bool (.nil))))) y2, .q (.int .i64 (.int .i64 (.int .i64 (.bool (.nil))))) y3])) n x4 x5 x6 x7 q8 q9 := by
  intro n
  induction n with
  | zero => intros; kernel_rfl
  | succ n ih =>
    intro x4 x5 x6 x7 q8 q9 k
    have e : (fun (x4 : Seq (Int × Int × Int × Bool × Unit)) (x5 : Int) (x6 : Int) (x7 : Int × Int × Int × Bool × Int × Int × Bool × Unit) (q8 : Seq (Int × Int × Int × Bool × Unit)) (q9 : Seq (Int × Int × Int × Bool × Unit)) => carry_took_l0_ev slices_Concat_carry_Parcel_carry_Parcel n (encSt carry_took_l0_t carry_took_l0_s carry_took_l0_h [.q (.int .i64 (.int .i64 (.int .i64 (.bool (.nil))))) x4, .i x5, .i x6, .i x7.1, .i x7.2.1, .i x7.2.2.1, .b x7.2.2.2.1, .i x7.2.2.2.2.1, .i x7.2.2.2.2.2.1, .b x7.2.2.2.2.2.2.1, .q (.int .i64 (.int .i64 (.int .i64 (.bool (.nil))))) q8, .q (.int .i64 (.int .i64 (.int .i64 (.bool (.nil))))) q9]) k) = (fun (x4 : Seq (Int × Int × Int × Bool × Unit)) (x5 : Int) (x6 : Int) (x7 : Int × Int × Int × Bool × Int × Int × Bool × Unit) (q8 : Seq (Int × Int × Int × Bool × Unit)) (q9 : Seq (Int × Int × Int × Bool × Unit)) => carry_took_l0_run slices_Concat_carry_Parcel_carry_Parcel (fun y1 y2 y3 => k (.exit 0) (encSt [.dead, .dead, .dead, .dead, .dead, .own 2, .dead, .dead, .dead, .dead, .dead, .dead, .dead, .dead, .dead, .dead, .dead, .dead, .dead, .dead, .dead, .dead, .dead, .dead, .dead, .dead, .dead, .dead, .dead, .dead, .dead, .dead, .dead, .dead, .dead, .dead, .dead, .dead, .dead, .dead, .dead, .dead, .dead, .dead, .dead, .dead, .dead, .dead, .dead, .dead, .dead, .dead, .dead, .dead, .dead, .dead, .dead, .dead] [] [.box [.int .i64, .int .i64, .int .i64, .bool, .int .i64, .int .i64, .bool], .row true (.int .i64 (.int .i64 (.int .i64 (.bool (.nil))))), .row true (.int .i64 (.int .i64 (.int .i64 (.bool (.nil)))))] [.i y1.1, .i y1.2.1, .i y1.2.2.1, .b y1.2.2.2.1, .i y1.2.2.2.2.1, .i y1.2.2.2.2.2.1, .b y1.2.2.2.2.2.2.1, .q (.int .i64 (.int .i64 (.int .i64 (.bool (.nil))))) y2, .q (.int .i64 (.int .i64 (.int .i64 (.bool (.nil))))) y3])) n x4 x5 x6 x7 q8 q9) := by
      funext x4 x5 x6 x7 q8 q9
      exact ih x4 x5 x6 x7 q8 q9 k
    have h1 : carry_took_l0_ev slices_Concat_carry_Parcel_carry_Parcel (n + 1) (encSt carry_took_l0_t carry_took_l0_s carry_took_l0_h [.q (.int .i64 (.int .i64 (.int .i64 (.bool (.nil))))) x4, .i x5, .i x6, .i x7.1, .i x7.2.1, .i x7.2.2.1, .b x7.2.2.2.1, .i x7.2.2.2.2.1, .i x7.2.2.2.2.2.1, .b x7.2.2.2.2.2.2.1, .q (.int .i64 (.int .i64 (.int .i64 (.bool (.nil))))) q8, .q (.int .i64 (.int .i64 (.int .i64 (.bool (.nil))))) q9]) k = carry_took_l0_step slices_Concat_carry_Parcel_carry_Parcel (fun y1 y2 y3 => k (.exit 0) (encSt [.dead, .dead, .dead, .dead, .dead, .own 2, .dead, .dead, .dead, .dead, .dead, .dead, .dead, .dead, .dead, .dead, .dead, .dead, .dead, .dead, .dead, .dead, .dead, .dead, .dead, .dead, .dead, .dead, .dead, .dead, .dead, .dead, .dead, .dead, .dead, .dead, .dead, .dead, .dead, .dead, .dead, .dead, .dead, .dead, .dead, .dead, .dead, .dead, .dead, .dead, .dead, .dead, .dead, .dead, .dead, .dead, .dead, .dead] [] [.box [.int .i64, .int .i64, .int .i64, .bool, .int .i64, .int .i64, .bool], .row true (.int .i64 (.int .i64 (.int .i64 (.bool (.nil))))), .row true (.int .i64 (.int .i64 (.int .i64 (.bool (.nil)))))] [.i y1.1, .i y1.2.1, .i y1.2.2.1, .b y1.2.2.2.1, .i y1.2.2.2.2.1, .i y1.2.2.2.2.2.1, .b y1.2.2.2.2.2.2.1, .q (.int .i64 (.int .i64 (.int .i64 (.bool (.nil))))) y2, .q (.int .i64 (.int .i64 (.int .i64 (.bool (.nil))))) y3])) (fun (x4 : Seq (Int × Int × Int × Bool × Unit)) (x5 : Int) (x6 : Int) (x7 : Int × Int × Int × Bool × Int × Int × Bool × Unit) (q8 : Seq (Int × Int × Int × Bool × Unit)) (q9 : Seq (Int × Int × Int × Bool × Unit)) => carry_took_l0_ev slices_Concat_carry_Parcel_carry_Parcel n (encSt carry_took_l0_t carry_took_l0_s carry_took_l0_h [.q (.int .i64 (.int .i64 (.int .i64 (.bool (.nil))))) x4, .i x5, .i x6, .i x7.1, .i x7.2.1, .i x7.2.2.1, .b x7.2.2.2.1, .i x7.2.2.2.2.1, .i x7.2.2.2.2.2.1, .b x7.2.2.2.2.2.2.1, .q (.int .i64 (.int .i64 (.int .i64 (.bool (.nil))))) q8, .q (.int .i64 (.int .i64 (.int .i64 (.bool (.nil))))) q9]) k) x4 x5 x6 x7 q8 q9 := by kernel_rfl
    have h2 := congrArg (fun r => carry_took_l0_step slices_Concat_carry_Parcel_carry_Parcel (fun y1 y2 y3 => k (.exit 0) (encSt [.dead, .dead, .dead, .dead, .dead, .own 2, .dead, .dead, .dead, .dead, .dead, .dead, .dead, .dead, .dead, .dead, .dead, .dead, .dead, .dead, .dead, .dead, .dead, .dead, .dead, .dead, .dead, .dead, .dead, .dead, .dead, .dead, .dead, .dead, .dead, .dead, .dead, .dead, .dead, .dead, .dead, .dead, .dead, .dead, .dead, .dead, .dead, .dead, .dead, .dead, .dead, .dead, .dead, .dead, .dead, .dead, .dead, .dead] [] [.box [.int .i64, .int .i64, .int .i64, .bool, .int .i64, .int .i64, .bool], .row true (.int .i64 (.int .i64 (.int .i64 (.bool (.nil))))), .row true (.int .i64 (.int .i64 (.int .i64 (.bool (.nil)))))] [.i y1.1, .i y1.2.1, .i y1.2.2.1, .b y1.2.2.2.1, .i y1.2.2.2.2.1, .i y1.2.2.2.2.2.1, .b y1.2.2.2.2.2.2.1, .q (.int .i64 (.int .i64 (.int .i64 (.bool (.nil))))) y2, .q (.int .i64 (.int .i64 (.int .i64 (.bool (.nil))))) y3])) r x4 x5 x6 x7 q8 q9) e
    have h3 : carry_took_l0_step slices_Concat_carry_Parcel_carry_Parcel (fun y1 y2 y3 => k (.exit 0) (encSt [.dead, .dead, .dead, .dead, .dead, .own 2, .dead, .dead, .dead, .dead, .dead, .dead, .dead, .dead, .dead, .dead, .dead, .dead, .dead, .dead, .dead, .dead, .dead, .dead, .dead, .dead, .dead, .dead, .dead, .dead, .dead, .dead, .dead, .dead, .dead, .dead, .dead, .dead, .dead, .dead, .dead, .dead, .dead, .dead, .dead, .dead, .dead, .dead, .dead, .dead, .dead, .dead, .dead, .dead, .dead, .dead, .dead, .dead] [] [.box [.int .i64, .int .i64, .int .i64, .bool, .int .i64, .int .i64, .bool], .row true (.int .i64 (.int .i64 (.int .i64 (.bool (.nil))))), .row true (.int .i64 (.int .i64 (.int .i64 (.bool (.nil)))))] [.i y1.1, .i y1.2.1, .i y1.2.2.1, .b y1.2.2.2.1, .i y1.2.2.2.2.1, .i y1.2.2.2.2.2.1, .b y1.2.2.2.2.2.2.1, .q (.int .i64 (.int .i64 (.int .i64 (.bool (.nil))))) y2, .q (.int .i64 (.int .i64 (.int .i64 (.bool (.nil))))) y3])) (fun (x4 : Seq (Int × Int × Int × Bool × Unit)) (x5 : Int) (x6 : Int) (x7 : Int × Int × Int × Bool × Int × Int × Bool × Unit) (q8 : Seq (Int × Int × Int × Bool × Unit)) (q9 : Seq (Int × Int × Int × Bool × Unit)) => carry_took_l0_run slices_Concat_carry_Parcel_carry_Parcel (fun y1 y2 y3 => k (.exit 0) (encSt [.dead, .dead, .dead, .dead, .dead, .own 2, .dead, .dead, .dead, .dead, .dead, .dead, .dead, .dead, .dead, .dead, .dead, .dead, .dead, .dead, .dead, .dead, .dead, .dead, .dead, .dead, .dead, .dead, .dead, .dead, .dead, .dead, .dead, .dead, .dead, .dead, .dead, .dead, .dead, .dead, .dead, .dead, .dead, .dead, .dead, .dead, .dead, .dead, .dead, .dead, .dead, .dead, .dead, .dead, .dead, .dead, .dead, .dead] [] [.box [.int .i64, .int .i64, .int .i64, .bool, .int .i64, .int .i64, .bool], .row true (.int .i64 (.int .i64 (.int .i64 (.bool (.nil))))), .row true (.int .i64 (.int .i64 (.int .i64 (.bool (.nil)))))] [.i y1.1, .i y1.2.1, .i y1.2.2.1, .b y1.2.2.2.1, .i y1.2.2.2.2.1, .i y1.2.2.2.2.2.1, .b y1.2.2.2.2.2.2.1, .q (.int .i64 (.int .i64 (.int .i64 (.bool (.nil))))) y2, .q (.int .i64 (.int .i64 (.int .i64 (.bool (.nil))))) y3])) n x4 x5 x6 x7 q8 q9) x4 x5 x6 x7 q8 q9 = carry_took_l0_run slices_Concat_carry_Parcel_carry_Parcel (fun y1 y2 y3 => k (.exit 0) (encSt [.dead, .dead, .dead, .dead, .dead, .own 2, .dead, .dead, .dead, .dead, .dead, .dead, .dead, .dead, .dead, .dead, .dead, .dead, .dead, .dead, .dead, .dead, .dead, .dead, .dead, .dead, .dead, .dead, .dead, .dead, .dead, .dead, .dead, .dead, .dead, .dead, .dead, .dead, .dead, .dead, .dead, .dead, .dead, .dead, .dead, .dead, .dead, .dead, .dead, .dead, .dead, .dead, .dead, .dead, .dead, .dead, .dead, .dead] [] [.box [.int .i64, .int .i64, .int .i64, .bool, .int .i64, .int .i64, .bool], .row true (.int .i64 (.int .i64 (.int .i64 (.bool (.nil))))), .row true (.int .i64 (.int .i64 (.int .i64 (.bool (.nil)))))] [.i y1.1, .i y1.2.1, .i y1.2.2.1, .b y1.2.2.2.1, .i y1.2.2.2.2.1, .i y1.2.2.2.2.2.1, .b y1.2.2.2.2.2.2.1, .q (.int .i64 (.int .i64 (.int .i64 (.bool (.nil))))) y2, .q (.int .i64 (.int .i64 (.int .i64 (.bool (.nil))))) y3])) (n + 1) x4 x5 x6 x7 q8 q9 := by kernel_rfl
    exact h1.trans (h2.trans h3)

theorem carry_took_l0_ok {α : Type} (slices_Concat_carry_Parcel_carry_Parcel : slices_Concat_carry_Parcel_carry_Parcel_T α) : (carry_took_l0_spec slices_Concat_carry_Parcel_carry_Parcel : LoopSpec α).ok Go.Proofs.Try.prog (envOf (carry_took_C slices_Concat_carry_Parcel_carry_Parcel) carry_took_q carry_took_inl 1000 carry_took_ann false (carry_took_loops slices_Concat_carry_Parcel_carry_Parcel) (fun _ => none)) := by
  intro ds k
  have h1 : carry_took_l0_ev slices_Concat_carry_Parcel_carry_Parcel 1000 (encSt carry_took_l0_t carry_took_l0_s carry_took_l0_h ds) k = carry_took_l0_ev slices_Concat_carry_Parcel_carry_Parcel 1000 (encSt carry_took_l0_t carry_took_l0_s carry_took_l0_h [.q (.int .i64 (.int .i64 (.int .i64 (.bool (.nil))))) (hdQ (.int .i64 (.int .i64 (.int .i64 (.bool (.nil))))) ds), .i (hdI ds.tail), .i (hdI ds.tail.tail), .i ((hdI ds.tail.tail.tail, hdI ds.tail.tail.tail.tail, hdI ds.tail.tail.tail.tail.tail, hdB ds.tail.tail.tail.tail.tail.tail, hdI ds.tail.tail.tail.tail.tail.tail.tail, hdI ds.tail.tail.tail.tail.tail.tail.tail.tail, hdB ds.tail.tail.tail.tail.tail.tail.tail.tail.tail, ()).1), .i ((hdI ds.tail.tail.tail, hdI ds.tail.tail.tail.tail, hdI ds.tail.tail.tail.tail.tail, hdB ds.tail.tail.tail.tail.tail.tail, hdI ds.tail.tail.tail.tail.tail.tail.tail, hdI ds.tail.tail.tail.tail.tail.tail.tail.tail, hdB ds.tail.tail.tail.tail.tail.tail.tail.tail.tail, ()).2.1), .i ((hdI ds.tail.tail.tail, hdI ds.tail.tail.tail.tail, hdI ds.tail.tail.tail.tail.tail, hdB ds.tail.tail.tail.tail.tail.tail, hdI ds.tail.tail.tail.tail.tail.tail.tail, hdI ds.tail.tail.tail.tail.tail.tail.tail.tail, hdB ds.tail.tail.tail.tail.tail.tail.tail.tail.tail, ()).2.2.1), .b ((hdI ds.tail.tail.tail, hdI ds.tail.tail.tail.tail, hdI ds.tail.tail.tail.tail.tail, hdB ds.tail.tail.tail.tail.tail.tail, hdI ds.tail.tail.tail.tail.tail.tail.tail, hdI ds.tail.tail.tail.tail.tail.tail.tail.tail, hdB ds.tail.tail.tail.tail.tail.tail.tail.tail.tail, ()).2.2.2.1), .i ((hdI ds.tail.tail.tail, hdI ds.tail.tail.tail.tail, hdI ds.tail.tail.tail.tail.tail, hdB ds.tail.tail.tail.tail.tail.tail, hdI ds.tail.tail.tail.tail.tail.tail.tail, hdI ds.tail.tail.tail.tail.tail.tail.tail.tail, hdB ds.tail.tail.tail.tail.tail.tail.tail.tail.tail, ()).2.2.2.2.1), .i ((hdI ds.tail.tail.tail, hdI ds.tail.tail.tail.tail, hdI ds.tail.tail.tail.tail.tail, hdB ds.tail.tail.tail.tail.tail.tail, hdI ds.tail.tail.tail.tail.tail.tail.tail, hdI ds.tail.tail.tail.tail.tail.tail.tail.tail, hdB ds.tail.tail.tail.tail.tail.tail.tail.tail.tail, ()).2.2.2.2.2.1), .b ((hdI ds.tail.tail.tail, hdI ds.tail.tail.tail.tail, hdI ds.tail.tail.tail.tail.tail, hdB ds.tail.tail.tail.tail.tail.tail, hdI ds.tail.tail.tail.tail.tail.tail.tail, hdI ds.tail.tail.tail.tail.tail.tail.tail.tail, hdB ds.tail.tail.tail.tail.tail.tail.tail.tail.tail, ()).2.2.2.2.2.2.1), .q (.int .i64 (.int .i64 (.int .i64 (.bool (.nil))))) (hdQ (.int .i64 (.int .i64 (.int .i64 (.bool (.nil))))) ds.tail.tail.tail.tail.tail.tail.tail.tail.tail.tail), .q (.int .i64 (.int .i64 (.int .i64 (.bool (.nil))))) (hdQ (.int .i64 (.int .i64 (.int .i64 (.bool (.nil))))) ds.tail.tail.tail.tail.tail.tail.tail.tail.tail.tail.tail)]) k := by kernel_rfl
  have h2 := carry_took_l0_eq slices_Concat_carry_Parcel_carry_Parcel 1000 (hdQ (.int .i64 (.int .i64 (.int .i64 (.bool (.nil))))) ds) (hdI ds.tail) (hdI ds.tail.tail) (hdI ds.tail.tail.tail, hdI ds.tail.tail.tail.tail, hdI ds.tail.tail.tail.tail.tail, hdB ds.tail.tail.tail.tail.tail.tail, hdI ds.tail.tail.tail.tail.tail.tail.tail, hdI ds.tail.tail.tail.tail.tail.tail.tail.tail, hdB ds.tail.tail.tail.tail.tail.tail.tail.tail.tail, ()) (hdQ (.int .i64 (.int .i64 (.int .i64 (.bool (.nil))))) ds.tail.tail.tail.tail.tail.tail.tail.tail.tail.tail) (hdQ (.int .i64 (.int .i64 (.int .i64 (.bool (.nil))))) ds.tail.tail.tail.tail.tail.tail.tail.tail.tail.tail.tail) k
  exact h1.trans h2

theorem carry_took_ev {α : Type} (slices_Concat_carry_Parcel_carry_Parcel : slices_Concat_carry_Parcel_carry_Parcel_T α) : EvOk (α := α) Go.Proofs.Try.prog (envOf (carry_took_C slices_Concat_carry_Parcel_carry_Parcel) carry_took_q carry_took_inl 1000 carry_took_ann false (carry_took_loops slices_Concat_carry_Parcel_carry_Parcel) (fun _ => none)) 6 (carry_took_sp (carry_took_g slices_Concat_carry_Parcel_carry_Parcel)) := by intro ds k; kernel_rfl

theorem carry_took_ok {α : Type} : (carry_took_spec : FunSpec α).ok Go.Proofs.Try.prog :=
  FunSpec.ok_of (sp := carry_took_spec) (C := carry_took_C slices_Concat_carry_Parcel_carry_Parcel) (q := carry_took_q) (inl := carry_took_inl) (N := 1000) (ann := carry_took_ann) (fr := false) (D := 6) (l := (carry_took_loops slices_Concat_carry_Parcel_carry_Parcel)) (hk := (fun _ => none)) (okCons slices_Concat_carry_Parcel_carry_Parcel_ok okNil) (lokCons (carry_took_l0_ok slices_Concat_carry_Parcel_carry_Parcel) lokNil) noHooks (carry_took_ev slices_Concat_carry_Parcel_carry_Parcel)

end
end Go.Rv.Try

set_option linter.unusedVariables false
set_option maxRecDepth 100000
set_option maxHeartbeats 4000000
namespace Go.Rv.Try
open Go Go.Rv Go.RowKit
noncomputable section

-- drayman/carry.Come

abbrev carry_Come_T (α : Type) : Type := ((Seq Z1) × Int × (Seq (Int × Int × Int × Bool × Unit)) × Unit) → Z0 → Int → (((Seq Z1) × Int × (Seq (Int × Int × Int × Bool × Unit)) × Unit) → (Int × Int × Int × Int × Bool × Int × Int × Unit) → Int → Option α) → Option α

noncomputable def carry_Come_g {α : Type} (carry_Fit : carry_Fit_T α) (outbox_Service : outbox_Service_T α) (keyed_Come : keyed_Come_T α) (slices_Clone_carry_Parcel_carry_Parcel : slices_Clone_carry_Parcel_carry_Parcel_T α) (carry_took : carry_took_T α) (x1 : (Seq Z1) × Int × (Seq (Int × Int × Int × Bool × Unit)) × Unit) (x2 : Int × Int × Int × Bool × Int × Int × Bool × Unit) (x3 : Int) (k : ((Seq Z1) × Int × (Seq (Int × Int × Int × Bool × Unit)) × Unit) → (Int × Int × Int × Int × Bool × Int × Int × Unit) → Int → Option α) : Option α :=
  (carry_Fit x1 fun r4 =>
    (cond (!r4)
      (k ((⟨true, 0, (fun _ => (0, 0, 0, 0, 0, 0, ()))⟩ : Seq Z1), 0, (⟨true, 0, (fun _ => (0, 0, 0, false, ()))⟩ : Seq (Int × Int × Int × Bool × Unit)), ()) (0, 0, 0, 0, false, 0, 0, ()) 12)
      (outbox_Service x2.2.2.2.2.1 fun r5 =>
        (cond (r5 != 2)
          (k ((⟨true, 0, (fun _ => (0, 0, 0, 0, 0, 0, ()))⟩ : Seq Z1), 0, (⟨true, 0, (fun _ => (0, 0, 0, false, ()))⟩ : Seq (Int × Int × Int × Bool × Unit)), ()) (0, 0, 0, 0, false, 0, 0, ()) 1)
          (keyed_Come x1.1 x2 x3 fun r6 r7 r8 r9 =>
            (cond (r8 == 0)
              (cond (x1.2.1 == 1099511627776)
                (k ((⟨true, 0, (fun _ => (0, 0, 0, 0, 0, 0, ()))⟩ : Seq Z1), 0, (⟨true, 0, (fun _ => (0, 0, 0, false, ()))⟩ : Seq (Int × Int × Int × Bool × Unit)), ()) (0, 0, 0, 0, false, 0, 0, ()) 5)
                (cond (r8 != 0)
                  (k ((⟨true, 0, (fun _ => (0, 0, 0, 0, 0, 0, ()))⟩ : Seq Z1), 0, (⟨true, 0, (fun _ => (0, 0, 0, false, ()))⟩ : Seq (Int × Int × Int × Bool × Unit)), ()) (0, 0, 0, 0, false, 0, 0, ()) r8)
                  (slices_Clone_carry_Parcel_carry_Parcel x1.2.2.1 fun r10 =>
                    (cond r7
                      (carry_took x1.2.2.1 x2 fun r11 =>
                        (k (r9, (IntKind.i64.wrap (x1.2.1 + 1)), r11, ()) (2, x1.2.1, x2.2.1, x2.2.2.1, x2.2.2.2.1, x2.1, r6, ()) 0))
                      (k (r9, (IntKind.i64.wrap (x1.2.1 + 1)), r10, ()) (2, x1.2.1, x2.2.1, x2.2.2.1, x2.2.2.2.1, x2.1, r6, ()) 0)))))
              (cond (r8 != 0)
                (k ((⟨true, 0, (fun _ => (0, 0, 0, 0, 0, 0, ()))⟩ : Seq Z1), 0, (⟨true, 0, (fun _ => (0, 0, 0, false, ()))⟩ : Seq (Int × Int × Int × Bool × Unit)), ()) (0, 0, 0, 0, false, 0, 0, ()) r8)
                (slices_Clone_carry_Parcel_carry_Parcel x1.2.2.1 fun r12 =>
                  (cond r7
                    (carry_took x1.2.2.1 x2 fun r13 =>
                      (k (r9, (IntKind.i64.wrap (x1.2.1 + 1)), r13, ()) (2, x1.2.1, x2.2.1, x2.2.2.1, x2.2.2.2.1, x2.1, r6, ()) 0))
                    (k (r9, (IntKind.i64.wrap (x1.2.1 + 1)), r12, ()) (2, x1.2.1, x2.2.1, x2.2.2.1, x2.2.2.2.1, x2.1, r6, ()) 0))))))))))

noncomputable def carry_Come {α : Type} : carry_Come_T α := carry_Come_g carry_Fit outbox_Service keyed_Come slices_Clone_carry_Parcel_carry_Parcel carry_took

noncomputable def carry_Come_sp {α : Type} (carry_Come : carry_Come_T α) : FunSpec α := ⟨22, [.agg [.sl (.int .i64 (.int .i64 (.int .i64 (.int .i64 (.int .i64 (.int .i64 (.nil))))))), .int .i64, .sl (.int .i64 (.int .i64 (.int .i64 (.bool (.nil)))))], .agg [.int .i64, .int .i64, .int .i64, .bool, .int .i64, .int .i64, .bool], .int .i64], [], fun ds k => carry_Come (hdQ (.int .i64 (.int .i64 (.int .i64 (.int .i64 (.int .i64 (.int .i64 (.nil))))))) ds, hdI ds.tail, hdQ (.int .i64 (.int .i64 (.int .i64 (.bool (.nil))))) ds.tail.tail, ()) (hdI ds.tail.tail.tail, hdI ds.tail.tail.tail.tail, hdI ds.tail.tail.tail.tail.tail, hdB ds.tail.tail.tail.tail.tail.tail, hdI ds.tail.tail.tail.tail.tail.tail.tail, hdI ds.tail.tail.tail.tail.tail.tail.tail.tail, hdB ds.tail.tail.tail.tail.tail.tail.tail.tail.tail, ()) (hdI ds.tail.tail.tail.tail.tail.tail.tail.tail.tail.tail) (fun r1 r2 r3 => k (enc dep (.tup [.agg [.sl (.int .i64 (.int .i64 (.int .i64 (.int .i64 (.int .i64 (.int .i64 (.nil))))))), .int .i64, .sl (.int .i64 (.int .i64 (.int .i64 (.bool (.nil)))))], .agg [.int .i64, .int .i64, .int .i64, .int .i64, .bool, .int .i64, .int .i64], .int .i64]) [.q (.int .i64 (.int .i64 (.int .i64 (.int .i64 (.int .i64 (.int .i64 (.nil))))))) r1.1, .i r1.2.1, .q (.int .i64 (.int .i64 (.int .i64 (.bool (.nil))))) r1.2.2.1, .i r2.1, .i r2.2.1, .i r2.2.2.1, .i r2.2.2.2.1, .b r2.2.2.2.2.1, .i r2.2.2.2.2.2.1, .i r2.2.2.2.2.2.2.1, .i r3]).1 [])⟩

noncomputable def carry_Come_spec {α : Type} : FunSpec α := carry_Come_sp carry_Come

noncomputable def carry_Come_C {α : Type} (carry_Fit : carry_Fit_T α) (outbox_Service : outbox_Service_T α) (keyed_Come : keyed_Come_T α) (slices_Clone_carry_Parcel_carry_Parcel : slices_Clone_carry_Parcel_carry_Parcel_T α) (carry_took : carry_took_T α) : List (FunSpec α) := [carry_Fit_sp carry_Fit, outbox_Service_sp outbox_Service, keyed_Come_sp keyed_Come, slices_Clone_carry_Parcel_carry_Parcel_sp slices_Clone_carry_Parcel_carry_Parcel, carry_took_sp carry_took]

noncomputable def carry_Come_q : FuncId → Bool := fun f => Nat.beq f 23 || Nat.beq f 33

noncomputable def carry_Come_inl : FuncId → Bool := fun f => false

noncomputable def carry_Come_ann : FuncId → AnnT := fun f p => if f = 22 then (if p = [false, true, true, true, true, true, true, true] then ⟨[0], [7, 6, 4, 2, 3, 5], [], [], 2, [], []⟩ else if p = [false, true, true, true, true, true] then ⟨[], [4], [], [], 2, [], []⟩ else ⟨[], [], [], [], 0, [], []⟩) else ⟨[], [], [], [], 0, [], []⟩

noncomputable def carry_Come_loops {α : Type} (carry_Fit : carry_Fit_T α) (outbox_Service : outbox_Service_T α) (keyed_Come : keyed_Come_T α) (slices_Clone_carry_Parcel_carry_Parcel : slices_Clone_carry_Parcel_carry_Parcel_T α) (carry_took : carry_took_T α) : List (LoopSpec α) := []

theorem carry_Come_ev {α : Type} (carry_Fit : carry_Fit_T α) (outbox_Service : outbox_Service_T α) (keyed_Come : keyed_Come_T α) (slices_Clone_carry_Parcel_carry_Parcel : slices_Clone_carry_Parcel_carry_Parcel_T α) (carry_took : carry_took_T α) : EvOk (α := α) Go.Proofs.Try.prog (envOf (carry_Come_C carry_Fit outbox_Service keyed_Come slices_Clone_carry_Parcel_carry_Parcel carry_took) carry_Come_q carry_Come_inl 1000 carry_Come_ann true (carry_Come_loops carry_Fit outbox_Service keyed_Come slices_Clone_carry_Parcel_carry_Parcel carry_took) (fun _ => none)) 6 (carry_Come_sp (carry_Come_g carry_Fit outbox_Service keyed_Come slices_Clone_carry_Parcel_carry_Parcel carry_took)) := by intro ds k; kernel_rfl

theorem carry_Come_ok {α : Type} : (carry_Come_spec : FunSpec α).ok Go.Proofs.Try.prog :=
  FunSpec.ok_of (sp := carry_Come_spec) (C := carry_Come_C carry_Fit outbox_Service keyed_Come slices_Clone_carry_Parcel_carry_Parcel carry_took) (q := carry_Come_q) (inl := carry_Come_inl) (N := 1000) (ann := carry_Come_ann) (fr := true) (D := 6) (l := (carry_Come_loops carry_Fit outbox_Service keyed_Come slices_Clone_carry_Parcel_carry_Parcel carry_took)) (hk := (fun _ => none)) (okCons carry_Fit_ok (okCons outbox_Service_ok (okCons keyed_Come_ok (okCons slices_Clone_carry_Parcel_carry_Parcel_ok (okCons carry_took_ok okNil))))) lokNil noHooks (carry_Come_ev carry_Fit outbox_Service keyed_Come slices_Clone_carry_Parcel_carry_Parcel carry_took)

end
end Go.Rv.Try

set_option linter.unusedVariables false
set_option maxRecDepth 100000
set_option maxHeartbeats 4000000
namespace Go.Rv.Try
open Go Go.Rv Go.RowKit
noncomputable section

-- drayman/carry.Out$1

abbrev carry_Out_1_T (α : Type) : Type := (Int × Int × Int × Bool × Unit) → (Bool → Option α) → Option α

noncomputable def carry_Out_1 {α : Type} (p1 : Int × Int × Int × Bool × Unit) (k : Bool → Option α) : Option α :=
  (k (!p1.2.2.2.1))

noncomputable def carry_Out_1_sp {α : Type} (carry_Out_1 : carry_Out_1_T α) : FunSpec α := ⟨48, [.agg [.int .i64, .int .i64, .int .i64, .bool]], [], fun ds k => carry_Out_1 (hdI ds, hdI ds.tail, hdI ds.tail.tail, hdB ds.tail.tail.tail, ()) (fun r1 => k (enc dep (.bool) [.b r1]).1 [])⟩

noncomputable def carry_Out_1_spec {α : Type} : FunSpec α := carry_Out_1_sp carry_Out_1

noncomputable def carry_Out_1_C {α : Type} : List (FunSpec α) := []

noncomputable def carry_Out_1_q : FuncId → Bool := fun f => false

noncomputable def carry_Out_1_inl : FuncId → Bool := fun f => false

noncomputable def carry_Out_1_ann : FuncId → AnnT := fun f p => ⟨[], [], [], [], 0, [], []⟩

noncomputable def carry_Out_1_loops {α : Type} : List (LoopSpec α) := []

theorem carry_Out_1_ev {α : Type} : EvOk (α := α) Go.Proofs.Try.prog (envOf (carry_Out_1_C) carry_Out_1_q carry_Out_1_inl 1000 carry_Out_1_ann false (carry_Out_1_loops) (fun _ => none)) 6 (carry_Out_1_sp (carry_Out_1)) := by intro ds k; kernel_rfl

theorem carry_Out_1_ok {α : Type} : (carry_Out_1_spec : FunSpec α).ok Go.Proofs.Try.prog :=
  FunSpec.ok_of (sp := carry_Out_1_spec) (C := carry_Out_1_C) (q := carry_Out_1_q) (inl := carry_Out_1_inl) (N := 1000) (ann := carry_Out_1_ann) (fr := false) (D := 6) (l := (carry_Out_1_loops)) (hk := (fun _ => none)) okNil lokNil noHooks (carry_Out_1_ev)

end
end Go.Rv.Try

set_option linter.unusedVariables false
set_option maxRecDepth 100000
set_option maxHeartbeats 4000000
namespace Go.Rv.Try
open Go Go.Rv Go.RowKit
noncomputable section

-- drayman/carry.count

abbrev carry_count_T (α : Type) : Type := (Seq (Int × Int × Int × Bool × Unit)) → (Int → Option α) → Option α

noncomputable def carry_count_l0_step {α : Type} (carry_Out_1 : carry_Out_1_T α) (k0 : (Int) → Option α) (rec : (Int) → (Seq (Int × Int × Int × Bool × Unit)) → (Int) → (Int) → Option α) (n2 : Int) (x3 : Seq (Int × Int × Int × Bool × Unit)) (x4 : Int) (x5 : Int) : Option α :=
  (cond (decide (x5 < x4))
    (cond ((decide ((0 : Int) ≤ x5)) && (decide (x5 < (x3.n : Int))))
      (carry_Out_1 (x3.g x5.toNat) fun r6 =>
        (cond r6
          (rec (IntKind.i64.wrap (n2 + 1)) x3 x4 (IntKind.i64.wrap (x5 + 1)))
          (rec n2 x3 x4 (IntKind.i64.wrap (x5 + 1)))))
      none)
    (k0 n2))

noncomputable def carry_count_l0_run {α : Type} (carry_Out_1 : carry_Out_1_T α) (k0 : (Int) → Option α) : Nat → (Int) → (Seq (Int × Int × Int × Bool × Unit)) → (Int) → (Int) → Option α
  | 0, _, _, _, _ => none
  | n + 1, n2, x3, x4, x5 => carry_count_l0_step carry_Out_1 k0 (fun n2 x3 x4 x5 => carry_count_l0_run carry_Out_1 k0 n n2 x3 x4 x5) n2 x3 x4 x5

noncomputable def carry_count_g {α : Type} (carry_Out_1 : carry_Out_1_T α) (l1 : Seq (Int × Int × Int × Bool × Unit)) (k : Int → Option α) : Option α :=
  (carry_count_l0_run carry_Out_1
    (fun x7 =>
      (k x7))
    1000 0 l1 (l1.n : Int) 0)

noncomputable def carry_count {α : Type} : carry_count_T α := carry_count_g carry_Out_1

noncomputable def carry_count_sp {α : Type} (carry_count : carry_count_T α) : FunSpec α := ⟨47, [.sl (.int .i64 (.int .i64 (.int .i64 (.bool (.nil))))), .func (.func 48) [] []], [], fun ds k => carry_count (hdQ (.int .i64 (.int .i64 (.int .i64 (.bool (.nil))))) ds) (fun r1 => k (enc dep (.int .i64) [.i r1]).1 [])⟩

noncomputable def carry_count_spec {α : Type} : FunSpec α := carry_count_sp carry_count

noncomputable def carry_count_C {α : Type} (carry_Out_1 : carry_Out_1_T α) : List (FunSpec α) := [carry_Out_1_sp carry_Out_1]

noncomputable def carry_count_q : FuncId → Bool := fun f => Nat.beq f 48

noncomputable def carry_count_inl : FuncId → Bool := fun f => false

noncomputable def carry_count_ann : FuncId → AnnT := fun f p => if f = 47 then (if p = [true, false, true, true] then ⟨[1, 5, 8, 9, 10], [], [5], [4], 0, [], []⟩ else ⟨[], [], [], [], 0, [], []⟩) else ⟨[], [], [], [], 0, [], []⟩

noncomputable def carry_count_l0_t : List Sh := [.dead, .func (.func 48) [] [], .dead, .dead, .dead, .int .i64, .dead, .dead, .sl (.int .i64 (.int .i64 (.int .i64 (.bool (.nil))))), .int .i64, .int .i64, .dead, .dead, .dead, .dead, .dead, .dead, .dead, .dead, .dead, .dead]
noncomputable def carry_count_l0_s : List (List Sh) := []
noncomputable def carry_count_l0_h : List BSh := []

noncomputable def carry_count_l0_spec {α : Type} (carry_Out_1 : carry_Out_1_T α) : LoopSpec α := ⟨6, 47, [true, false, true, true], carry_count_l0_t, carry_count_l0_s, carry_count_l0_h, fun ds k => carry_count_l0_run carry_Out_1 (fun y1 => k (.exit 0) (encSt [.dead, .dead, .dead, .dead, .dead, .int .i64, .dead, .dead, .dead, .dead, .dead, .dead, .dead, .dead, .dead, .dead, .dead, .dead, .dead, .dead, .dead] [] [] [.i y1])) 1000 (hdI ds) (hdQ (.int .i64 (.int .i64 (.int .i64 (.bool (.nil))))) ds.tail) (hdI ds.tail.tail) (hdI ds.tail.tail.tail)⟩

noncomputable def carry_count_loops {α : Type} (carry_Out_1 : carry_Out_1_T α) : List (LoopSpec α) := [carry_count_l0_spec carry_Out_1]

noncomputable def carry_count_l0_ev {α : Type} (carry_Out_1 : carry_Out_1_T α) (n : Nat) (st : St) (k : X → St → Option α) : Option α := loopN (evCode Go.Proofs.Try.prog (callD Go.Proofs.Try.prog (envOf (carry_count_C carry_Out_1) carry_count_q carry_count_inl 1000 carry_count_ann false (carry_count_loops carry_Out_1) (fun _ => none)) 6) (((envOf (carry_count_C carry_Out_1) carry_count_q carry_count_inl 1000 carry_count_ann false (carry_count_loops carry_Out_1) (fun _ => none)) : Env α).L 6 47) 1000 (carry_count_ann 47) (false :: [true, false, true, true]) (loopC Go.Proofs.Try.prog 47 [true, false, true, true])) ((carry_count_ann 47 [true, false, true, true]).head 0) ((carry_count_ann 47 [true, false, true, true]).leave 0) n st k

theorem carry_count_l0_eq {α : Type} (carry_Out_1 : carry_Out_1_T α) : ∀ (n : Nat) (n2 : Int) (x3 : Seq (Int × Int × Int × Bool × Unit)) (x4 : Int) (x5 : Int) (k : X → St → Option α), carry_count_l0_ev carry_Out_1 n (encSt carry_count_l0_t carry_count_l0_s carry_count_l0_h [.i n2, .q (.int .i64 (.int .i64 (.int .i64 (.bool (.nil))))) x3, .i x4, .i x5]) k = carry_count_l0_run carry_Out_1 (fun y1 => k (.exit 0) (encSt [.dead, .dead, .dead, .dead, .dead, .int .i64, .dead, .dead, .dead, .dead, .dead, .dead, .dead, .dead, .dead, .dead, .dead, .dead, .dead, .dead, .dead] [] [] [.i y1])) n n2 x3 x4 x5 := by
  intro n
  induction n with
  | zero => intros; kernel_rfl
  | succ n ih =>
    intro n2 x3 x4 x5 k
    have e : (fun (n2 : Int) (x3 : Seq (Int × Int × Int × Bool × Unit)) (x4 : Int) (x5 : Int) => carry_count_l0_ev carry_Out_1 n (encSt carry_count_l0_t carry_count_l0_s carry_count_l0_h [.i n2, .q (.int .i64 (.int .i64 (.int .i64 (.bool (.nil))))) x3, .i x4, .i x5]) k) = (fun (n2 : Int) (x3 : Seq (Int × Int × Int × Bool × Unit)) (x4 : Int) (x5 : Int) => carry_count_l0_run carry_Out_1 (fun y1 => k (.exit 0) (encSt [.dead, .dead, .dead, .dead, .dead, .int .i64, .dead, .dead, .dead, .dead, .dead, .dead, .dead, .dead, .dead, .dead, .dead, .dead, .dead, .dead, .dead] [] [] [.i y1])) n n2 x3 x4 x5) := by
      funext n2 x3 x4 x5
      exact ih n2 x3 x4 x5 k
    have h1 : carry_count_l0_ev carry_Out_1 (n + 1) (encSt carry_count_l0_t carry_count_l0_s carry_count_l0_h [.i n2, .q (.int .i64 (.int .i64 (.int .i64 (.bool (.nil))))) x3, .i x4, .i x5]) k = carry_count_l0_step carry_Out_1 (fun y1 => k (.exit 0) (encSt [.dead, .dead, .dead, .dead, .dead, .int .i64, .dead, .dead, .dead, .dead, .dead, .dead, .dead, .dead, .dead, .dead, .dead, .dead, .dead, .dead, .dead] [] [] [.i y1])) (fun (n2 : Int) (x3 : Seq (Int × Int × Int × Bool × Unit)) (x4 : Int) (x5 : Int) => carry_count_l0_ev carry_Out_1 n (encSt carry_count_l0_t carry_count_l0_s carry_count_l0_h [.i n2, .q (.int .i64 (.int .i64 (.int .i64 (.bool (.nil))))) x3, .i x4, .i x5]) k) n2 x3 x4 x5 := by kernel_rfl
    have h2 := congrArg (fun r => carry_count_l0_step carry_Out_1 (fun y1 => k (.exit 0) (encSt [.dead, .dead, .dead, .dead, .dead, .int .i64, .dead, .dead, .dead, .dead, .dead, .dead, .dead, .dead, .dead, .dead, .dead, .dead, .dead, .dead, .dead] [] [] [.i y1])) r n2 x3 x4 x5) e
    have h3 : carry_count_l0_step carry_Out_1 (fun y1 => k (.exit 0) (encSt [.dead, .dead, .dead, .dead, .dead, .int .i64, .dead, .dead, .dead, .dead, .dead, .dead, .dead, .dead, .dead, .dead, .dead, .dead, .dead, .dead, .dead] [] [] [.i y1])) (fun (n2 : Int) (x3 : Seq (Int × Int × Int × Bool × Unit)) (x4 : Int) (x5 : Int) => carry_count_l0_run carry_Out_1 (fun y1 => k (.exit 0) (encSt [.dead, .dead, .dead, .dead, .dead, .int .i64, .dead, .dead, .dead, .dead, .dead, .dead, .dead, .dead, .dead, .dead, .dead, .dead, .dead, .dead, .dead] [] [] [.i y1])) n n2 x3 x4 x5) n2 x3 x4 x5 = carry_count_l0_run carry_Out_1 (fun y1 => k (.exit 0) (encSt [.dead, .dead, .dead, .dead, .dead, .int .i64, .dead, .dead, .dead, .dead, .dead, .dead, .dead, .dead, .dead, .dead, .dead, .dead, .dead, .dead, .dead] [] [] [.i y1])) (n + 1) n2 x3 x4 x5 := by kernel_rfl
    exact h1.trans (h2.trans h3)

theorem carry_count_l0_ok {α : Type} (carry_Out_1 : carry_Out_1_T α) : (carry_count_l0_spec carry_Out_1 : LoopSpec α).ok Go.Proofs.Try.prog (envOf (carry_count_C carry_Out_1) carry_count_q carry_count_inl 1000 carry_count_ann false (carry_count_loops carry_Out_1) (fun _ => none)) := by
  intro ds k
  have h1 : carry_count_l0_ev carry_Out_1 1000 (encSt carry_count_l0_t carry_count_l0_s carry_count_l0_h ds) k = carry_count_l0_ev carry_Out_1 1000 (encSt carry_count_l0_t carry_count_l0_s carry_count_l0_h [.i (hdI ds), .q (.int .i64 (.int .i64 (.int .i64 (.bool (.nil))))) (hdQ (.int .i64 (.int .i64 (.int .i64 (.bool (.nil))))) ds.tail), .i (hdI ds.tail.tail), .i (hdI ds.tail.tail.tail)]) k := by kernel_rfl
  have h2 := carry_count_l0_eq carry_Out_1 1000 (hdI ds) (hdQ (.int .i64 (.int .i64 (.int .i64 (.bool (.nil))))) ds.tail) (hdI ds.tail.tail) (hdI ds.tail.tail.tail) k
  exact h1.trans h2

theorem carry_count_ev {α : Type} (carry_Out_1 : carry_Out_1_T α) : EvOk (α := α) Go.Proofs.Try.prog (envOf (carry_count_C carry_Out_1) carry_count_q carry_count_inl 1000 carry_count_ann false (carry_count_loops carry_Out_1) (fun _ => none)) 6 (carry_count_sp (carry_count_g carry_Out_1)) := by intro ds k; kernel_rfl

theorem carry_count_ok {α : Type} : (carry_count_spec : FunSpec α).ok Go.Proofs.Try.prog :=
  FunSpec.ok_of (sp := carry_count_spec) (C := carry_count_C carry_Out_1) (q := carry_count_q) (inl := carry_count_inl) (N := 1000) (ann := carry_count_ann) (fr := false) (D := 6) (l := (carry_count_loops carry_Out_1)) (hk := (fun _ => none)) (okCons carry_Out_1_ok okNil) (lokCons (carry_count_l0_ok carry_Out_1) lokNil) noHooks (carry_count_ev carry_Out_1)

end
end Go.Rv.Try

set_option linter.unusedVariables false
set_option maxRecDepth 100000
set_option maxHeartbeats 4000000
namespace Go.Rv.Try
open Go Go.Rv Go.RowKit
noncomputable section

-- drayman/carry.Out

abbrev carry_Out_T (α : Type) : Type := ((Seq Z1) × Int × (Seq (Int × Int × Int × Bool × Unit)) × Unit) → (Int → Option α) → Option α

noncomputable def carry_Out_g {α : Type} (carry_count : carry_count_T α) (d1 : (Seq Z1) × Int × (Seq (Int × Int × Int × Bool × Unit)) × Unit) (k : Int → Option α) : Option α :=
  (carry_count d1.2.2.1 fun r2 =>
    (k r2))

noncomputable def carry_Out {α : Type} : carry_Out_T α := carry_Out_g carry_count

noncomputable def carry_Out_sp {α : Type} (carry_Out : carry_Out_T α) : FunSpec α := ⟨21, [.agg [.sl (.int .i64 (.int .i64 (.int .i64 (.int .i64 (.int .i64 (.int .i64 (.nil))))))), .int .i64, .sl (.int .i64 (.int .i64 (.int .i64 (.bool (.nil)))))]], [], fun ds k => carry_Out (hdQ (.int .i64 (.int .i64 (.int .i64 (.int .i64 (.int .i64 (.int .i64 (.nil))))))) ds, hdI ds.tail, hdQ (.int .i64 (.int .i64 (.int .i64 (.bool (.nil))))) ds.tail.tail, ()) (fun r1 => k (enc dep (.int .i64) [.i r1]).1 [])⟩

noncomputable def carry_Out_spec {α : Type} : FunSpec α := carry_Out_sp carry_Out

noncomputable def carry_Out_C {α : Type} (carry_count : carry_count_T α) : List (FunSpec α) := [carry_count_sp carry_count]

noncomputable def carry_Out_q : FuncId → Bool := fun f => Nat.beq f 47

noncomputable def carry_Out_inl : FuncId → Bool := fun f => false

noncomputable def carry_Out_ann : FuncId → AnnT := fun f p => ⟨[], [], [], [], 0, [], []⟩

noncomputable def carry_Out_loops {α : Type} (carry_count : carry_count_T α) : List (LoopSpec α) := []

theorem carry_Out_ev {α : Type} (carry_count : carry_count_T α) : EvOk (α := α) Go.Proofs.Try.prog (envOf (carry_Out_C carry_count) carry_Out_q carry_Out_inl 1000 carry_Out_ann false (carry_Out_loops carry_count) (fun _ => none)) 6 (carry_Out_sp (carry_Out_g carry_count)) := by intro ds k; kernel_rfl

theorem carry_Out_ok {α : Type} : (carry_Out_spec : FunSpec α).ok Go.Proofs.Try.prog :=
  FunSpec.ok_of (sp := carry_Out_spec) (C := carry_Out_C carry_count) (q := carry_Out_q) (inl := carry_Out_inl) (N := 1000) (ann := carry_Out_ann) (fr := false) (D := 6) (l := (carry_Out_loops carry_count)) (hk := (fun _ => none)) (okCons carry_count_ok okNil) lokNil noHooks (carry_Out_ev carry_count)

end
end Go.Rv.Try

set_option linter.unusedVariables false
set_option maxRecDepth 100000
set_option maxHeartbeats 4000000
namespace Go.Rv.Try
open Go Go.Rv Go.RowKit
noncomputable section

-- drayman/draymanlaw33.awake

abbrev draymanlaw33_awake_T (α : Type) : Type := (Bool → Option α) → Option α

noncomputable def draymanlaw33_awake_g {α : Type} (carry_New : carry_New_T α) (carry_Come : carry_Come_T α) (carry_Out : carry_Out_T α) (carry_Fit : carry_Fit_T α) (k : Bool → Option α) : Option α :=
  (carry_New fun r1 =>
    (carry_Come r1 (1, 1, 0, false, 4, 5, false, ()) 1 fun r2 r3 r4 =>
      (carry_Come r2 (1, 1, 0, true, 4, 5, false, ()) 1 fun r5 r6 r7 =>
        (cond (r4 == 0)
          (cond (r7 == 0)
            (cond ((r2.2.2.1.n : Int) == 1)
              (cond (decide ((0 : Int) < (r2.2.2.1.n : Int)))
                (cond ((r2.2.2.1.g 0).1 == 1)
                  (cond (r3.2.2.2.2.2.2.1 == 1)
                    (carry_Out r2 fun r8 =>
                      (cond (r8 == 1)
                        (carry_Out r5 fun r9 =>
                          (cond (r9 == 0)
                            (cond r6.2.2.2.2.1
                              (carry_Fit r5 fun r10 =>
                                (k r10))
                              (k false))
                            (k false)))
                        (k false)))
                    (k false))
                  (k false))
                none)
              (k false))
            (k false))
          (k false)))))

noncomputable def draymanlaw33_awake {α : Type} : draymanlaw33_awake_T α := draymanlaw33_awake_g carry_New carry_Come carry_Out carry_Fit

noncomputable def draymanlaw33_awake_sp {α : Type} (draymanlaw33_awake : draymanlaw33_awake_T α) : FunSpec α := ⟨19, [], [], fun ds k => draymanlaw33_awake  (fun r1 => k (enc dep (.bool) [.b r1]).1 [])⟩

noncomputable def draymanlaw33_awake_spec {α : Type} : FunSpec α := draymanlaw33_awake_sp draymanlaw33_awake

noncomputable def draymanlaw33_awake_C {α : Type} (carry_New : carry_New_T α) (carry_Come : carry_Come_T α) (carry_Out : carry_Out_T α) (carry_Fit : carry_Fit_T α) : List (FunSpec α) := [carry_New_sp carry_New, carry_Come_sp carry_Come, carry_Out_sp carry_Out, carry_Fit_sp carry_Fit]

noncomputable def draymanlaw33_awake_q : FuncId → Bool := fun f => Nat.beq f 21 || Nat.beq f 23

noncomputable def draymanlaw33_awake_inl : FuncId → Bool := fun f => false

noncomputable def draymanlaw33_awake_ann : FuncId → AnnT := fun f p => if f = 19 then (if p = [false, true, true] then ⟨[], [], [], [], 2, [], []⟩ else ⟨[], [], [], [], 0, [], []⟩) else ⟨[], [], [], [], 0, [], []⟩

noncomputable def draymanlaw33_awake_loops {α : Type} (carry_New : carry_New_T α) (carry_Come : carry_Come_T α) (carry_Out : carry_Out_T α) (carry_Fit : carry_Fit_T α) : List (LoopSpec α) := []

theorem draymanlaw33_awake_ev {α : Type} (carry_New : carry_New_T α) (carry_Come : carry_Come_T α) (carry_Out : carry_Out_T α) (carry_Fit : carry_Fit_T α) : EvOk (α := α) Go.Proofs.Try.prog (envOf (draymanlaw33_awake_C carry_New carry_Come carry_Out carry_Fit) draymanlaw33_awake_q draymanlaw33_awake_inl 1000 draymanlaw33_awake_ann false (draymanlaw33_awake_loops carry_New carry_Come carry_Out carry_Fit) (fun _ => none)) 6 (draymanlaw33_awake_sp (draymanlaw33_awake_g carry_New carry_Come carry_Out carry_Fit)) := by intro ds k; kernel_rfl

theorem draymanlaw33_awake_ok {α : Type} : (draymanlaw33_awake_spec : FunSpec α).ok Go.Proofs.Try.prog :=
  FunSpec.ok_of (sp := draymanlaw33_awake_spec) (C := draymanlaw33_awake_C carry_New carry_Come carry_Out carry_Fit) (q := draymanlaw33_awake_q) (inl := draymanlaw33_awake_inl) (N := 1000) (ann := draymanlaw33_awake_ann) (fr := false) (D := 6) (l := (draymanlaw33_awake_loops carry_New carry_Come carry_Out carry_Fit)) (hk := (fun _ => none)) (okCons carry_New_ok (okCons carry_Come_ok (okCons carry_Out_ok (okCons carry_Fit_ok okNil)))) lokNil noHooks (draymanlaw33_awake_ev carry_New carry_Come carry_Out carry_Fit)

end
end Go.Rv.Try
