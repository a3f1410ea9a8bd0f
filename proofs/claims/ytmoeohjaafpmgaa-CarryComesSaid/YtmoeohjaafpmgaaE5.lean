/- What the functions of the program compute, each with the proof that its code computes it. Written by a program (rvp2.py). -/
import Derived.Test.YtmoeohjaafpmgaaProg
import Derived.Test.YtmoeohjaafpmgaaRvP
import Derived.Test.YtmoeohjaafpmgaaE4

set_option linter.unusedVariables false
set_option maxRecDepth 100000
set_option maxHeartbeats 4000000
namespace Go.Rv.Try
open Go Go.Rv Go.RowKit
noncomputable section

-- slices.Equal[[]drayman/api.Key,drayman/api.Key]

abbrev slices_Equal_api_Key_api_Key_T (α : Type) : Type := (Seq Z1) → (Seq Z1) → (Bool → Option α) → Option α

noncomputable def slices_Equal_api_Key_api_Key_l0_step {α : Type} (kr : (Bool) → Option α) (k0 : Option α) (rec : (Seq Z1) → (Seq Z1) → (Int) → (Int) → Option α) (x3 : Seq Z1) (x4 : Seq Z1) (x5 : Int) (x6 : Int) : Option α :=
  (cond (decide (x6 < x5))
    (cond (((decide ((0 : Int) ≤ x6)) && (decide (x6 < (x3.n : Int)))) && ((decide ((0 : Int) ≤ x6)) && (decide (x6 < (x3.n : Int)))))
      (cond (((decide ((0 : Int) ≤ x6)) && (decide (x6 < (x4.n : Int)))) && ((decide ((0 : Int) ≤ x6)) && (decide (x6 < (x4.n : Int)))))
        (cond (!(((x3.g x6.toNat).1 == (x4.g x6.toNat).1) && (((x3.g x6.toNat).2.1 == (x4.g x6.toNat).2.1) && (((x3.g x6.toNat).2.2.1 == (x4.g x6.toNat).2.2.1) && (((x3.g x6.toNat).2.2.2.1 == (x4.g x6.toNat).2.2.2.1) && (((x3.g x6.toNat).2.2.2.2.1 == (x4.g x6.toNat).2.2.2.2.1) && (((x3.g x6.toNat).2.2.2.2.2.1 == (x4.g x6.toNat).2.2.2.2.2.1) && true)))))))
          (kr false)
          (rec x3 x4 x5 (IntKind.i64.wrap (x6 + 1))))
        none)
      none)
    (k0))

noncomputable def slices_Equal_api_Key_api_Key_l0_run {α : Type} (kr : (Bool) → Option α) (k0 : Option α) : Nat → (Seq Z1) → (Seq Z1) → (Int) → (Int) → Option α
  | 0, _, _, _, _ => none
  | n + 1, x3, x4, x5, x6 => slices_Equal_api_Key_api_Key_l0_step kr k0 (fun x3 x4 x5 x6 => slices_Equal_api_Key_api_Key_l0_run kr k0 n x3 x4 x5 x6) x3 x4 x5 x6

noncomputable def slices_Equal_api_Key_api_Key {α : Type} (x1 : Seq Z1) (x2 : Seq Z1) (k : Bool → Option α) : Option α :=
  (cond ((x1.n : Int) != (x2.n : Int))
    (k false)
    (slices_Equal_api_Key_api_Key_l0_run
      (fun x7 =>
        (k x7))
      ((k true))
      1000 x1 x2 (x1.n : Int) 0))

noncomputable def slices_Equal_api_Key_api_Key_sp {α : Type} (slices_Equal_api_Key_api_Key : slices_Equal_api_Key_api_Key_T α) : FunSpec α := ⟨45, [.sl (.int .i64 (.int .i64 (.int .i64 (.int .i64 (.int .i64 (.int .i64 (.nil))))))), .sl (.int .i64 (.int .i64 (.int .i64 (.int .i64 (.int .i64 (.int .i64 (.nil)))))))], [], fun ds k => slices_Equal_api_Key_api_Key (hdQ (.int .i64 (.int .i64 (.int .i64 (.int .i64 (.int .i64 (.int .i64 (.nil))))))) ds) (hdQ (.int .i64 (.int .i64 (.int .i64 (.int .i64 (.int .i64 (.int .i64 (.nil))))))) ds.tail) (fun r1 => k (enc dep (.bool) [.b r1]).1 [])⟩

noncomputable def slices_Equal_api_Key_api_Key_spec {α : Type} : FunSpec α := slices_Equal_api_Key_api_Key_sp slices_Equal_api_Key_api_Key

noncomputable def slices_Equal_api_Key_api_Key_C {α : Type} : List (FunSpec α) := []

noncomputable def slices_Equal_api_Key_api_Key_q : FuncId → Bool := fun f => false

noncomputable def slices_Equal_api_Key_api_Key_inl : FuncId → Bool := fun f => false

noncomputable def slices_Equal_api_Key_api_Key_ann : FuncId → AnnT := fun f p => if f = 45 then (if p = [true, false, true, true] then ⟨[0, 1, 12, 13], [], [], [4], 0, [], []⟩ else ⟨[], [], [], [], 0, [], []⟩) else ⟨[], [], [], [], 0, [], []⟩

noncomputable def slices_Equal_api_Key_api_Key_l0_t : List Sh := [.sl (.int .i64 (.int .i64 (.int .i64 (.int .i64 (.int .i64 (.int .i64 (.nil))))))), .sl (.int .i64 (.int .i64 (.int .i64 (.int .i64 (.int .i64 (.int .i64 (.nil))))))), .dead, .dead, .dead, .dead, .dead, .dead, .dead, .dead, .dead, .dead, .int .i64, .int .i64, .dead, .dead, .dead, .dead, .dead, .dead, .dead, .dead, .dead, .dead, .dead, .dead]
noncomputable def slices_Equal_api_Key_api_Key_l0_s : List (List Sh) := []
noncomputable def slices_Equal_api_Key_api_Key_l0_h : List BSh := []

noncomputable def slices_Equal_api_Key_api_Key_l0_spec {α : Type} : LoopSpec α := ⟨6, 45, [true, false, true, true], slices_Equal_api_Key_api_Key_l0_t, slices_Equal_api_Key_api_Key_l0_s, slices_Equal_api_Key_api_Key_l0_h, fun ds k => slices_Equal_api_Key_api_Key_l0_run (fun y1 => k .ret (encSt [.dead, .dead, .dead, .dead, .bool, .dead, .dead, .dead, .dead, .dead, .dead, .dead, .dead, .dead, .dead, .dead, .dead, .dead, .dead, .dead, .dead, .dead, .dead, .dead, .dead, .dead] [] [] [.b y1])) (k (.exit 0) (encSt [.dead, .dead, .dead, .dead, .dead, .dead, .dead, .dead, .dead, .dead, .dead, .dead, .dead, .dead, .dead, .dead, .dead, .dead, .dead, .dead, .dead, .dead, .dead, .dead, .dead, .dead] [] [] [])) 1000 (hdQ (.int .i64 (.int .i64 (.int .i64 (.int .i64 (.int .i64 (.int .i64 (.nil))))))) ds) (hdQ (.int .i64 (.int .i64 (.int .i64 (.int .i64 (.int .i64 (.int .i64 (.nil))))))) ds.tail) (hdI ds.tail.tail) (hdI ds.tail.tail.tail)⟩

noncomputable def slices_Equal_api_Key_api_Key_loops {α : Type} : List (LoopSpec α) := [slices_Equal_api_Key_api_Key_l0_spec]

noncomputable def slices_Equal_api_Key_api_Key_l0_ev {α : Type} (n : Nat) (st : St) (k : X → St → Option α) : Option α := loopN (evCode Go.Proofs.Try.prog (callD Go.Proofs.Try.prog (envOf (slices_Equal_api_Key_api_Key_C) slices_Equal_api_Key_api_Key_q slices_Equal_api_Key_api_Key_inl 1000 slices_Equal_api_Key_api_Key_ann false (slices_Equal_api_Key_api_Key_loops) (fun _ => none)) 6) (((envOf (slices_Equal_api_Key_api_Key_C) slices_Equal_api_Key_api_Key_q slices_Equal_api_Key_api_Key_inl 1000 slices_Equal_api_Key_api_Key_ann false (slices_Equal_api_Key_api_Key_loops) (fun _ => none)) : Env α).L 6 45) 1000 (slices_Equal_api_Key_api_Key_ann 45) (false :: [true, false, true, true]) (loopC Go.Proofs.Try.prog 45 [true, false, true, true])) ((slices_Equal_api_Key_api_Key_ann 45 [true, false, true, true]).head 0) ((slices_Equal_api_Key_api_Key_ann 45 [true, false, true, true]).leave 0) n st k

theorem slices_Equal_api_Key_api_Key_l0_eq {α : Type} : ∀ (n : Nat) (x3 : Seq Z1) (x4 : Seq Z1) (x5 : Int) (x6 : Int) (k : X → St → Option α), slices_Equal_api_Key_api_Key_l0_ev n (encSt slices_Equal_api_Key_api_Key_l0_t slices_Equal_api_Key_api_Key_l0_s slices_Equal_api_Key_api_Key_l0_h [.q (.int .i64 (.int .i64 (.int .i64 (.int .i64 (.int .i64 (.int .i64 (.nil))))))) x3, .q (.int .i64 (.int .i64 (.int .i64 (.int .i64 (.int .i64 (.int .i64 (.nil))))))) x4, .i x5, .i x6]) k = slices_Equal_api_Key_api_Key_l0_run (fun y1 => k .ret (encSt [.dead, .dead, .dead, .dead, .bool, .dead, .dead, .dead, .dead, .dead, .dead, .dead, .dead, .dead, .dead, .dead, .dead, .dead, .dead, .dead, .dead, .dead, .dead, .dead, .dead, .dead] [] [] [.b y1])) (k (.exit 0) (encSt [.dead, .dead, .dead, .dead, .dead, .dead, .dead, .dead, .dead, .dead, .dead, .dead, .dead, .dead, .dead, .dead, .dead, .dead, .dead, .dead, .dead, .dead, .dead, .dead, .dead, .dead] [] [] [])) n x3 x4 x5 x6 := by
  intro n
  induction n with
  | zero => intros; kernel_rfl
  | succ n ih =>
    intro x3 x4 x5 x6 k
    have e : (fun (x3 : Seq Z1) (x4 : Seq Z1) (x5 : Int) (x6 : Int) => slices_Equal_api_Key_api_Key_l0_ev n (encSt slices_Equal_api_Key_api_Key_l0_t slices_Equal_api_Key_api_Key_l0_s slices_Equal_api_Key_api_Key_l0_h [.q (.int .i64 (.int .i64 (.int .i64 (.int .i64 (.int .i64 (.int .i64 (.nil))))))) x3, .q (.int .i64 (.int .i64 (.int .i64 (.int .i64 (.int .i64 (.int .i64 (.nil))))))) x4, .i x5, .i x6]) k) = (fun (x3 : Seq Z1) (x4 : Seq Z1) (x5 : Int) (x6 : Int) => slices_Equal_api_Key_api_Key_l0_run (fun y1 => k .ret (encSt [.dead, .dead, .dead, .dead, .bool, .dead, .dead, .dead, .dead, .dead, .dead, .dead, .dead, .dead, .dead, .dead, .dead, .dead, .dead, .dead, .dead, .dead, .dead, .dead, .dead, .dead] [] [] [.b y1])) (k (.exit 0) (encSt [.dead, .dead, .dead, .dead, .dead, .dead, .dead, .dead, .dead, .dead, .dead, .dead, .dead, .dead, .dead, .dead, .dead, .dead, .dead, .dead, .dead, .dead, .dead, .dead, .dead, .dead] [] [] [])) n x3 x4 x5 x6) := by
      funext x3 x4 x5 x6
      exact ih x3 x4 x5 x6 k
    have h1 : slices_Equal_api_Key_api_Key_l0_ev (n + 1) (encSt slices_Equal_api_Key_api_Key_l0_t slices_Equal_api_Key_api_Key_l0_s slices_Equal_api_Key_api_Key_l0_h [.q (.int .i64 (.int .i64 (.int .i64 (.int .i64 (.int .i64 (.int .i64 (.nil))))))) x3, .q (.int .i64 (.int .i64 (.int .i64 (.int .i64 (.int .i64 (.int .i64 (.nil))))))) x4, .i x5, .i x6]) k = slices_Equal_api_Key_api_Key_l0_step (fun y1 => k .ret (encSt [.dead, .dead, .dead, .dead, .bool, .dead, .dead, .dead, .dead, .dead, .dead, .dead, .dead, .dead, .dead, .dead, .dead, .dead, .dead, .dead, .dead, .dead, .dead, .dead, .dead, .dead] [] [] [.b y1])) (k (.exit 0) (encSt [.dead, .dead, .dead, .dead, .dead, .dead, .dead, .dead, .dead, .dead, .dead, .dead, .dead, .dead, .dead, .dead, .dead, .dead, .dead, .dead, .dead, .dead, .dead, .dead, .dead, .dead] [] [] [])) (fun (x3 : Seq Z1) (x4 : Seq Z1) (x5 : Int) (x6 : Int) => slices_Equal_api_Key_api_Key_l0_ev n (encSt slices_Equal_api_Key_api_Key_l0_t slices_Equal_api_Key_api_Key_l0_s slices_Equal_api_Key_api_Key_l0_h [.q (.int .i64 (.int .i64 (.int .i64 (.int .i64 (.int .i64 (.int .i64 (.nil))))))) x3, .q (.int .i64 (.int .i64 (.int .i64 (.int .i64 (.int .i64 (.int .i64 (.nil))))))) x4, .i x5, .i x6]) k) x3 x4 x5 x6 := by kernel_rfl
    have h2 := congrArg (fun r => slices_Equal_api_Key_api_Key_l0_step (fun y1 => k .ret (encSt [.dead, .dead, .dead, .dead, .bool, .dead, .dead, .dead, .dead, .dead, .dead, .dead, .dead, .dead, .dead, .dead, .dead, .dead, .dead, .dead, .dead, .dead, .dead, .dead, .dead, .dead] [] [] [.b y1])) (k (.exit 0) (encSt [.dead, .dead, .dead, .dead, .dead, .dead, .dead, .dead, .dead, .dead, .dead, .dead, .dead, .dead, .dead, .dead, .dead, .dead, .dead, .dead, .dead, .dead, .dead, .dead, .dead, .dead] [] [] [])) r x3 x4 x5 x6) e
    have h3 : slices_Equal_api_Key_api_Key_l0_step (fun y1 => k .ret (encSt [.dead, .dead, .dead, .dead, .bool, .dead, .dead, .dead, .dead, .dead, .dead, .dead, .dead, .dead, .dead, .dead, .dead, .dead, .dead, .dead, .dead, .dead, .dead, .dead, .dead, .dead] [] [] [.b y1])) (k (.exit 0) (encSt [.dead, .dead, .dead, .dead, .dead, .dead, .dead, .dead, .dead, .dead, .dead, .dead, .dead, .dead, .dead, .dead, .dead, .dead, .dead, .dead, .dead, .dead, .dead, .dead, .dead, .dead] [] [] [])) (fun (x3 : Seq Z1) (x4 : Seq Z1) (x5 : Int) (x6 : Int) => slices_Equal_api_Key_api_Key_l0_run (fun y1 => k .ret (encSt [.dead, .dead, .dead, .dead, .bool, .dead, .dead, .dead, .dead, .dead, .dead, .dead, .dead, .dead, .dead, .dead, .dead, .dead, .dead, .dead, .dead, .dead, .dead, .dead, .dead, .dead] [] [] [.b y1])) (k (.exit 0) (encSt [.dead, .dead, .dead, .dead, .dead, .dead, .dead, .dead, .dead, .dead, .dead, .dead, .dead, .dead, .dead, .dead, .dead, .dead, .dead, .dead, .dead, .dead, .dead, .dead, .dead, .dead] [] [] [])) n x3 x4 x5 x6) x3 x4 x5 x6 = slices_Equal_api_Key_api_Key_l0_run (fun y1 => k .ret (encSt [.dead, .dead, .dead, .dead, .bool, .dead, .dead, .dead, .dead, .dead, .dead, .dead, .dead, .dead, .dead, .dead, .dead, .dead, .dead, .dead, .dead, .dead, .dead, .dead, .dead, .dead] [] [] [.b y1])) (k (.exit 0) (encSt [.dead, .dead, .dead, .dead, .dead, .dead, .dead, .dead, .dead, .dead, .dead, .dead, .dead, .dead, .dead, .dead, .dead, .dead, .dead, .dead, .dead, .dead, .dead, .dead, .dead, .dead] [] [] [])) (n + 1) x3 x4 x5 x6 := by kernel_rfl
    exact h1.trans (h2.trans h3)

theorem slices_Equal_api_Key_api_Key_l0_ok {α : Type} : (slices_Equal_api_Key_api_Key_l0_spec : LoopSpec α).ok Go.Proofs.Try.prog (envOf (slices_Equal_api_Key_api_Key_C) slices_Equal_api_Key_api_Key_q slices_Equal_api_Key_api_Key_inl 1000 slices_Equal_api_Key_api_Key_ann false (slices_Equal_api_Key_api_Key_loops) (fun _ => none)) := by
  intro ds k
  have h1 : slices_Equal_api_Key_api_Key_l0_ev 1000 (encSt slices_Equal_api_Key_api_Key_l0_t slices_Equal_api_Key_api_Key_l0_s slices_Equal_api_Key_api_Key_l0_h ds) k = slices_Equal_api_Key_api_Key_l0_ev 1000 (encSt slices_Equal_api_Key_api_Key_l0_t slices_Equal_api_Key_api_Key_l0_s slices_Equal_api_Key_api_Key_l0_h [.q (.int .i64 (.int .i64 (.int .i64 (.int .i64 (.int .i64 (.int .i64 (.nil))))))) (hdQ (.int .i64 (.int .i64 (.int .i64 (.int .i64 (.int .i64 (.int .i64 (.nil))))))) ds), .q (.int .i64 (.int .i64 (.int .i64 (.int .i64 (.int .i64 (.int .i64 (.nil))))))) (hdQ (.int .i64 (.int .i64 (.int .i64 (.int .i64 (.int .i64 (.int .i64 (.nil))))))) ds.tail), .i (hdI ds.tail.tail), .i (hdI ds.tail.tail.tail)]) k := by kernel_rfl
  have h2 := slices_Equal_api_Key_api_Key_l0_eq 1000 (hdQ (.int .i64 (.int .i64 (.int .i64 (.int .i64 (.int .i64 (.int .i64 (.nil))))))) ds) (hdQ (.int .i64 (.int .i64 (.int .i64 (.int .i64 (.int .i64 (.int .i64 (.nil))))))) ds.tail) (hdI ds.tail.tail) (hdI ds.tail.tail.tail) k
  exact h1.trans h2

theorem slices_Equal_api_Key_api_Key_ev {α : Type} : EvOk (α := α) Go.Proofs.Try.prog (envOf (slices_Equal_api_Key_api_Key_C) slices_Equal_api_Key_api_Key_q slices_Equal_api_Key_api_Key_inl 1000 slices_Equal_api_Key_api_Key_ann false (slices_Equal_api_Key_api_Key_loops) (fun _ => none)) 6 (slices_Equal_api_Key_api_Key_sp (slices_Equal_api_Key_api_Key)) := by intro ds k; kernel_rfl

theorem slices_Equal_api_Key_api_Key_ok {α : Type} : (slices_Equal_api_Key_api_Key_spec : FunSpec α).ok Go.Proofs.Try.prog :=
  FunSpec.ok_of (sp := slices_Equal_api_Key_api_Key_spec) (C := slices_Equal_api_Key_api_Key_C) (q := slices_Equal_api_Key_api_Key_q) (inl := slices_Equal_api_Key_api_Key_inl) (N := 1000) (ann := slices_Equal_api_Key_api_Key_ann) (fr := false) (D := 6) (l := (slices_Equal_api_Key_api_Key_loops)) (hk := (fun _ => none)) okNil (lokCons (slices_Equal_api_Key_api_Key_l0_ok) lokNil) noHooks (slices_Equal_api_Key_api_Key_ev)

end
end Go.Rv.Try

set_option linter.unusedVariables false
set_option maxRecDepth 100000
set_option maxHeartbeats 4000000
namespace Go.Rv.Try
open Go Go.Rv Go.RowKit
noncomputable section

-- slices.Equal[[]drayman/carry.Parcel,drayman/carry.Parcel]

abbrev slices_Equal_carry_Parcel_carry_Parcel_T (α : Type) : Type := (Seq (Int × Int × Int × Bool × Unit)) → (Seq (Int × Int × Int × Bool × Unit)) → (Bool → Option α) → Option α

noncomputable def slices_Equal_carry_Parcel_carry_Parcel_l0_step {α : Type} (kr : (Bool) → Option α) (k0 : Option α) (rec : (Seq (Int × Int × Int × Bool × Unit)) → (Seq (Int × Int × Int × Bool × Unit)) → (Int) → (Int) → Option α) (x3 : Seq (Int × Int × Int × Bool × Unit)) (x4 : Seq (Int × Int × Int × Bool × Unit)) (x5 : Int) (x6 : Int) : Option α :=
  (cond (decide (x6 < x5))
    (cond (((decide ((0 : Int) ≤ x6)) && (decide (x6 < (x3.n : Int)))) && ((decide ((0 : Int) ≤ x6)) && (decide (x6 < (x3.n : Int)))))
      (cond (((decide ((0 : Int) ≤ x6)) && (decide (x6 < (x4.n : Int)))) && ((decide ((0 : Int) ≤ x6)) && (decide (x6 < (x4.n : Int)))))
        (cond (!(((x3.g x6.toNat).1 == (x4.g x6.toNat).1) && (((x3.g x6.toNat).2.1 == (x4.g x6.toNat).2.1) && (((x3.g x6.toNat).2.2.1 == (x4.g x6.toNat).2.2.1) && (((x3.g x6.toNat).2.2.2.1 == (x4.g x6.toNat).2.2.2.1) && true)))))
          (kr false)
          (rec x3 x4 x5 (IntKind.i64.wrap (x6 + 1))))
        none)
      none)
    (k0))

noncomputable def slices_Equal_carry_Parcel_carry_Parcel_l0_run {α : Type} (kr : (Bool) → Option α) (k0 : Option α) : Nat → (Seq (Int × Int × Int × Bool × Unit)) → (Seq (Int × Int × Int × Bool × Unit)) → (Int) → (Int) → Option α
  | 0, _, _, _, _ => none
  | n + 1, x3, x4, x5, x6 => slices_Equal_carry_Parcel_carry_Parcel_l0_step kr k0 (fun x3 x4 x5 x6 => slices_Equal_carry_Parcel_carry_Parcel_l0_run kr k0 n x3 x4 x5 x6) x3 x4 x5 x6

noncomputable def slices_Equal_carry_Parcel_carry_Parcel {α : Type} (x1 : Seq (Int × Int × Int × Bool × Unit)) (x2 : Seq (Int × Int × Int × Bool × Unit)) (k : Bool → Option α) : Option α :=
  (cond ((x1.n : Int) != (x2.n : Int))
    (k false)
    (slices_Equal_carry_Parcel_carry_Parcel_l0_run
      (fun x7 =>
        (k x7))
      ((k true))
      1000 x1 x2 (x1.n : Int) 0))

noncomputable def slices_Equal_carry_Parcel_carry_Parcel_sp {α : Type} (slices_Equal_carry_Parcel_carry_Parcel : slices_Equal_carry_Parcel_carry_Parcel_T α) : FunSpec α := ⟨54, [.sl (.int .i64 (.int .i64 (.int .i64 (.bool (.nil))))), .sl (.int .i64 (.int .i64 (.int .i64 (.bool (.nil)))))], [], fun ds k => slices_Equal_carry_Parcel_carry_Parcel (hdQ (.int .i64 (.int .i64 (.int .i64 (.bool (.nil))))) ds) (hdQ (.int .i64 (.int .i64 (.int .i64 (.bool (.nil))))) ds.tail) (fun r1 => k (enc dep (.bool) [.b r1]).1 [])⟩

noncomputable def slices_Equal_carry_Parcel_carry_Parcel_spec {α : Type} : FunSpec α := slices_Equal_carry_Parcel_carry_Parcel_sp slices_Equal_carry_Parcel_carry_Parcel

noncomputable def slices_Equal_carry_Parcel_carry_Parcel_C {α : Type} : List (FunSpec α) := []

noncomputable def slices_Equal_carry_Parcel_carry_Parcel_q : FuncId → Bool := fun f => false

noncomputable def slices_Equal_carry_Parcel_carry_Parcel_inl : FuncId → Bool := fun f => false

noncomputable def slices_Equal_carry_Parcel_carry_Parcel_ann : FuncId → AnnT := fun f p => if f = 54 then (if p = [true, false, true, true] then ⟨[0, 1, 12, 13], [], [], [4], 0, [], []⟩ else ⟨[], [], [], [], 0, [], []⟩) else ⟨[], [], [], [], 0, [], []⟩

noncomputable def slices_Equal_carry_Parcel_carry_Parcel_l0_t : List Sh := [.sl (.int .i64 (.int .i64 (.int .i64 (.bool (.nil))))), .sl (.int .i64 (.int .i64 (.int .i64 (.bool (.nil))))), .dead, .dead, .dead, .dead, .dead, .dead, .dead, .dead, .dead, .dead, .int .i64, .int .i64, .dead, .dead, .dead, .dead, .dead, .dead, .dead, .dead, .dead, .dead, .dead, .dead]
noncomputable def slices_Equal_carry_Parcel_carry_Parcel_l0_s : List (List Sh) := []
noncomputable def slices_Equal_carry_Parcel_carry_Parcel_l0_h : List BSh := []

noncomputable def slices_Equal_carry_Parcel_carry_Parcel_l0_spec {α : Type} : LoopSpec α := ⟨6, 54, [true, false, true, true], slices_Equal_carry_Parcel_carry_Parcel_l0_t, slices_Equal_carry_Parcel_carry_Parcel_l0_s, slices_Equal_carry_Parcel_carry_Parcel_l0_h, fun ds k => slices_Equal_carry_Parcel_carry_Parcel_l0_run (fun y1 => k .ret (encSt [.dead, .dead, .dead, .dead, .bool, .dead, .dead, .dead, .dead, .dead, .dead, .dead, .dead, .dead, .dead, .dead, .dead, .dead, .dead, .dead, .dead, .dead, .dead, .dead, .dead, .dead] [] [] [.b y1])) (k (.exit 0) (encSt [.dead, .dead, .dead, .dead, .dead, .dead, .dead, .dead, .dead, .dead, .dead, .dead, .dead, .dead, .dead, .dead, .dead, .dead, .dead, .dead, .dead, .dead, .dead, .dead, .dead, .dead] [] [] [])) 1000 (hdQ (.int .i64 (.int .i64 (.int .i64 (.bool (.nil))))) ds) (hdQ (.int .i64 (.int .i64 (.int .i64 (.bool (.nil))))) ds.tail) (hdI ds.tail.tail) (hdI ds.tail.tail.tail)⟩

noncomputable def slices_Equal_carry_Parcel_carry_Parcel_loops {α : Type} : List (LoopSpec α) := [slices_Equal_carry_Parcel_carry_Parcel_l0_spec]

noncomputable def slices_Equal_carry_Parcel_carry_Parcel_l0_ev {α : Type} (n : Nat) (st : St) (k : X → St → Option α) : Option α := loopN (evCode Go.Proofs.Try.prog (callD Go.Proofs.Try.prog (envOf (slices_Equal_carry_Parcel_carry_Parcel_C) slices_Equal_carry_Parcel_carry_Parcel_q slices_Equal_carry_Parcel_carry_Parcel_inl 1000 slices_Equal_carry_Parcel_carry_Parcel_ann false (slices_Equal_carry_Parcel_carry_Parcel_loops) (fun _ => none)) 6) (((envOf (slices_Equal_carry_Parcel_carry_Parcel_C) slices_Equal_carry_Parcel_carry_Parcel_q slices_Equal_carry_Parcel_carry_Parcel_inl 1000 slices_Equal_carry_Parcel_carry_Parcel_ann false (slices_Equal_carry_Parcel_carry_Parcel_loops) (fun _ => none)) : Env α).L 6 54) 1000 (slices_Equal_carry_Parcel_carry_Parcel_ann 54) (false :: [true, false, true, true]) (loopC Go.Proofs.Try.prog 54 [true, false, true, true])) ((slices_Equal_carry_Parcel_carry_Parcel_ann 54 [true, false, true, true]).head 0) ((slices_Equal_carry_Parcel_carry_Parcel_ann 54 [true, false, true, true]).leave 0) n st k

theorem slices_Equal_carry_Parcel_carry_Parcel_l0_eq {α : Type} : ∀ (n : Nat) (x3 : Seq (Int × Int × Int × Bool × Unit)) (x4 : Seq (Int × Int × Int × Bool × Unit)) (x5 : Int) (x6 : Int) (k : X → St → Option α), slices_Equal_carry_Parcel_carry_Parcel_l0_ev n (encSt slices_Equal_carry_Parcel_carry_Parcel_l0_t slices_Equal_carry_Parcel_carry_Parcel_l0_s slices_Equal_carry_Parcel_carry_Parcel_l0_h [.q (.int .i64 (.int .i64 (.int .i64 (.bool (.nil))))) x3, .q (.int .i64 (.int .i64 (.int .i64 (.bool (.nil))))) x4, .i x5, .i x6]) k = slices_Equal_carry_Parcel_carry_Parcel_l0_run (fun y1 => k .ret (encSt [.dead, .dead, .dead, .dead, .bool, .dead, .dead, .dead, .dead, .dead, .dead, .dead, .dead, .dead, .dead, .dead, .dead, .dead, .dead, .dead, .dead, .dead, .dead, .dead, .dead, .dead] [] [] [.b y1])) (k (.exit 0) (encSt [.dead, .dead, .dead, .dead, .dead, .dead, .dead, .dead, .dead, .dead, .dead, .dead, .dead, .dead, .dead, .dead, .dead, .dead, .dead, .dead, .dead, .dead, .dead, .dead, .dead, .dead] [] [] [])) n x3 x4 x5 x6 := by
  intro n
  induction n with
  | zero => intros; kernel_rfl
  | succ n ih =>
    intro x3 x4 x5 x6 k
    have e : (fun (x3 : Seq (Int × Int × Int × Bool × Unit)) (x4 : Seq (Int × Int × Int × Bool × Unit)) (x5 : Int) (x6 : Int) => slices_Equal_carry_Parcel_carry_Parcel_l0_ev n (encSt slices_Equal_carry_Parcel_carry_Parcel_l0_t slices_Equal_carry_Parcel_carry_Parcel_l0_s slices_Equal_carry_Parcel_carry_Parcel_l0_h [.q (.int .i64 (.int .i64 (.int .i64 (.bool (.nil))))) x3, .q (.int .i64 (.int .i64 (.int .i64 (.bool (.nil))))) x4, .i x5, .i x6]) k) = (fun (x3 : Seq (Int × Int × Int × Bool × Unit)) (x4 : Seq (Int × Int × Int × Bool × Unit)) (x5 : Int) (x6 : Int) => slices_Equal_carry_Parcel_carry_Parcel_l0_run (fun y1 => k .ret (encSt [.dead, .dead, .dead, .dead, .bool, .dead, .dead, .dead, .dead, .dead, .dead, .dead, .dead, .dead, .dead, .dead, .dead, .dead, .dead, .dead, .dead, .dead, .dead, .dead, .dead, .dead] [] [] [.b y1])) (k (.exit 0) (encSt [.dead, .dead, .dead, .dead, .dead, .dead, .dead, .dead, .dead, .dead, .dead, .dead, .dead, .dead, .dead, .dead, .dead, .dead, .dead, .dead, .dead, .dead, .dead, .dead, .dead, .dead] [] [] [])) n x3 x4 x5 x6) := by
      funext x3 x4 x5 x6
      exact ih x3 x4 x5 x6 k
    have h1 : slices_Equal_carry_Parcel_carry_Parcel_l0_ev (n + 1) (encSt slices_Equal_carry_Parcel_carry_Parcel_l0_t slices_Equal_carry_Parcel_carry_Parcel_l0_s slices_Equal_carry_Parcel_carry_Parcel_l0_h [.q (.int .i64 (.int .i64 (.int .i64 (.bool (.nil))))) x3, .q (.int .i64 (.int .i64 (.int .i64 (.bool (.nil))))) x4, .i x5, .i x6]) k = slices_Equal_carry_Parcel_carry_Parcel_l0_step (fun y1 => k .ret (encSt [.dead, .dead, .dead, .dead, .bool, .dead, .dead, .dead, .dead, .dead, .dead, .dead, .dead, .dead, .dead, .dead, .dead, .dead, .dead, .dead, .dead, .dead, .dead, .dead, .dead, .dead] [] [] [.b y1])) (k (.exit 0) (encSt [.dead, .dead, .dead, .dead, .dead, .dead, .dead, .dead, .dead, .dead, .dead, .dead, .dead, .dead, .dead, .dead, .dead, .dead, .dead, .dead, .dead, .dead, .dead, .dead, .dead, .dead] [] [] [])) (fun (x3 : Seq (Int × Int × Int × Bool × Unit)) (x4 : Seq (Int × Int × Int × Bool × Unit)) (x5 : Int) (x6 : Int) => slices_Equal_carry_Parcel_carry_Parcel_l0_ev n (encSt slices_Equal_carry_Parcel_carry_Parcel_l0_t slices_Equal_carry_Parcel_carry_Parcel_l0_s slices_Equal_carry_Parcel_carry_Parcel_l0_h [.q (.int .i64 (.int .i64 (.int .i64 (.bool (.nil))))) x3, .q (.int .i64 (.int .i64 (.int .i64 (.bool (.nil))))) x4, .i x5, .i x6]) k) x3 x4 x5 x6 := by kernel_rfl
    have h2 := congrArg (fun r => slices_Equal_carry_Parcel_carry_Parcel_l0_step (fun y1 => k .ret (encSt [.dead, .dead, .dead, .dead, .bool, .dead, .dead, .dead, .dead, .dead, .dead, .dead, .dead, .dead, .dead, .dead, .dead, .dead, .dead, .dead, .dead, .dead, .dead, .dead, .dead, .dead] [] [] [.b y1])) (k (.exit 0) (encSt [.dead, .dead, .dead, .dead, .dead, .dead, .dead, .dead, .dead, .dead, .dead, .dead, .dead, .dead, .dead, .dead, .dead, .dead, .dead, .dead, .dead, .dead, .dead, .dead, .dead, .dead] [] [] [])) r x3 x4 x5 x6) e
    have h3 : slices_Equal_carry_Parcel_carry_Parcel_l0_step (fun y1 => k .ret (encSt [.dead, .dead, .dead, .dead, .bool, .dead, .dead, .dead, .dead, .dead, .dead, .dead, .dead, .dead, .dead, .dead, .dead, .dead, .dead, .dead, .dead, .dead, .dead, .dead, .dead, .dead] [] [] [.b y1])) (k (.exit 0) (encSt [.dead, .dead, .dead, .dead, .dead, .dead, .dead, .dead, .dead, .dead, .dead, .dead, .dead, .dead, .dead, .dead, .dead, .dead, .dead, .dead, .dead, .dead, .dead, .dead, .dead, .dead] [] [] [])) (fun (x3 : Seq (Int × Int × Int × Bool × Unit)) (x4 : Seq (Int × Int × Int × Bool × Unit)) (x5 : Int) (x6 : Int) => slices_Equal_carry_Parcel_carry_Parcel_l0_run (fun y1 => k .ret (encSt [.dead, .dead, .dead, .dead, .bool, .dead, .dead, .dead, .dead, .dead, .dead, .dead, .dead, .dead, .dead, .dead, .dead, .dead, .dead, .dead, .dead, .dead, .dead, .dead, .dead, .dead] [] [] [.b y1])) (k (.exit 0) (encSt [.dead, .dead, .dead, .dead, .dead, .dead, .dead, .dead, .dead, .dead, .dead, .dead, .dead, .dead, .dead, .dead, .dead, .dead, .dead, .dead, .dead, .dead, .dead, .dead, .dead, .dead] [] [] [])) n x3 x4 x5 x6) x3 x4 x5 x6 = slices_Equal_carry_Parcel_carry_Parcel_l0_run (fun y1 => k .ret (encSt [.dead, .dead, .dead, .dead, .bool, .dead, .dead, .dead, .dead, .dead, .dead, .dead, .dead, .dead, .dead, .dead, .dead, .dead, .dead, .dead, .dead, .dead, .dead, .dead, .dead, .dead] [] [] [.b y1])) (k (.exit 0) (encSt [.dead, .dead, .dead, .dead, .dead, .dead, .dead, .dead, .dead, .dead, .dead, .dead, .dead, .dead, .dead, .dead, .dead, .dead, .dead, .dead, .dead, .dead, .dead, .dead, .dead, .dead] [] [] [])) (n + 1) x3 x4 x5 x6 := by kernel_rfl
    exact h1.trans (h2.trans h3)

theorem slices_Equal_carry_Parcel_carry_Parcel_l0_ok {α : Type} : (slices_Equal_carry_Parcel_carry_Parcel_l0_spec : LoopSpec α).ok Go.Proofs.Try.prog (envOf (slices_Equal_carry_Parcel_carry_Parcel_C) slices_Equal_carry_Parcel_carry_Parcel_q slices_Equal_carry_Parcel_carry_Parcel_inl 1000 slices_Equal_carry_Parcel_carry_Parcel_ann false (slices_Equal_carry_Parcel_carry_Parcel_loops) (fun _ => none)) := by
  intro ds k
  have h1 : slices_Equal_carry_Parcel_carry_Parcel_l0_ev 1000 (encSt slices_Equal_carry_Parcel_carry_Parcel_l0_t slices_Equal_carry_Parcel_carry_Parcel_l0_s slices_Equal_carry_Parcel_carry_Parcel_l0_h ds) k = slices_Equal_carry_Parcel_carry_Parcel_l0_ev 1000 (encSt slices_Equal_carry_Parcel_carry_Parcel_l0_t slices_Equal_carry_Parcel_carry_Parcel_l0_s slices_Equal_carry_Parcel_carry_Parcel_l0_h [.q (.int .i64 (.int .i64 (.int .i64 (.bool (.nil))))) (hdQ (.int .i64 (.int .i64 (.int .i64 (.bool (.nil))))) ds), .q (.int .i64 (.int .i64 (.int .i64 (.bool (.nil))))) (hdQ (.int .i64 (.int .i64 (.int .i64 (.bool (.nil))))) ds.tail), .i (hdI ds.tail.tail), .i (hdI ds.tail.tail.tail)]) k := by kernel_rfl
  have h2 := slices_Equal_carry_Parcel_carry_Parcel_l0_eq 1000 (hdQ (.int .i64 (.int .i64 (.int .i64 (.bool (.nil))))) ds) (hdQ (.int .i64 (.int .i64 (.int .i64 (.bool (.nil))))) ds.tail) (hdI ds.tail.tail) (hdI ds.tail.tail.tail) k
  exact h1.trans h2

theorem slices_Equal_carry_Parcel_carry_Parcel_ev {α : Type} : EvOk (α := α) Go.Proofs.Try.prog (envOf (slices_Equal_carry_Parcel_carry_Parcel_C) slices_Equal_carry_Parcel_carry_Parcel_q slices_Equal_carry_Parcel_carry_Parcel_inl 1000 slices_Equal_carry_Parcel_carry_Parcel_ann false (slices_Equal_carry_Parcel_carry_Parcel_loops) (fun _ => none)) 6 (slices_Equal_carry_Parcel_carry_Parcel_sp (slices_Equal_carry_Parcel_carry_Parcel)) := by intro ds k; kernel_rfl

theorem slices_Equal_carry_Parcel_carry_Parcel_ok {α : Type} : (slices_Equal_carry_Parcel_carry_Parcel_spec : FunSpec α).ok Go.Proofs.Try.prog :=
  FunSpec.ok_of (sp := slices_Equal_carry_Parcel_carry_Parcel_spec) (C := slices_Equal_carry_Parcel_carry_Parcel_C) (q := slices_Equal_carry_Parcel_carry_Parcel_q) (inl := slices_Equal_carry_Parcel_carry_Parcel_inl) (N := 1000) (ann := slices_Equal_carry_Parcel_carry_Parcel_ann) (fr := false) (D := 6) (l := (slices_Equal_carry_Parcel_carry_Parcel_loops)) (hk := (fun _ => none)) okNil (lokCons (slices_Equal_carry_Parcel_carry_Parcel_l0_ok) lokNil) noHooks (slices_Equal_carry_Parcel_carry_Parcel_ev)

end
end Go.Rv.Try

set_option linter.unusedVariables false
set_option maxRecDepth 100000
set_option maxHeartbeats 4000000
namespace Go.Rv.Try
open Go Go.Rv Go.RowKit
noncomputable section

-- drayman/carry.Same

abbrev carry_Same_T (α : Type) : Type := ((Seq Z1) × Int × (Seq (Int × Int × Int × Bool × Unit)) × Unit) → ((Seq Z1) × Int × (Seq (Int × Int × Int × Bool × Unit)) × Unit) → (Bool → Option α) → Option α

noncomputable def carry_Same_g {α : Type} (slices_Equal_api_Key_api_Key : slices_Equal_api_Key_api_Key_T α) (slices_Equal_carry_Parcel_carry_Parcel : slices_Equal_carry_Parcel_carry_Parcel_T α) (a1 : (Seq Z1) × Int × (Seq (Int × Int × Int × Bool × Unit)) × Unit) (b2 : (Seq Z1) × Int × (Seq (Int × Int × Int × Bool × Unit)) × Unit) (k : Bool → Option α) : Option α :=
  (cond (a1.2.1 == b2.2.1)
    (slices_Equal_api_Key_api_Key a1.1 b2.1 fun r3 =>
      (cond r3
        (slices_Equal_carry_Parcel_carry_Parcel a1.2.2.1 b2.2.2.1 fun r4 =>
          (k r4))
        (k false)))
    (k false))

noncomputable def carry_Same {α : Type} : carry_Same_T α := carry_Same_g slices_Equal_api_Key_api_Key slices_Equal_carry_Parcel_carry_Parcel

noncomputable def carry_Same_sp {α : Type} (carry_Same : carry_Same_T α) : FunSpec α := ⟨30, [.agg [.sl (.int .i64 (.int .i64 (.int .i64 (.int .i64 (.int .i64 (.int .i64 (.nil))))))), .int .i64, .sl (.int .i64 (.int .i64 (.int .i64 (.bool (.nil)))))], .agg [.sl (.int .i64 (.int .i64 (.int .i64 (.int .i64 (.int .i64 (.int .i64 (.nil))))))), .int .i64, .sl (.int .i64 (.int .i64 (.int .i64 (.bool (.nil)))))]], [], fun ds k => carry_Same (hdQ (.int .i64 (.int .i64 (.int .i64 (.int .i64 (.int .i64 (.int .i64 (.nil))))))) ds, hdI ds.tail, hdQ (.int .i64 (.int .i64 (.int .i64 (.bool (.nil))))) ds.tail.tail, ()) (hdQ (.int .i64 (.int .i64 (.int .i64 (.int .i64 (.int .i64 (.int .i64 (.nil))))))) ds.tail.tail.tail, hdI ds.tail.tail.tail.tail, hdQ (.int .i64 (.int .i64 (.int .i64 (.bool (.nil))))) ds.tail.tail.tail.tail.tail, ()) (fun r1 => k (enc dep (.bool) [.b r1]).1 [])⟩

noncomputable def carry_Same_spec {α : Type} : FunSpec α := carry_Same_sp carry_Same

noncomputable def carry_Same_C {α : Type} (slices_Equal_api_Key_api_Key : slices_Equal_api_Key_api_Key_T α) (slices_Equal_carry_Parcel_carry_Parcel : slices_Equal_carry_Parcel_carry_Parcel_T α) : List (FunSpec α) := [slices_Equal_api_Key_api_Key_sp slices_Equal_api_Key_api_Key, slices_Equal_carry_Parcel_carry_Parcel_sp slices_Equal_carry_Parcel_carry_Parcel]

noncomputable def carry_Same_q : FuncId → Bool := fun f => Nat.beq f 45 || Nat.beq f 54

noncomputable def carry_Same_inl : FuncId → Bool := fun f => false

noncomputable def carry_Same_ann : FuncId → AnnT := fun f p => ⟨[], [], [], [], 0, [], []⟩

noncomputable def carry_Same_loops {α : Type} (slices_Equal_api_Key_api_Key : slices_Equal_api_Key_api_Key_T α) (slices_Equal_carry_Parcel_carry_Parcel : slices_Equal_carry_Parcel_carry_Parcel_T α) : List (LoopSpec α) := []

theorem carry_Same_ev {α : Type} (slices_Equal_api_Key_api_Key : slices_Equal_api_Key_api_Key_T α) (slices_Equal_carry_Parcel_carry_Parcel : slices_Equal_carry_Parcel_carry_Parcel_T α) : EvOk (α := α) Go.Proofs.Try.prog (envOf (carry_Same_C slices_Equal_api_Key_api_Key slices_Equal_carry_Parcel_carry_Parcel) carry_Same_q carry_Same_inl 1000 carry_Same_ann false (carry_Same_loops slices_Equal_api_Key_api_Key slices_Equal_carry_Parcel_carry_Parcel) (fun _ => none)) 6 (carry_Same_sp (carry_Same_g slices_Equal_api_Key_api_Key slices_Equal_carry_Parcel_carry_Parcel)) := by intro ds k; kernel_rfl

theorem carry_Same_ok {α : Type} : (carry_Same_spec : FunSpec α).ok Go.Proofs.Try.prog :=
  FunSpec.ok_of (sp := carry_Same_spec) (C := carry_Same_C slices_Equal_api_Key_api_Key slices_Equal_carry_Parcel_carry_Parcel) (q := carry_Same_q) (inl := carry_Same_inl) (N := 1000) (ann := carry_Same_ann) (fr := false) (D := 6) (l := (carry_Same_loops slices_Equal_api_Key_api_Key slices_Equal_carry_Parcel_carry_Parcel)) (hk := (fun _ => none)) (okCons slices_Equal_api_Key_api_Key_ok (okCons slices_Equal_carry_Parcel_carry_Parcel_ok okNil)) lokNil noHooks (carry_Same_ev slices_Equal_api_Key_api_Key slices_Equal_carry_Parcel_carry_Parcel)

end
end Go.Rv.Try

set_option linter.unusedVariables false
set_option maxRecDepth 100000
set_option maxHeartbeats 4000000
namespace Go.Rv.Try
open Go Go.Rv Go.RowKit
noncomputable section

-- drayman/draymanref33.New

abbrev draymanref33_New_T (α : Type) : Type := (((Seq Z1) × Int × (Seq (Int × Int × Int × Bool × Unit)) × Unit) → Option α) → Option α

noncomputable def draymanref33_New {α : Type} (k : ((Seq Z1) × Int × (Seq (Int × Int × Int × Bool × Unit)) × Unit) → Option α) : Option α :=
  (k ((⟨true, 0, (fun _ => (0, 0, 0, 0, 0, 0, ()))⟩ : Seq Z1), 1, (⟨true, 0, (fun _ => (0, 0, 0, false, ()))⟩ : Seq (Int × Int × Int × Bool × Unit)), ()))

noncomputable def draymanref33_New_sp {α : Type} (draymanref33_New : draymanref33_New_T α) : FunSpec α := ⟨32, [], [], fun ds k => draymanref33_New  (fun r1 => k (enc dep (.agg [.sl (.int .i64 (.int .i64 (.int .i64 (.int .i64 (.int .i64 (.int .i64 (.nil))))))), .int .i64, .sl (.int .i64 (.int .i64 (.int .i64 (.bool (.nil)))))]) [.q (.int .i64 (.int .i64 (.int .i64 (.int .i64 (.int .i64 (.int .i64 (.nil))))))) r1.1, .i r1.2.1, .q (.int .i64 (.int .i64 (.int .i64 (.bool (.nil))))) r1.2.2.1]).1 [])⟩

noncomputable def draymanref33_New_spec {α : Type} : FunSpec α := draymanref33_New_sp draymanref33_New

noncomputable def draymanref33_New_C {α : Type} : List (FunSpec α) := []

noncomputable def draymanref33_New_q : FuncId → Bool := fun f => false

noncomputable def draymanref33_New_inl : FuncId → Bool := fun f => false

noncomputable def draymanref33_New_ann : FuncId → AnnT := fun f p => ⟨[], [], [], [], 0, [], []⟩

noncomputable def draymanref33_New_loops {α : Type} : List (LoopSpec α) := []

theorem draymanref33_New_ev {α : Type} : EvOk (α := α) Go.Proofs.Try.prog (envOf (draymanref33_New_C) draymanref33_New_q draymanref33_New_inl 1000 draymanref33_New_ann false (draymanref33_New_loops) (fun _ => none)) 6 (draymanref33_New_sp (draymanref33_New)) := by intro ds k; kernel_rfl

theorem draymanref33_New_ok {α : Type} : (draymanref33_New_spec : FunSpec α).ok Go.Proofs.Try.prog :=
  FunSpec.ok_of (sp := draymanref33_New_spec) (C := draymanref33_New_C) (q := draymanref33_New_q) (inl := draymanref33_New_inl) (N := 1000) (ann := draymanref33_New_ann) (fr := false) (D := 6) (l := (draymanref33_New_loops)) (hk := (fun _ => none)) okNil lokNil noHooks (draymanref33_New_ev)

end
end Go.Rv.Try

set_option linter.unusedVariables false
set_option maxRecDepth 100000
set_option maxHeartbeats 4000000
namespace Go.Rv.Try
open Go Go.Rv Go.RowKit
noncomputable section

-- drayman/draymanlaw33.CarryComes

abbrev draymanlaw33_CarryComes_T (α : Type) : Type := ((Seq Z1) × Int × (Seq (Int × Int × Int × Bool × Unit)) × Unit) → ((Seq Z1) × Int × (Seq (Int × Int × Int × Bool × Unit)) × Unit) → Z0 → Int → (Bool → Option α) → Option α

noncomputable def draymanlaw33_CarryComes_g {α : Type} (draymanlaw33_few : draymanlaw33_few_T α) (draymanlaw33_awake : draymanlaw33_awake_T α) (draymanlaw33_of : draymanlaw33_of_T α) (carry_Come : carry_Come_T α) (draymanref33_Come : draymanref33_Come_T α) (draymanlaw33_same : draymanlaw33_same_T α) (carry_Fit : carry_Fit_T α) (draymanref33_Fit : draymanref33_Fit_T α) (carry_Out : carry_Out_T α) (draymanref33_Out : draymanref33_Out_T α) (carry_Same : carry_Same_T α) (draymanref33_Same : draymanref33_Same_T α) (carry_New : carry_New_T α) (draymanref33_New : draymanref33_New_T α) (x1 : (Seq Z1) × Int × (Seq (Int × Int × Int × Bool × Unit)) × Unit) (x2 : (Seq Z1) × Int × (Seq (Int × Int × Int × Bool × Unit)) × Unit) (x3 : Int × Int × Int × Bool × Int × Int × Bool × Unit) (x4 : Int) (k : Bool → Option α) : Option α :=
  (draymanlaw33_few x1 fun r5 =>
    (cond (!(!r5))
      (draymanlaw33_few x2 fun r6 =>
        (cond (!r6)
          (draymanlaw33_awake fun r7 =>
            (k r7))
          (draymanlaw33_of x1 fun r8 r9 r10 =>
            (carry_Come (r8, r9, r10, ()) x3 x4 fun r11 r12 r13 =>
              (draymanref33_Come x1 x3 x4 fun r14 r15 r16 =>
                (draymanlaw33_same r11 r14 fun r17 =>
                  (cond r17
                    (cond ((r12.1 == r15.1) && ((r12.2.1 == r15.2.1) && ((r12.2.2.1 == r15.2.2.1) && ((r12.2.2.2.1 == r15.2.2.2.1) && ((r12.2.2.2.2.1 == r15.2.2.2.2.1) && ((r12.2.2.2.2.2.1 == r15.2.2.2.2.2.1) && ((r12.2.2.2.2.2.2.1 == r15.2.2.2.2.2.2.1) && true)))))))
                      (cond (r13 == r16)
                        (draymanlaw33_of x1 fun r18 r19 r20 =>
                          (carry_Fit (r18, r19, r20, ()) fun r21 =>
                            (draymanref33_Fit x1 fun r22 =>
                              (cond (r21 == r22)
                                (draymanlaw33_of x1 fun r23 r24 r25 =>
                                  (carry_Out (r23, r24, r25, ()) fun r26 =>
                                    (draymanref33_Out x1 fun r27 =>
                                      (cond (r26 == r27)
                                        (draymanlaw33_of x1 fun r28 r29 r30 =>
                                          (draymanlaw33_of x2 fun r31 r32 r33 =>
                                            (carry_Same (r28, r29, r30, ()) (r31, r32, r33, ()) fun r34 =>
                                              (draymanref33_Same x1 x2 fun r35 =>
                                                (cond (r34 == r35)
                                                  (carry_New fun r36 =>
                                                    (draymanref33_New fun r37 =>
                                                      (draymanlaw33_same r36 r37 fun r38 =>
                                                        (cond r38
                                                          (draymanlaw33_awake fun r39 =>
                                                            (k r39))
                                                          (k false)))))
                                                  (k false))))))
                                        (k false)))))
                                (k false)))))
                        (k false))
                      (k false))
                    (k false))))))))
      (draymanlaw33_awake fun r40 =>
        (k r40))))

noncomputable def draymanlaw33_CarryComes {α : Type} : draymanlaw33_CarryComes_T α := draymanlaw33_CarryComes_g draymanlaw33_few draymanlaw33_awake draymanlaw33_of carry_Come draymanref33_Come draymanlaw33_same carry_Fit draymanref33_Fit carry_Out draymanref33_Out carry_Same draymanref33_Same carry_New draymanref33_New

noncomputable def draymanlaw33_CarryComes_sp {α : Type} (draymanlaw33_CarryComes : draymanlaw33_CarryComes_T α) : FunSpec α := ⟨6, [.agg [.sl (.int .i64 (.int .i64 (.int .i64 (.int .i64 (.int .i64 (.int .i64 (.nil))))))), .int .i64, .sl (.int .i64 (.int .i64 (.int .i64 (.bool (.nil)))))], .agg [.sl (.int .i64 (.int .i64 (.int .i64 (.int .i64 (.int .i64 (.int .i64 (.nil))))))), .int .i64, .sl (.int .i64 (.int .i64 (.int .i64 (.bool (.nil)))))], .agg [.int .i64, .int .i64, .int .i64, .bool, .int .i64, .int .i64, .bool], .int .i64], [], fun ds k => draymanlaw33_CarryComes (hdQ (.int .i64 (.int .i64 (.int .i64 (.int .i64 (.int .i64 (.int .i64 (.nil))))))) ds, hdI ds.tail, hdQ (.int .i64 (.int .i64 (.int .i64 (.bool (.nil))))) ds.tail.tail, ()) (hdQ (.int .i64 (.int .i64 (.int .i64 (.int .i64 (.int .i64 (.int .i64 (.nil))))))) ds.tail.tail.tail, hdI ds.tail.tail.tail.tail, hdQ (.int .i64 (.int .i64 (.int .i64 (.bool (.nil))))) ds.tail.tail.tail.tail.tail, ()) (hdI ds.tail.tail.tail.tail.tail.tail, hdI ds.tail.tail.tail.tail.tail.tail.tail, hdI ds.tail.tail.tail.tail.tail.tail.tail.tail, hdB ds.tail.tail.tail.tail.tail.tail.tail.tail.tail, hdI ds.tail.tail.tail.tail.tail.tail.tail.tail.tail.tail, hdI ds.tail.tail.tail.tail.tail.tail.tail.tail.tail.tail.tail, hdB ds.tail.tail.tail.tail.tail.tail.tail.tail.tail.tail.tail.tail, ()) (hdI ds.tail.tail.tail.tail.tail.tail.tail.tail.tail.tail.tail.tail.tail) (fun r1 => k (enc dep (.bool) [.b r1]).1 [])⟩

noncomputable def draymanlaw33_CarryComes_spec {α : Type} : FunSpec α := draymanlaw33_CarryComes_sp draymanlaw33_CarryComes

noncomputable def draymanlaw33_CarryComes_C {α : Type} (draymanlaw33_few : draymanlaw33_few_T α) (draymanlaw33_awake : draymanlaw33_awake_T α) (draymanlaw33_of : draymanlaw33_of_T α) (carry_Come : carry_Come_T α) (draymanref33_Come : draymanref33_Come_T α) (draymanlaw33_same : draymanlaw33_same_T α) (carry_Fit : carry_Fit_T α) (draymanref33_Fit : draymanref33_Fit_T α) (carry_Out : carry_Out_T α) (draymanref33_Out : draymanref33_Out_T α) (carry_Same : carry_Same_T α) (draymanref33_Same : draymanref33_Same_T α) (carry_New : carry_New_T α) (draymanref33_New : draymanref33_New_T α) : List (FunSpec α) := [draymanlaw33_few_sp draymanlaw33_few, draymanlaw33_awake_sp draymanlaw33_awake, draymanlaw33_of_sp draymanlaw33_of, carry_Come_sp carry_Come, draymanref33_Come_sp draymanref33_Come, draymanlaw33_same_sp draymanlaw33_same, carry_Fit_sp carry_Fit, draymanref33_Fit_sp draymanref33_Fit, carry_Out_sp carry_Out, draymanref33_Out_sp draymanref33_Out, carry_Same_sp carry_Same, draymanref33_Same_sp draymanref33_Same, carry_New_sp carry_New, draymanref33_New_sp draymanref33_New]

noncomputable def draymanlaw33_CarryComes_q : FuncId → Bool := fun f => Nat.beq f 19 || Nat.beq f 21 || Nat.beq f 23 || Nat.beq f 24 || Nat.beq f 27 || Nat.beq f 28 || Nat.beq f 29 || Nat.beq f 30 || Nat.beq f 31

noncomputable def draymanlaw33_CarryComes_inl : FuncId → Bool := fun f => false

noncomputable def draymanlaw33_CarryComes_ann : FuncId → AnnT := fun f p => if f = 6 then (if p = [false, true, true, true, true] then ⟨[], [], [], [], 2, [], []⟩ else if p = [false, true, true] then ⟨[], [], [], [], 2, [], []⟩ else ⟨[], [], [], [], 0, [], []⟩) else ⟨[], [], [], [], 0, [], []⟩

noncomputable def draymanlaw33_CarryComes_loops {α : Type} (draymanlaw33_few : draymanlaw33_few_T α) (draymanlaw33_awake : draymanlaw33_awake_T α) (draymanlaw33_of : draymanlaw33_of_T α) (carry_Come : carry_Come_T α) (draymanref33_Come : draymanref33_Come_T α) (draymanlaw33_same : draymanlaw33_same_T α) (carry_Fit : carry_Fit_T α) (draymanref33_Fit : draymanref33_Fit_T α) (carry_Out : carry_Out_T α) (draymanref33_Out : draymanref33_Out_T α) (carry_Same : carry_Same_T α) (draymanref33_Same : draymanref33_Same_T α) (carry_New : carry_New_T α) (draymanref33_New : draymanref33_New_T α) : List (LoopSpec α) := []

theorem draymanlaw33_CarryComes_ev {α : Type} (draymanlaw33_few : draymanlaw33_few_T α) (draymanlaw33_awake : draymanlaw33_awake_T α) (draymanlaw33_of : draymanlaw33_of_T α) (carry_Come : carry_Come_T α) (draymanref33_Come : draymanref33_Come_T α) (draymanlaw33_same : draymanlaw33_same_T α) (carry_Fit : carry_Fit_T α) (draymanref33_Fit : draymanref33_Fit_T α) (carry_Out : carry_Out_T α) (draymanref33_Out : draymanref33_Out_T α) (carry_Same : carry_Same_T α) (draymanref33_Same : draymanref33_Same_T α) (carry_New : carry_New_T α) (draymanref33_New : draymanref33_New_T α) : EvOk (α := α) Go.Proofs.Try.prog (envOf (draymanlaw33_CarryComes_C draymanlaw33_few draymanlaw33_awake draymanlaw33_of carry_Come draymanref33_Come draymanlaw33_same carry_Fit draymanref33_Fit carry_Out draymanref33_Out carry_Same draymanref33_Same carry_New draymanref33_New) draymanlaw33_CarryComes_q draymanlaw33_CarryComes_inl 1000 draymanlaw33_CarryComes_ann false (draymanlaw33_CarryComes_loops draymanlaw33_few draymanlaw33_awake draymanlaw33_of carry_Come draymanref33_Come draymanlaw33_same carry_Fit draymanref33_Fit carry_Out draymanref33_Out carry_Same draymanref33_Same carry_New draymanref33_New) (fun _ => none)) 6 (draymanlaw33_CarryComes_sp (draymanlaw33_CarryComes_g draymanlaw33_few draymanlaw33_awake draymanlaw33_of carry_Come draymanref33_Come draymanlaw33_same carry_Fit draymanref33_Fit carry_Out draymanref33_Out carry_Same draymanref33_Same carry_New draymanref33_New)) := by intro ds k; kernel_rfl

theorem draymanlaw33_CarryComes_ok {α : Type} : (draymanlaw33_CarryComes_spec : FunSpec α).ok Go.Proofs.Try.prog :=
  FunSpec.ok_of (sp := draymanlaw33_CarryComes_spec) (C := draymanlaw33_CarryComes_C draymanlaw33_few draymanlaw33_awake draymanlaw33_of carry_Come draymanref33_Come draymanlaw33_same carry_Fit draymanref33_Fit carry_Out draymanref33_Out carry_Same draymanref33_Same carry_New draymanref33_New) (q := draymanlaw33_CarryComes_q) (inl := draymanlaw33_CarryComes_inl) (N := 1000) (ann := draymanlaw33_CarryComes_ann) (fr := false) (D := 6) (l := (draymanlaw33_CarryComes_loops draymanlaw33_few draymanlaw33_awake draymanlaw33_of carry_Come draymanref33_Come draymanlaw33_same carry_Fit draymanref33_Fit carry_Out draymanref33_Out carry_Same draymanref33_Same carry_New draymanref33_New)) (hk := (fun _ => none)) (okCons draymanlaw33_few_ok (okCons draymanlaw33_awake_ok (okCons draymanlaw33_of_ok (okCons carry_Come_ok (okCons draymanref33_Come_ok (okCons draymanlaw33_same_ok (okCons carry_Fit_ok (okCons draymanref33_Fit_ok (okCons carry_Out_ok (okCons draymanref33_Out_ok (okCons carry_Same_ok (okCons draymanref33_Same_ok (okCons carry_New_ok (okCons draymanref33_New_ok okNil)))))))))))))) lokNil noHooks (draymanlaw33_CarryComes_ev draymanlaw33_few draymanlaw33_awake draymanlaw33_of carry_Come draymanref33_Come draymanlaw33_same carry_Fit draymanref33_Fit carry_Out draymanref33_Out carry_Same draymanref33_Same carry_New draymanref33_New)

end
end Go.Rv.Try
