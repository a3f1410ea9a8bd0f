/- What the functions of the program compute, each with the proof that its code computes it. Written by a program (rvp2.py). -/
import Derived.Test.YtmoeohjaafpmgaaProg
import Derived.Test.YtmoeohjaafpmgaaRvP
import Derived.Test.YtmoeohjaafpmgaaFx
import Derived.Test.YtmoeohjaafpmgaaE2

set_option linter.unusedVariables false
set_option maxRecDepth 100000
set_option maxHeartbeats 4000000
namespace Go.Rv.Try
open Go Go.Rv Go.RowKit
noncomputable section

-- drayman/draymanref31.Same

abbrev draymanref31_Same_T (α : Type) : Type := (Seq Z1) → (Seq Z1) → (Bool → Option α) → Option α

noncomputable def draymanref31_Same_l0_step {α : Type} (kr : (Bool) → Option α) (k0 : Option α) (rec : (Seq Z1) → (Seq Z1) → (Int) → Option α) (a3 : Seq Z1) (b4 : Seq Z1) (i5 : Int) : Option α :=
  (cond (decide (i5 < (a3.n : Int)))
    (cond (((decide ((0 : Int) ≤ i5)) && (decide (i5 < (a3.n : Int)))) && ((decide ((0 : Int) ≤ i5)) && (decide (i5 < (a3.n : Int)))))
      (cond (((decide ((0 : Int) ≤ i5)) && (decide (i5 < (b4.n : Int)))) && ((decide ((0 : Int) ≤ i5)) && (decide (i5 < (b4.n : Int)))))
        (cond (!(((a3.g i5.toNat).1 == (b4.g i5.toNat).1) && (((a3.g i5.toNat).2.1 == (b4.g i5.toNat).2.1) && (((a3.g i5.toNat).2.2.1 == (b4.g i5.toNat).2.2.1) && (((a3.g i5.toNat).2.2.2.1 == (b4.g i5.toNat).2.2.2.1) && (((a3.g i5.toNat).2.2.2.2.1 == (b4.g i5.toNat).2.2.2.2.1) && (((a3.g i5.toNat).2.2.2.2.2.1 == (b4.g i5.toNat).2.2.2.2.2.1) && true)))))))
          (kr false)
          (rec a3 b4 (IntKind.i64.wrap (i5 + 1))))
        none)
      none)
    (k0))

noncomputable def draymanref31_Same_l0_run {α : Type} (kr : (Bool) → Option α) (k0 : Option α) : Nat → (Seq Z1) → (Seq Z1) → (Int) → Option α
  | 0, _, _, _ => none
  | n + 1, a3, b4, i5 => draymanref31_Same_l0_step kr k0 (fun a3 b4 i5 => draymanref31_Same_l0_run kr k0 n a3 b4 i5) a3 b4 i5

noncomputable def draymanref31_Same {α : Type} (a1 : Seq Z1) (b2 : Seq Z1) (k : Bool → Option α) : Option α :=
  (cond ((a1.n : Int) != (b2.n : Int))
    (k false)
    (draymanref31_Same_l0_run
      (fun x6 =>
        (k x6))
      ((k true))
      1000 a1 b2 0))

noncomputable def draymanref31_Same_sp {α : Type} (draymanref31_Same : draymanref31_Same_T α) : FunSpec α := ⟨46, [.sl (.int .i64 (.int .i64 (.int .i64 (.int .i64 (.int .i64 (.int .i64 (.nil))))))), .sl (.int .i64 (.int .i64 (.int .i64 (.int .i64 (.int .i64 (.int .i64 (.nil)))))))], [], fun ds k => draymanref31_Same (hdQ (.int .i64 (.int .i64 (.int .i64 (.int .i64 (.int .i64 (.int .i64 (.nil))))))) ds) (hdQ (.int .i64 (.int .i64 (.int .i64 (.int .i64 (.int .i64 (.int .i64 (.nil))))))) ds.tail) (fun r1 => k (enc dep (.bool) [.b r1]).1 [])⟩

noncomputable def draymanref31_Same_spec {α : Type} : FunSpec α := draymanref31_Same_sp draymanref31_Same

noncomputable def draymanref31_Same_C {α : Type} : List (FunSpec α) := []

noncomputable def draymanref31_Same_q : FuncId → Bool := fun f => false

noncomputable def draymanref31_Same_inl : FuncId → Bool := fun f => false

noncomputable def draymanref31_Same_ann : FuncId → AnnT := fun f p => if f = 46 then (if p = [true, false, true, true] then ⟨[0, 1, 5], [], [], [4], 0, [], [], none⟩ else ⟨[], [], [], [], 0, [], [], none⟩) else ⟨[], [], [], [], 0, [], [], none⟩

noncomputable def draymanref31_Same_l0_t : List Sh := [.sl (.int .i64 (.int .i64 (.int .i64 (.int .i64 (.int .i64 (.int .i64 (.nil))))))), .sl (.int .i64 (.int .i64 (.int .i64 (.int .i64 (.int .i64 (.int .i64 (.nil))))))), .dead, .dead, .dead, .int .i64, .dead, .dead, .dead, .dead, .dead, .dead, .dead, .dead, .dead, .dead, .dead, .dead, .dead, .dead, .dead, .dead, .dead, .dead, .dead, .dead]
noncomputable def draymanref31_Same_l0_s : List (List Sh) := []
noncomputable def draymanref31_Same_l0_h : List BSh := []

noncomputable def draymanref31_Same_l0_spec {α : Type} : LoopSpec α := ⟨6, 46, [true, false, true, true], draymanref31_Same_l0_t, draymanref31_Same_l0_s, draymanref31_Same_l0_h, fun ds k => draymanref31_Same_l0_run (fun y1 => k .ret (encSt [.dead, .dead, .dead, .dead, .bool, .dead, .dead, .dead, .dead, .dead, .dead, .dead, .dead, .dead, .dead, .dead, .dead, .dead, .dead, .dead, .dead, .dead, .dead, .dead, .dead, .dead] [] [] [.b y1])) (k (.exit 0) (encSt [.dead, .dead, .dead, .dead, .dead, .dead, .dead, .dead, .dead, .dead, .dead, .dead, .dead, .dead, .dead, .dead, .dead, .dead, .dead, .dead, .dead, .dead, .dead, .dead, .dead, .dead] [] [] [])) 1000 (hdQ (.int .i64 (.int .i64 (.int .i64 (.int .i64 (.int .i64 (.int .i64 (.nil))))))) ds) (hdQ (.int .i64 (.int .i64 (.int .i64 (.int .i64 (.int .i64 (.int .i64 (.nil))))))) ds.tail) (hdI ds.tail.tail)⟩

noncomputable def draymanref31_Same_loops {α : Type} : List (LoopSpec α) := [draymanref31_Same_l0_spec]

noncomputable def draymanref31_Same_l0_ev {α : Type} (n : Nat) (st : St) (k : X → St → Option α) : Option α := loopN (evCode Go.Proofs.Try.prog (callD Go.Proofs.Try.prog (envOf (draymanref31_Same_C) draymanref31_Same_q draymanref31_Same_inl 1000 draymanref31_Same_ann false (draymanref31_Same_loops) (fun _ => none)) 6) (((envOf (draymanref31_Same_C) draymanref31_Same_q draymanref31_Same_inl 1000 draymanref31_Same_ann false (draymanref31_Same_loops) (fun _ => none)) : Env α).L 6 46) 1000 (draymanref31_Same_ann 46) (false :: [true, false, true, true]) (loopC Go.Proofs.Try.prog 46 [true, false, true, true])) ((draymanref31_Same_ann 46 [true, false, true, true]).head 0) ((draymanref31_Same_ann 46 [true, false, true, true]).leave 0) n st k

theorem draymanref31_Same_l0_eq {α : Type} : ∀ (n : Nat) (a3 : Seq Z1) (b4 : Seq Z1) (i5 : Int) (k : X → St → Option α), draymanref31_Same_l0_ev n (encSt draymanref31_Same_l0_t draymanref31_Same_l0_s draymanref31_Same_l0_h [.q (.int .i64 (.int .i64 (.int .i64 (.int .i64 (.int .i64 (.int .i64 (.nil))))))) a3, .q (.int .i64 (.int .i64 (.int .i64 (.int .i64 (.int .i64 (.int .i64 (.nil))))))) b4, .i i5]) k = draymanref31_Same_l0_run (fun y1 => k .ret (encSt [.dead, .dead, .dead, .dead, .bool, .dead, .dead, .dead, .dead, .dead, .dead, .dead, .dead, .dead, .dead, .dead, .dead, .dead, .dead, .dead, .dead, .dead, .dead, .dead, .dead, .dead] [] [] [.b y1])) (k (.exit 0) (encSt [.dead, .dead, .dead, .dead, .dead, .dead, .dead, .dead, .dead, .dead, .dead, .dead, .dead, .dead, .dead, .dead, .dead, .dead, .dead, .dead, .dead, .dead, .dead, .dead, .dead, .dead] [] [] [])) n a3 b4 i5 := by
  intro n
  induction n with
  | zero => intros; kernel_rfl
  | succ n ih =>
    intro a3 b4 i5 k
    have e : (fun (a3 : Seq Z1) (b4 : Seq Z1) (i5 : Int) => draymanref31_Same_l0_ev n (encSt draymanref31_Same_l0_t draymanref31_Same_l0_s draymanref31_Same_l0_h [.q (.int .i64 (.int .i64 (.int .i64 (.int .i64 (.int .i64 (.int .i64 (.nil))))))) a3, .q (.int .i64 (.int .i64 (.int .i64 (.int .i64 (.int .i64 (.int .i64 (.nil))))))) b4, .i i5]) k) = (fun (a3 : Seq Z1) (b4 : Seq Z1) (i5 : Int) => draymanref31_Same_l0_run (fun y1 => k .ret (encSt [.dead, .dead, .dead, .dead, .bool, .dead, .dead, .dead, .dead, .dead, .dead, .dead, .dead, .dead, .dead, .dead, .dead, .dead, .dead, .dead, .dead, .dead, .dead, .dead, .dead, .dead] [] [] [.b y1])) (k (.exit 0) (encSt [.dead, .dead, .dead, .dead, .dead, .dead, .dead, .dead, .dead, .dead, .dead, .dead, .dead, .dead, .dead, .dead, .dead, .dead, .dead, .dead, .dead, .dead, .dead, .dead, .dead, .dead] [] [] [])) n a3 b4 i5) := by
      funext a3 b4 i5
      exact ih a3 b4 i5 k
    have h1 : draymanref31_Same_l0_ev (n + 1) (encSt draymanref31_Same_l0_t draymanref31_Same_l0_s draymanref31_Same_l0_h [.q (.int .i64 (.int .i64 (.int .i64 (.int .i64 (.int .i64 (.int .i64 (.nil))))))) a3, .q (.int .i64 (.int .i64 (.int .i64 (.int .i64 (.int .i64 (.int .i64 (.nil))))))) b4, .i i5]) k = draymanref31_Same_l0_step (fun y1 => k .ret (encSt [.dead, .dead, .dead, .dead, .bool, .dead, .dead, .dead, .dead, .dead, .dead, .dead, .dead, .dead, .dead, .dead, .dead, .dead, .dead, .dead, .dead, .dead, .dead, .dead, .dead, .dead] [] [] [.b y1])) (k (.exit 0) (encSt [.dead, .dead, .dead, .dead, .dead, .dead, .dead, .dead, .dead, .dead, .dead, .dead, .dead, .dead, .dead, .dead, .dead, .dead, .dead, .dead, .dead, .dead, .dead, .dead, .dead, .dead] [] [] [])) (fun (a3 : Seq Z1) (b4 : Seq Z1) (i5 : Int) => draymanref31_Same_l0_ev n (encSt draymanref31_Same_l0_t draymanref31_Same_l0_s draymanref31_Same_l0_h [.q (.int .i64 (.int .i64 (.int .i64 (.int .i64 (.int .i64 (.int .i64 (.nil))))))) a3, .q (.int .i64 (.int .i64 (.int .i64 (.int .i64 (.int .i64 (.int .i64 (.nil))))))) b4, .i i5]) k) a3 b4 i5 := by kernel_rfl
    have h2 := congrArg (fun r => draymanref31_Same_l0_step (fun y1 => k .ret (encSt [.dead, .dead, .dead, .dead, .bool, .dead, .dead, .dead, .dead, .dead, .dead, .dead, .dead, .dead, .dead, .dead, .dead, .dead, .dead, .dead, .dead, .dead, .dead, .dead, .dead, .dead] [] [] [.b y1])) (k (.exit 0) (encSt [.dead, .dead, .dead, .dead, .dead, .dead, .dead, .dead, .dead, .dead, .dead, .dead, .dead, .dead, .dead, .dead, .dead, .dead, .dead, .dead, .dead, .dead, .dead, .dead, .dead, .dead] [] [] [])) r a3 b4 i5) e
    have h3 : draymanref31_Same_l0_step (fun y1 => k .ret (encSt [.dead, .dead, .dead, .dead, .bool, .dead, .dead, .dead, .dead, .dead, .dead, .dead, .dead, .dead, .dead, .dead, .dead, .dead, .dead, .dead, .dead, .dead, .dead, .dead, .dead, .dead] [] [] [.b y1])) (k (.exit 0) (encSt [.dead, .dead, .dead, .dead, .dead, .dead, .dead, .dead, .dead, .dead, .dead, .dead, .dead, .dead, .dead, .dead, .dead, .dead, .dead, .dead, .dead, .dead, .dead, .dead, .dead, .dead] [] [] [])) (fun (a3 : Seq Z1) (b4 : Seq Z1) (i5 : Int) => draymanref31_Same_l0_run (fun y1 => k .ret (encSt [.dead, .dead, .dead, .dead, .bool, .dead, .dead, .dead, .dead, .dead, .dead, .dead, .dead, .dead, .dead, .dead, .dead, .dead, .dead, .dead, .dead, .dead, .dead, .dead, .dead, .dead] [] [] [.b y1])) (k (.exit 0) (encSt [.dead, .dead, .dead, .dead, .dead, .dead, .dead, .dead, .dead, .dead, .dead, .dead, .dead, .dead, .dead, .dead, .dead, .dead, .dead, .dead, .dead, .dead, .dead, .dead, .dead, .dead] [] [] [])) n a3 b4 i5) a3 b4 i5 = draymanref31_Same_l0_run (fun y1 => k .ret (encSt [.dead, .dead, .dead, .dead, .bool, .dead, .dead, .dead, .dead, .dead, .dead, .dead, .dead, .dead, .dead, .dead, .dead, .dead, .dead, .dead, .dead, .dead, .dead, .dead, .dead, .dead] [] [] [.b y1])) (k (.exit 0) (encSt [.dead, .dead, .dead, .dead, .dead, .dead, .dead, .dead, .dead, .dead, .dead, .dead, .dead, .dead, .dead, .dead, .dead, .dead, .dead, .dead, .dead, .dead, .dead, .dead, .dead, .dead] [] [] [])) (n + 1) a3 b4 i5 := by kernel_rfl
    exact h1.trans (h2.trans h3)

theorem draymanref31_Same_l0_ok {α : Type} : (draymanref31_Same_l0_spec : LoopSpec α).ok Go.Proofs.Try.prog (envOf (draymanref31_Same_C) draymanref31_Same_q draymanref31_Same_inl 1000 draymanref31_Same_ann false (draymanref31_Same_loops) (fun _ => none)) := by
  intro ds k
  have h1 : draymanref31_Same_l0_ev 1000 (encSt draymanref31_Same_l0_t draymanref31_Same_l0_s draymanref31_Same_l0_h ds) k = draymanref31_Same_l0_ev 1000 (encSt draymanref31_Same_l0_t draymanref31_Same_l0_s draymanref31_Same_l0_h [.q (.int .i64 (.int .i64 (.int .i64 (.int .i64 (.int .i64 (.int .i64 (.nil))))))) (hdQ (.int .i64 (.int .i64 (.int .i64 (.int .i64 (.int .i64 (.int .i64 (.nil))))))) ds), .q (.int .i64 (.int .i64 (.int .i64 (.int .i64 (.int .i64 (.int .i64 (.nil))))))) (hdQ (.int .i64 (.int .i64 (.int .i64 (.int .i64 (.int .i64 (.int .i64 (.nil))))))) ds.tail), .i (hdI ds.tail.tail)]) k := by kernel_rfl
  have h2 := draymanref31_Same_l0_eq 1000 (hdQ (.int .i64 (.int .i64 (.int .i64 (.int .i64 (.int .i64 (.int .i64 (.nil))))))) ds) (hdQ (.int .i64 (.int .i64 (.int .i64 (.int .i64 (.int .i64 (.int .i64 (.nil))))))) ds.tail) (hdI ds.tail.tail) k
  exact h1.trans h2

theorem draymanref31_Same_ev {α : Type} : EvOk (α := α) Go.Proofs.Try.prog (envOf (draymanref31_Same_C) draymanref31_Same_q draymanref31_Same_inl 1000 draymanref31_Same_ann false (draymanref31_Same_loops) (fun _ => none)) 6 (draymanref31_Same_sp (draymanref31_Same)) := by intro ds k; kernel_rfl

theorem draymanref31_Same_ok {α : Type} : (draymanref31_Same_spec : FunSpec α).ok Go.Proofs.Try.prog :=
  FunSpec.ok_of (sp := draymanref31_Same_spec) (C := draymanref31_Same_C) (q := draymanref31_Same_q) (inl := draymanref31_Same_inl) (N := 1000) (ann := draymanref31_Same_ann) (fr := false) (D := 6) (l := (draymanref31_Same_loops)) (hk := (fun _ => none)) okNil (lokCons (draymanref31_Same_l0_ok) lokNil) noHooks (draymanref31_Same_ev)

end
end Go.Rv.Try

set_option linter.unusedVariables false
set_option maxRecDepth 100000
set_option maxHeartbeats 4000000
namespace Go.Rv.Try
open Go Go.Rv Go.RowKit
noncomputable section

-- slices.Equal[[]drayman/api.Key,drayman/api.Key]

abbrev slices_Equal_api_Key_api_Key_T (α : Type) : Type := (Seq Z1) → (Seq Z1) → (Bool → Option α) → Option α

noncomputable def slices_Equal_api_Key_api_Key_l0_step {α : Type} (kr : (Bool) → Option α) (k0 : Option α) (rec : (Seq Z1) → (Seq Z1) → (Int) → (Int) → Option α) (x3 : Seq Z1) (x4 : Seq Z1) (x5 : Int) (x6 : Int) : Option α :=
  (cond (decide (x6 < x5))
    (cond (((decide ((0 : Int) ≤ x6)) && (decide (x6 < (x3.n : Int)))) && ((decide ((0 : Int) ≤ x6)) && (decide (x6 < (x3.n : Int)))))
      (cond (((decide ((0 : Int) ≤ x6)) && (decide (x6 < (x4.n : Int)))) && ((decide ((0 : Int) ≤ x6)) && (decide (x6 < (x4.n : Int)))))
        (cond (!(((x3.g x6.toNat).1 == (x4.g x6.toNat).1) && (((x3.g x6.toNat).2.1 == (x4.g x6.toNat).2.1) && (((x3.g x6.toNat).2.2.1 == (x4.g x6.toNat).2.2.1) && (((x3.g x6.toNat).2.2.2.1 == (x4.g x6.toNat).2.2.2.1) && (((x3.g x6.toNat).2.2.2.2.1 == (x4.g x6.toNat).2.2.2.2.1) && (((x3.g x6.toNat).2.2.2.2.2.1 == (x4.g x6.toNat).2.2.2.2.2.1) && true)))))))
          (kr false)
          (rec x3 x4 x5 (IntKind.i64.wrap (x6 + 1))))
        none)
      none)
    (k0))

noncomputable def slices_Equal_api_Key_api_Key_l0_run {α : Type} (kr : (Bool) → Option α) (k0 : Option α) : Nat → (Seq Z1) → (Seq Z1) → (Int) → (Int) → Option α
  | 0, _, _, _, _ => none
  | n + 1, x3, x4, x5, x6 => slices_Equal_api_Key_api_Key_l0_step kr k0 (fun x3 x4 x5 x6 => slices_Equal_api_Key_api_Key_l0_run kr k0 n x3 x4 x5 x6) x3 x4 x5 x6

noncomputable def slices_Equal_api_Key_api_Key {α : Type} (x1 : Seq Z1) (x2 : Seq Z1) (k : Bool → Option α) : Option α :=
  (cond ((x1.n : Int) != (x2.n : Int))
    (k false)
    (slices_Equal_api_Key_api_Key_l0_run
      (fun x7 =>
        (k x7))
      ((k true))
      1000 x1 x2 (x1.n : Int) 0))

noncomputable def slices_Equal_api_Key_api_Key_sp {α : Type} (slices_Equal_api_Key_api_Key : slices_Equal_api_Key_api_Key_T α) : FunSpec α := ⟨45, [.sl (.int .i64 (.int .i64 (.int .i64 (.int .i64 (.int .i64 (.int .i64 (.nil))))))), .sl (.int .i64 (.int .i64 (.int .i64 (.int .i64 (.int .i64 (.int .i64 (.nil)))))))], [], fun ds k => slices_Equal_api_Key_api_Key (hdQ (.int .i64 (.int .i64 (.int .i64 (.int .i64 (.int .i64 (.int .i64 (.nil))))))) ds) (hdQ (.int .i64 (.int .i64 (.int .i64 (.int .i64 (.int .i64 (.int .i64 (.nil))))))) ds.tail) (fun r1 => k (enc dep (.bool) [.b r1]).1 [])⟩

noncomputable def slices_Equal_api_Key_api_Key_spec {α : Type} : FunSpec α := slices_Equal_api_Key_api_Key_sp slices_Equal_api_Key_api_Key

noncomputable def slices_Equal_api_Key_api_Key_C {α : Type} : List (FunSpec α) := []

noncomputable def slices_Equal_api_Key_api_Key_q : FuncId → Bool := fun f => false

noncomputable def slices_Equal_api_Key_api_Key_inl : FuncId → Bool := fun f => false

noncomputable def slices_Equal_api_Key_api_Key_ann : FuncId → AnnT := fun f p => if f = 45 then (if p = [true, false, true, true] then ⟨[0, 1, 12, 13], [], [], [4], 0, [], [], none⟩ else ⟨[], [], [], [], 0, [], [], none⟩) else ⟨[], [], [], [], 0, [], [], none⟩

noncomputable def slices_Equal_api_Key_api_Key_l0_t : List Sh := [.sl (.int .i64 (.int .i64 (.int .i64 (.int .i64 (.int .i64 (.int .i64 (.nil))))))), .sl (.int .i64 (.int .i64 (.int .i64 (.int .i64 (.int .i64 (.int .i64 (.nil))))))), .dead, .dead, .dead, .dead, .dead, .dead, .dead, .dead, .dead, .dead, .int .i64, .int .i64, .dead, .dead, .dead, .dead, .dead, .dead, .dead, .dead, .dead, .dead, .dead, .dead]
noncomputable def slices_Equal_api_Key_api_Key_l0_s : List (List Sh) := []
noncomputable def slices_Equal_api_Key_api_Key_l0_h : List BSh := []

noncomputable def slices_Equal_api_Key_api_Key_l0_spec {α : Type} : LoopSpec α := ⟨6, 45, [true, false, true, true], slices_Equal_api_Key_api_Key_l0_t, slices_Equal_api_Key_api_Key_l0_s, slices_Equal_api_Key_api_Key_l0_h, fun ds k => slices_Equal_api_Key_api_Key_l0_run (fun y1 => k .ret (encSt [.dead, .dead, .dead, .dead, .bool, .dead, .dead, .dead, .dead, .dead, .dead, .dead, .dead, .dead, .dead, .dead, .dead, .dead, .dead, .dead, .dead, .dead, .dead, .dead, .dead, .dead] [] [] [.b y1])) (k (.exit 0) (encSt [.dead, .dead, .dead, .dead, .dead, .dead, .dead, .dead, .dead, .dead, .dead, .dead, .dead, .dead, .dead, .dead, .dead, .dead, .dead, .dead, .dead, .dead, .dead, .dead, .dead, .dead] [] [] [])) 1000 (hdQ (.int .i64 (.int .i64 (.int .i64 (.int .i64 (.int .i64 (.int .i64 (.nil))))))) ds) (hdQ (.int .i64 (.int .i64 (.int .i64 (.int .i64 (.int .i64 (.int .i64 (.nil))))))) ds.tail) (hdI ds.tail.tail) (hdI ds.tail.tail.tail)⟩

noncomputable def slices_Equal_api_Key_api_Key_loops {α : Type} : List (LoopSpec α) := [slices_Equal_api_Key_api_Key_l0_spec]

noncomputable def slices_Equal_api_Key_api_Key_l0_ev {α : Type} (n : Nat) (st : St) (k : X → St → Option α) : Option α := loopN (evCode Go.Proofs.Try.prog (callD Go.Proofs.Try.prog (envOf (slices_Equal_api_Key_api_Key_C) slices_Equal_api_Key_api_Key_q slices_Equal_api_Key_api_Key_inl 1000 slices_Equal_api_Key_api_Key_ann false (slices_Equal_api_Key_api_Key_loops) (fun _ => none)) 6) (((envOf (slices_Equal_api_Key_api_Key_C) slices_Equal_api_Key_api_Key_q slices_Equal_api_Key_api_Key_inl 1000 slices_Equal_api_Key_api_Key_ann false (slices_Equal_api_Key_api_Key_loops) (fun _ => none)) : Env α).L 6 45) 1000 (slices_Equal_api_Key_api_Key_ann 45) (false :: [true, false, true, true]) (loopC Go.Proofs.Try.prog 45 [true, false, true, true])) ((slices_Equal_api_Key_api_Key_ann 45 [true, false, true, true]).head 0) ((slices_Equal_api_Key_api_Key_ann 45 [true, false, true, true]).leave 0) n st k

theorem slices_Equal_api_Key_api_Key_l0_eq {α : Type} : ∀ (n : Nat) (x3 : Seq Z1) (x4 : Seq Z1) (x5 : Int) (x6 : Int) (k : X → St → Option α), slices_Equal_api_Key_api_Key_l0_ev n (encSt slices_Equal_api_Key_api_Key_l0_t slices_Equal_api_Key_api_Key_l0_s slices_Equal_api_Key_api_Key_l0_h [.q (.int .i64 (.int .i64 (.int .i64 (.int .i64 (.int .i64 (.int .i64 (.nil))))))) x3, .q (.int .i64 (.int .i64 (.int .i64 (.int .i64 (.int .i64 (.int .i64 (.nil))))))) x4, .i x5, .i x6]) k = slices_Equal_api_Key_api_Key_l0_run (fun y1 => k .ret (encSt [.dead, .dead, .dead, .dead, .bool, .dead, .dead, .dead, .dead, .dead, .dead, .dead, .dead, .dead, .dead, .dead, .dead, .dead, .dead, .dead, .dead, .dead, .dead, .dead, .dead, .dead] [] [] [.b y1])) (k (.exit 0) (encSt [.dead, .dead, .dead, .dead, .dead, .dead, .dead, .dead, .dead, .dead, .dead, .dead, .dead, .dead, .dead, .dead, .dead, .dead, .dead, .dead, .dead, .dead, .dead, .dead, .dead, .dead] [] [] [])) n x3 x4 x5 x6 := by
  intro n
  induction n with
  | zero => intros; kernel_rfl
  | succ n ih =>
    intro x3 x4 x5 x6 k
    have e : (fun (x3 : Seq Z1) (x4 : Seq Z1) (x5 : Int) (x6 : Int) => slices_Equal_api_Key_api_Key_l0_ev n (encSt slices_Equal_api_Key_api_Key_l0_t slices_Equal_api_Key_api_Key_l0_s slices_Equal_api_Key_api_Key_l0_h [.q (.int .i64 (.int .i64 (.int .i64 (.int .i64 (.int .i64 (.int .i64 (.nil))))))) x3, .q (.int .i64 (.int .i64 (.int .i64 (.int .i64 (.int .i64 (.int .i64 (.nil))))))) x4, .i x5, .i x6]) k) = (fun (x3 : Seq Z1) (x4 : Seq Z1) (x5 : Int) (x6 : Int) => slices_Equal_api_Key_api_Key_l0_run (fun y1 => k .ret (encSt [.dead, .dead, .dead, .dead, .bool, .dead, .dead, .dead, .dead, .dead, .dead, .dead, .dead, .dead, .dead, .dead, .dead, .dead, .dead, .dead, .dead, .dead, .dead, .dead, .dead, .dead] [] [] [.b y1])) (k (.exit 0) (encSt [.dead, .dead, .dead, .dead, .dead, .dead, .dead, .dead, .dead, .dead, .dead, .dead, .dead, .dead, .dead, .dead, .dead, .dead, .dead, .dead, .dead, .dead, .dead, .dead, .dead, .dead] [] [] [])) n x3 x4 x5 x6) := by
      funext x3 x4 x5 x6
      exact ih x3 x4 x5 x6 k
    have h1 : slices_Equal_api_Key_api_Key_l0_ev (n + 1) (encSt slices_Equal_api_Key_api_Key_l0_t slices_Equal_api_Key_api_Key_l0_s slices_Equal_api_Key_api_Key_l0_h [.q (.int .i64 (.int .i64 (.int .i64 (.int .i64 (.int .i64 (.int .i64 (.nil))))))) x3, .q (.int .i64 (.int .i64 (.int .i64 (.int .i64 (.int .i64 (.int .i64 (.nil))))))) x4, .i x5, .i x6]) k = slices_Equal_api_Key_api_Key_l0_step (fun y1 => k .ret (encSt [.dead, .dead, .dead, .dead, .bool, .dead, .dead, .dead, .dead, .dead, .dead, .dead, .dead, .dead, .dead, .dead, .dead, .dead, .dead, .dead, .dead, .dead, .dead, .dead, .dead, .dead] [] [] [.b y1])) (k (.exit 0) (encSt [.dead, .dead, .dead, .dead, .dead, .dead, .dead, .dead, .dead, .dead, .dead, .dead, .dead, .dead, .dead, .dead, .dead, .dead, .dead, .dead, .dead, .dead, .dead, .dead, .dead, .dead] [] [] [])) (fun (x3 : Seq Z1) (x4 : Seq Z1) (x5 : Int) (x6 : Int) => slices_Equal_api_Key_api_Key_l0_ev n (encSt slices_Equal_api_Key_api_Key_l0_t slices_Equal_api_Key_api_Key_l0_s slices_Equal_api_Key_api_Key_l0_h [.q (.int .i64 (.int .i64 (.int .i64 (.int .i64 (.int .i64 (.int .i64 (.nil))))))) x3, .q (.int .i64 (.int .i64 (.int .i64 (.int .i64 (.int .i64 (.int .i64 (.nil))))))) x4, .i x5, .i x6]) k) x3 x4 x5 x6 := by kernel_rfl
    have h2 := congrArg (fun r => slices_Equal_api_Key_api_Key_l0_step (fun y1 => k .ret (encSt [.dead, .dead, .dead, .dead, .bool, .dead, .dead, .dead, .dead, .dead, .dead, .dead, .dead, .dead, .dead, .dead, .dead, .dead, .dead, .dead, .dead, .dead, .dead, .dead, .dead, .dead] [] [] [.b y1])) (k (.exit 0) (encSt [.dead, .dead, .dead, .dead, .dead, .dead, .dead, .dead, .dead, .dead, .dead, .dead, .dead, .dead, .dead, .dead, .dead, .dead, .dead, .dead, .dead, .dead, .dead, .dead, .dead, .dead] [] [] [])) r x3 x4 x5 x6) e
    have h3 : slices_Equal_api_Key_api_Key_l0_step (fun y1 => k .ret (encSt [.dead, .dead, .dead, .dead, .bool, .dead, .dead, .dead, .dead, .dead, .dead, .dead, .dead, .dead, .dead, .dead, .dead, .dead, .dead, .dead, .dead, .dead, .dead, .dead, .dead, .dead] [] [] [.b y1])) (k (.exit 0) (encSt [.dead, .dead, .dead, .dead, .dead, .dead, .dead, .dead, .dead, .dead, .dead, .dead, .dead, .dead, .dead, .dead, .dead, .dead, .dead, .dead, .dead, .dead, .dead, .dead, .dead, .dead] [] [] [])) (fun (x3 : Seq Z1) (x4 : Seq Z1) (x5 : Int) (x6 : Int) => slices_Equal_api_Key_api_Key_l0_run (fun y1 => k .ret (encSt [.dead, .dead, .dead, .dead, .bool, .dead, .dead, .dead, .dead, .dead, .dead, .dead, .dead, .dead, .dead, .dead, .dead, .dead, .dead, .dead, .dead, .dead, .dead, .dead, .dead, .dead] [] [] [.b y1])) (k (.exit 0) (encSt [.dead, .dead, .dead, .dead, .dead, .dead, .dead, .dead, .dead, .dead, .dead, .dead, .dead, .dead, .dead, .dead, .dead, .dead, .dead, .dead, .dead, .dead, .dead, .dead, .dead, .dead] [] [] [])) n x3 x4 x5 x6) x3 x4 x5 x6 = slices_Equal_api_Key_api_Key_l0_run (fun y1 => k .ret (encSt [.dead, .dead, .dead, .dead, .bool, .dead, .dead, .dead, .dead, .dead, .dead, .dead, .dead, .dead, .dead, .dead, .dead, .dead, .dead, .dead, .dead, .dead, .dead, .dead, .dead, .dead] [] [] [.b y1])) (k (.exit 0) (encSt [.dead, .dead, .dead, .dead, .dead, .dead, .dead, .dead, .dead, .dead, .dead, .dead, .dead, .dead, .dead, .dead, .dead, .dead, .dead, .dead, .dead, .dead, .dead, .dead, .dead, .dead] [] [] [])) (n + 1) x3 x4 x5 x6 := by kernel_rfl
    exact h1.trans (h2.trans h3)

theorem slices_Equal_api_Key_api_Key_l0_ok {α : Type} : (slices_Equal_api_Key_api_Key_l0_spec : LoopSpec α).ok Go.Proofs.Try.prog (envOf (slices_Equal_api_Key_api_Key_C) slices_Equal_api_Key_api_Key_q slices_Equal_api_Key_api_Key_inl 1000 slices_Equal_api_Key_api_Key_ann false (slices_Equal_api_Key_api_Key_loops) (fun _ => none)) := by
  intro ds k
  have h1 : slices_Equal_api_Key_api_Key_l0_ev 1000 (encSt slices_Equal_api_Key_api_Key_l0_t slices_Equal_api_Key_api_Key_l0_s slices_Equal_api_Key_api_Key_l0_h ds) k = slices_Equal_api_Key_api_Key_l0_ev 1000 (encSt slices_Equal_api_Key_api_Key_l0_t slices_Equal_api_Key_api_Key_l0_s slices_Equal_api_Key_api_Key_l0_h [.q (.int .i64 (.int .i64 (.int .i64 (.int .i64 (.int .i64 (.int .i64 (.nil))))))) (hdQ (.int .i64 (.int .i64 (.int .i64 (.int .i64 (.int .i64 (.int .i64 (.nil))))))) ds), .q (.int .i64 (.int .i64 (.int .i64 (.int .i64 (.int .i64 (.int .i64 (.nil))))))) (hdQ (.int .i64 (.int .i64 (.int .i64 (.int .i64 (.int .i64 (.int .i64 (.nil))))))) ds.tail), .i (hdI ds.tail.tail), .i (hdI ds.tail.tail.tail)]) k := by kernel_rfl
  have h2 := slices_Equal_api_Key_api_Key_l0_eq 1000 (hdQ (.int .i64 (.int .i64 (.int .i64 (.int .i64 (.int .i64 (.int .i64 (.nil))))))) ds) (hdQ (.int .i64 (.int .i64 (.int .i64 (.int .i64 (.int .i64 (.int .i64 (.nil))))))) ds.tail) (hdI ds.tail.tail) (hdI ds.tail.tail.tail) k
  exact h1.trans h2

theorem slices_Equal_api_Key_api_Key_ev {α : Type} : EvOk (α := α) Go.Proofs.Try.prog (envOf (slices_Equal_api_Key_api_Key_C) slices_Equal_api_Key_api_Key_q slices_Equal_api_Key_api_Key_inl 1000 slices_Equal_api_Key_api_Key_ann false (slices_Equal_api_Key_api_Key_loops) (fun _ => none)) 6 (slices_Equal_api_Key_api_Key_sp (slices_Equal_api_Key_api_Key)) := by intro ds k; kernel_rfl

theorem slices_Equal_api_Key_api_Key_ok {α : Type} : (slices_Equal_api_Key_api_Key_spec : FunSpec α).ok Go.Proofs.Try.prog :=
  FunSpec.ok_of (sp := slices_Equal_api_Key_api_Key_spec) (C := slices_Equal_api_Key_api_Key_C) (q := slices_Equal_api_Key_api_Key_q) (inl := slices_Equal_api_Key_api_Key_inl) (N := 1000) (ann := slices_Equal_api_Key_api_Key_ann) (fr := false) (D := 6) (l := (slices_Equal_api_Key_api_Key_loops)) (hk := (fun _ => none)) okNil (lokCons (slices_Equal_api_Key_api_Key_l0_ok) lokNil) noHooks (slices_Equal_api_Key_api_Key_ev)

end
end Go.Rv.Try

set_option linter.unusedVariables false
set_option maxRecDepth 100000
set_option maxHeartbeats 4000000
namespace Go.Rv.Try
open Go Go.Rv Go.RowKit
noncomputable section

-- drayman/pay.Same

abbrev pay_Same_T (α : Type) : Type := ((Seq Z1) × Int × Int × Int × Unit) → ((Seq Z1) × Int × Int × Int × Unit) → (Bool → Option α) → Option α

noncomputable def pay_Same_g {α : Type} (slices_Equal_api_Key_api_Key : slices_Equal_api_Key_api_Key_T α) (a1 : (Seq Z1) × Int × Int × Int × Unit) (b2 : (Seq Z1) × Int × Int × Int × Unit) (k : Bool → Option α) : Option α :=
  (cond (a1.2.1 == b2.2.1)
    (cond (a1.2.2.1 == b2.2.2.1)
      (cond (a1.2.2.2.1 == b2.2.2.2.1)
        (slices_Equal_api_Key_api_Key a1.1 b2.1 fun r3 =>
          (k r3))
        (k false))
      (k false))
    (k false))

noncomputable def pay_Same {α : Type} : pay_Same_T α := pay_Same_g slices_Equal_api_Key_api_Key

noncomputable def pay_Same_sp {α : Type} (pay_Same : pay_Same_T α) : FunSpec α := ⟨16, [.agg [.sl (.int .i64 (.int .i64 (.int .i64 (.int .i64 (.int .i64 (.int .i64 (.nil))))))), .int .i64, .int .i64, .int .i64], .agg [.sl (.int .i64 (.int .i64 (.int .i64 (.int .i64 (.int .i64 (.int .i64 (.nil))))))), .int .i64, .int .i64, .int .i64]], [], fun ds k => pay_Same (hdQ (.int .i64 (.int .i64 (.int .i64 (.int .i64 (.int .i64 (.int .i64 (.nil))))))) ds, hdI ds.tail, hdI ds.tail.tail, hdI ds.tail.tail.tail, ()) (hdQ (.int .i64 (.int .i64 (.int .i64 (.int .i64 (.int .i64 (.int .i64 (.nil))))))) ds.tail.tail.tail.tail, hdI ds.tail.tail.tail.tail.tail, hdI ds.tail.tail.tail.tail.tail.tail, hdI ds.tail.tail.tail.tail.tail.tail.tail, ()) (fun r1 => k (enc dep (.bool) [.b r1]).1 [])⟩

noncomputable def pay_Same_spec {α : Type} : FunSpec α := pay_Same_sp pay_Same

noncomputable def pay_Same_C {α : Type} (slices_Equal_api_Key_api_Key : slices_Equal_api_Key_api_Key_T α) : List (FunSpec α) := [slices_Equal_api_Key_api_Key_sp slices_Equal_api_Key_api_Key]

noncomputable def pay_Same_q : FuncId → Bool := fun f => Nat.beq f 45

noncomputable def pay_Same_inl : FuncId → Bool := fun f => false

noncomputable def pay_Same_ann : FuncId → AnnT := fun f p => ⟨[], [], [], [], 0, [], [], none⟩

noncomputable def pay_Same_loops {α : Type} (slices_Equal_api_Key_api_Key : slices_Equal_api_Key_api_Key_T α) : List (LoopSpec α) := []

theorem pay_Same_ev {α : Type} (slices_Equal_api_Key_api_Key : slices_Equal_api_Key_api_Key_T α) : EvOk (α := α) Go.Proofs.Try.prog (envOf (pay_Same_C slices_Equal_api_Key_api_Key) pay_Same_q pay_Same_inl 1000 pay_Same_ann false (pay_Same_loops slices_Equal_api_Key_api_Key) (fun _ => none)) 6 (pay_Same_sp (pay_Same_g slices_Equal_api_Key_api_Key)) := by intro ds k; kernel_rfl

theorem pay_Same_ok {α : Type} : (pay_Same_spec : FunSpec α).ok Go.Proofs.Try.prog :=
  FunSpec.ok_of (sp := pay_Same_spec) (C := pay_Same_C slices_Equal_api_Key_api_Key) (q := pay_Same_q) (inl := pay_Same_inl) (N := 1000) (ann := pay_Same_ann) (fr := false) (D := 6) (l := (pay_Same_loops slices_Equal_api_Key_api_Key)) (hk := (fun _ => none)) (okCons slices_Equal_api_Key_api_Key_ok okNil) lokNil noHooks (pay_Same_ev slices_Equal_api_Key_api_Key)

end
end Go.Rv.Try

set_option linter.unusedVariables false
set_option maxRecDepth 100000
set_option maxHeartbeats 4000000
namespace Go.Rv.Try
open Go Go.Rv Go.RowKit
noncomputable section

-- drayman/draymanref32.within

abbrev draymanref32_within_T (α : Type) : Type := Int → (Bool → Option α) → Option α

noncomputable def draymanref32_within {α : Type} (n1 : Int) (k : Bool → Option α) : Option α :=
  (cond (decide (n1 ≥ (-1152921504606846976)))
    (k (decide (n1 ≤ 1152921504606846976)))
    (k false))

noncomputable def draymanref32_within_sp {α : Type} (draymanref32_within : draymanref32_within_T α) : FunSpec α := ⟨44, [.int .i64], [], fun ds k => draymanref32_within (hdI ds) (fun r1 => k (enc dep (.bool) [.b r1]).1 [])⟩

noncomputable def draymanref32_within_spec {α : Type} : FunSpec α := draymanref32_within_sp draymanref32_within

noncomputable def draymanref32_within_C {α : Type} : List (FunSpec α) := []

noncomputable def draymanref32_within_q : FuncId → Bool := fun f => false

noncomputable def draymanref32_within_inl : FuncId → Bool := fun f => false

noncomputable def draymanref32_within_ann : FuncId → AnnT := fun f p => ⟨[], [], [], [], 0, [], [], none⟩

noncomputable def draymanref32_within_loops {α : Type} : List (LoopSpec α) := []

theorem draymanref32_within_ev {α : Type} : EvOk (α := α) Go.Proofs.Try.prog (envOf (draymanref32_within_C) draymanref32_within_q draymanref32_within_inl 1000 draymanref32_within_ann false (draymanref32_within_loops) (fun _ => none)) 6 (draymanref32_within_sp (draymanref32_within)) := by intro ds k; kernel_rfl

theorem draymanref32_within_ok {α : Type} : (draymanref32_within_spec : FunSpec α).ok Go.Proofs.Try.prog :=
  FunSpec.ok_of (sp := draymanref32_within_spec) (C := draymanref32_within_C) (q := draymanref32_within_q) (inl := draymanref32_within_inl) (N := 1000) (ann := draymanref32_within_ann) (fr := false) (D := 6) (l := (draymanref32_within_loops)) (hk := (fun _ => none)) okNil lokNil noHooks (draymanref32_within_ev)

end
end Go.Rv.Try

set_option linter.unusedVariables false
set_option maxRecDepth 100000
set_option maxHeartbeats 4000000
namespace Go.Rv.Try
open Go Go.Rv Go.RowKit
noncomputable section

-- drayman/draymanref32.Fit

abbrev draymanref32_Fit_T (α : Type) : Type := ((Seq Z1) × Int × Int × Int × Unit) → (Bool → Option α) → Option α

noncomputable def draymanref32_Fit_g {α : Type} (draymanref31_Fit : draymanref31_Fit_T α) (draymanref32_within : draymanref32_within_T α) (t1 : (Seq Z1) × Int × Int × Int × Unit) (k : Bool → Option α) : Option α :=
  (draymanref31_Fit t1.1 fun r2 =>
    (cond r2
      (cond (decide (t1.2.1 ≥ 1))
        (cond (decide (t1.2.1 ≤ 1099511627776))
          (draymanref32_within t1.2.2.1 fun r3 =>
            (cond r3
              (draymanref32_within t1.2.2.2.1 fun r4 =>
                (k r4))
              (k false)))
          (k false))
        (k false))
      (k false)))

noncomputable def draymanref32_Fit {α : Type} : draymanref32_Fit_T α := draymanref32_Fit_g draymanref31_Fit draymanref32_within

noncomputable def draymanref32_Fit_sp {α : Type} (draymanref32_Fit : draymanref32_Fit_T α) : FunSpec α := ⟨15, [.agg [.sl (.int .i64 (.int .i64 (.int .i64 (.int .i64 (.int .i64 (.int .i64 (.nil))))))), .int .i64, .int .i64, .int .i64]], [], fun ds k => draymanref32_Fit (hdQ (.int .i64 (.int .i64 (.int .i64 (.int .i64 (.int .i64 (.int .i64 (.nil))))))) ds, hdI ds.tail, hdI ds.tail.tail, hdI ds.tail.tail.tail, ()) (fun r1 => k (enc dep (.bool) [.b r1]).1 [])⟩

noncomputable def draymanref32_Fit_spec {α : Type} : FunSpec α := draymanref32_Fit_sp draymanref32_Fit

noncomputable def draymanref32_Fit_C {α : Type} (draymanref31_Fit : draymanref31_Fit_T α) (draymanref32_within : draymanref32_within_T α) : List (FunSpec α) := [draymanref31_Fit_sp draymanref31_Fit, draymanref32_within_sp draymanref32_within]

noncomputable def draymanref32_Fit_q : FuncId → Bool := fun f => Nat.beq f 11 || Nat.beq f 44

noncomputable def draymanref32_Fit_inl : FuncId → Bool := fun f => false

noncomputable def draymanref32_Fit_ann : FuncId → AnnT := fun f p => ⟨[], [], [], [], 0, [], [], none⟩

noncomputable def draymanref32_Fit_loops {α : Type} (draymanref31_Fit : draymanref31_Fit_T α) (draymanref32_within : draymanref32_within_T α) : List (LoopSpec α) := []

theorem draymanref32_Fit_ev {α : Type} (draymanref31_Fit : draymanref31_Fit_T α) (draymanref32_within : draymanref32_within_T α) : EvOk (α := α) Go.Proofs.Try.prog (envOf (draymanref32_Fit_C draymanref31_Fit draymanref32_within) draymanref32_Fit_q draymanref32_Fit_inl 1000 draymanref32_Fit_ann false (draymanref32_Fit_loops draymanref31_Fit draymanref32_within) (fun _ => none)) 6 (draymanref32_Fit_sp (draymanref32_Fit_g draymanref31_Fit draymanref32_within)) := by intro ds k; kernel_rfl

theorem draymanref32_Fit_ok {α : Type} : (draymanref32_Fit_spec : FunSpec α).ok Go.Proofs.Try.prog :=
  FunSpec.ok_of (sp := draymanref32_Fit_spec) (C := draymanref32_Fit_C draymanref31_Fit draymanref32_within) (q := draymanref32_Fit_q) (inl := draymanref32_Fit_inl) (N := 1000) (ann := draymanref32_Fit_ann) (fr := false) (D := 6) (l := (draymanref32_Fit_loops draymanref31_Fit draymanref32_within)) (hk := (fun _ => none)) (okCons draymanref31_Fit_ok (okCons draymanref32_within_ok okNil)) lokNil noHooks (draymanref32_Fit_ev draymanref31_Fit draymanref32_within)

end
end Go.Rv.Try

set_option linter.unusedVariables false
set_option maxRecDepth 100000
set_option maxHeartbeats 4000000
namespace Go.Rv.Try
open Go Go.Rv Go.RowKit
noncomputable section

-- drayman/draymanref32.Come

abbrev draymanref32_Come_T (α : Type) : Type := ((Seq Z1) × Int × Int × Int × Unit) → Z0 → Int → (((Seq Z1) × Int × Int × Int × Unit) → (Int × Int × Int × Int × Bool × Int × Int × Unit) → Int → Option α) → Option α

noncomputable def draymanref32_Come_g {α : Type} (draymanref32_Fit : draymanref32_Fit_T α) (draymanref17_Service : draymanref17_Service_T α) (draymanref31_Come : draymanref31_Come_T α) (draymanref31_Find : draymanref31_Find_T α) (draymanref32_within : draymanref32_within_T α) (x1 : (Seq Z1) × Int × Int × Int × Unit) (x2 : Int × Int × Int × Bool × Int × Int × Bool × Unit) (x3 : Int) (k : ((Seq Z1) × Int × Int × Int × Unit) → (Int × Int × Int × Int × Bool × Int × Int × Unit) → Int → Option α) : Option α :=
  (draymanref32_Fit x1 fun r4 =>
    (cond (!r4)
      (k ((⟨true, 0, (fun _ => (0, 0, 0, 0, 0, 0, ()))⟩ : Seq Z1), 0, 0, 0, ()) (0, 0, 0, 0, false, 0, 0, ()) 12)
      (draymanref17_Service x2.2.2.2.2.1 fun r5 =>
        (cond (r5 != 1)
          (k ((⟨true, 0, (fun _ => (0, 0, 0, 0, 0, 0, ()))⟩ : Seq Z1), 0, 0, 0, ()) (0, 0, 0, 0, false, 0, 0, ()) 1)
          (draymanref31_Come x1.1 x2 x3 fun r6 r7 r8 r9 =>
            (cond (r9 != 0)
              (k ((⟨true, 0, (fun _ => (0, 0, 0, 0, 0, 0, ()))⟩ : Seq Z1), 0, 0, 0, ()) (0, 0, 0, 0, false, 0, 0, ()) r9)
              (cond r8
                (draymanref31_Find r6 x2.2.1 x2.2.2.1 fun r10 r11 =>
                  (cond x2.2.2.2.1
                    (cond (x2.2.2.2.2.1 == 2)
                      (cond (!(x1.2.1 == 1099511627776))
                        (draymanref32_within (IntKind.i64.wrap (x1.2.2.1 + (IntKind.i64.wrap (0 - r10.2.2.2.2.2.1)))) fun r12 =>
                          (cond (!(!r12))
                            (draymanref32_within x1.2.2.2.1 fun r13 =>
                              (cond (!r13)
                                (k ((⟨true, 0, (fun _ => (0, 0, 0, 0, 0, 0, ()))⟩ : Seq Z1), 0, 0, 0, ()) (0, 0, 0, 0, false, 0, 0, ()) 5)
                                (k (r6, (IntKind.i64.wrap (x1.2.1 + 1)), (IntKind.i64.wrap (x1.2.2.1 + (IntKind.i64.wrap (0 - r10.2.2.2.2.2.1)))), x1.2.2.2.1, ()) (1, x1.2.1, x2.2.1, x2.2.2.1, x2.2.2.2.1, x2.1, r7, ()) 0)))
                            (k ((⟨true, 0, (fun _ => (0, 0, 0, 0, 0, 0, ()))⟩ : Seq Z1), 0, 0, 0, ()) (0, 0, 0, 0, false, 0, 0, ()) 5)))
                        (k ((⟨true, 0, (fun _ => (0, 0, 0, 0, 0, 0, ()))⟩ : Seq Z1), 0, 0, 0, ()) (0, 0, 0, 0, false, 0, 0, ()) 5))
                      (cond (!(x1.2.1 == 1099511627776))
                        (draymanref32_within (IntKind.i64.wrap (x1.2.2.1 - (IntKind.i64.wrap (0 - r10.2.2.2.2.2.1)))) fun r14 =>
                          (cond (!(!r14))
                            (draymanref32_within (IntKind.i64.wrap (x1.2.2.2.1 + (IntKind.i64.wrap (0 - r10.2.2.2.2.2.1)))) fun r15 =>
                              (cond (!r15)
                                (k ((⟨true, 0, (fun _ => (0, 0, 0, 0, 0, 0, ()))⟩ : Seq Z1), 0, 0, 0, ()) (0, 0, 0, 0, false, 0, 0, ()) 5)
                                (k (r6, (IntKind.i64.wrap (x1.2.1 + 1)), (IntKind.i64.wrap (x1.2.2.1 - (IntKind.i64.wrap (0 - r10.2.2.2.2.2.1)))), (IntKind.i64.wrap (x1.2.2.2.1 + (IntKind.i64.wrap (0 - r10.2.2.2.2.2.1)))), ()) (1, x1.2.1, x2.2.1, x2.2.2.1, x2.2.2.2.1, x2.1, r7, ()) 0)))
                            (k ((⟨true, 0, (fun _ => (0, 0, 0, 0, 0, 0, ()))⟩ : Seq Z1), 0, 0, 0, ()) (0, 0, 0, 0, false, 0, 0, ()) 5)))
                        (k ((⟨true, 0, (fun _ => (0, 0, 0, 0, 0, 0, ()))⟩ : Seq Z1), 0, 0, 0, ()) (0, 0, 0, 0, false, 0, 0, ()) 5)))
                    (cond (x2.2.2.2.2.1 == 2)
                      (cond (!(x1.2.1 == 1099511627776))
                        (draymanref32_within (IntKind.i64.wrap (x1.2.2.1 + r10.2.2.2.2.2.1)) fun r16 =>
                          (cond (!(!r16))
                            (draymanref32_within x1.2.2.2.1 fun r17 =>
                              (cond (!r17)
                                (k ((⟨true, 0, (fun _ => (0, 0, 0, 0, 0, 0, ()))⟩ : Seq Z1), 0, 0, 0, ()) (0, 0, 0, 0, false, 0, 0, ()) 5)
                                (k (r6, (IntKind.i64.wrap (x1.2.1 + 1)), (IntKind.i64.wrap (x1.2.2.1 + r10.2.2.2.2.2.1)), x1.2.2.2.1, ()) (1, x1.2.1, x2.2.1, x2.2.2.1, x2.2.2.2.1, x2.1, r7, ()) 0)))
                            (k ((⟨true, 0, (fun _ => (0, 0, 0, 0, 0, 0, ()))⟩ : Seq Z1), 0, 0, 0, ()) (0, 0, 0, 0, false, 0, 0, ()) 5)))
                        (k ((⟨true, 0, (fun _ => (0, 0, 0, 0, 0, 0, ()))⟩ : Seq Z1), 0, 0, 0, ()) (0, 0, 0, 0, false, 0, 0, ()) 5))
                      (cond (!(x1.2.1 == 1099511627776))
                        (draymanref32_within (IntKind.i64.wrap (x1.2.2.1 - r10.2.2.2.2.2.1)) fun r18 =>
                          (cond (!(!r18))
                            (draymanref32_within (IntKind.i64.wrap (x1.2.2.2.1 + r10.2.2.2.2.2.1)) fun r19 =>
                              (cond (!r19)
                                (k ((⟨true, 0, (fun _ => (0, 0, 0, 0, 0, 0, ()))⟩ : Seq Z1), 0, 0, 0, ()) (0, 0, 0, 0, false, 0, 0, ()) 5)
                                (k (r6, (IntKind.i64.wrap (x1.2.1 + 1)), (IntKind.i64.wrap (x1.2.2.1 - r10.2.2.2.2.2.1)), (IntKind.i64.wrap (x1.2.2.2.1 + r10.2.2.2.2.2.1)), ()) (1, x1.2.1, x2.2.1, x2.2.2.1, x2.2.2.2.1, x2.1, r7, ()) 0)))
                            (k ((⟨true, 0, (fun _ => (0, 0, 0, 0, 0, 0, ()))⟩ : Seq Z1), 0, 0, 0, ()) (0, 0, 0, 0, false, 0, 0, ()) 5)))
                        (k ((⟨true, 0, (fun _ => (0, 0, 0, 0, 0, 0, ()))⟩ : Seq Z1), 0, 0, 0, ()) (0, 0, 0, 0, false, 0, 0, ()) 5)))))
                (cond (!(x1.2.1 == 1099511627776))
                  (draymanref32_within x1.2.2.1 fun r20 =>
                    (cond (!(!r20))
                      (draymanref32_within x1.2.2.2.1 fun r21 =>
                        (cond (!r21)
                          (k ((⟨true, 0, (fun _ => (0, 0, 0, 0, 0, 0, ()))⟩ : Seq Z1), 0, 0, 0, ()) (0, 0, 0, 0, false, 0, 0, ()) 5)
                          (k (r6, (IntKind.i64.wrap (x1.2.1 + 1)), x1.2.2.1, x1.2.2.2.1, ()) (1, x1.2.1, x2.2.1, x2.2.2.1, x2.2.2.2.1, x2.1, r7, ()) 0)))
                      (k ((⟨true, 0, (fun _ => (0, 0, 0, 0, 0, 0, ()))⟩ : Seq Z1), 0, 0, 0, ()) (0, 0, 0, 0, false, 0, 0, ()) 5)))
                  (k ((⟨true, 0, (fun _ => (0, 0, 0, 0, 0, 0, ()))⟩ : Seq Z1), 0, 0, 0, ()) (0, 0, 0, 0, false, 0, 0, ()) 5)))))))))

noncomputable def draymanref32_Come {α : Type} : draymanref32_Come_T α := draymanref32_Come_g draymanref32_Fit draymanref17_Service draymanref31_Come draymanref31_Find draymanref32_within

noncomputable def draymanref32_Come_sp {α : Type} (draymanref32_Come : draymanref32_Come_T α) : FunSpec α := ⟨13, [.agg [.sl (.int .i64 (.int .i64 (.int .i64 (.int .i64 (.int .i64 (.int .i64 (.nil))))))), .int .i64, .int .i64, .int .i64], .agg [.int .i64, .int .i64, .int .i64, .bool, .int .i64, .int .i64, .bool], .int .i64], [], fun ds k => draymanref32_Come (hdQ (.int .i64 (.int .i64 (.int .i64 (.int .i64 (.int .i64 (.int .i64 (.nil))))))) ds, hdI ds.tail, hdI ds.tail.tail, hdI ds.tail.tail.tail, ()) (hdI ds.tail.tail.tail.tail, hdI ds.tail.tail.tail.tail.tail, hdI ds.tail.tail.tail.tail.tail.tail, hdB ds.tail.tail.tail.tail.tail.tail.tail, hdI ds.tail.tail.tail.tail.tail.tail.tail.tail, hdI ds.tail.tail.tail.tail.tail.tail.tail.tail.tail, hdB ds.tail.tail.tail.tail.tail.tail.tail.tail.tail.tail, ()) (hdI ds.tail.tail.tail.tail.tail.tail.tail.tail.tail.tail.tail) (fun r1 r2 r3 => k (enc dep (.tup [.agg [.sl (.int .i64 (.int .i64 (.int .i64 (.int .i64 (.int .i64 (.int .i64 (.nil))))))), .int .i64, .int .i64, .int .i64], .agg [.int .i64, .int .i64, .int .i64, .int .i64, .bool, .int .i64, .int .i64], .int .i64]) [.q (.int .i64 (.int .i64 (.int .i64 (.int .i64 (.int .i64 (.int .i64 (.nil))))))) r1.1, .i r1.2.1, .i r1.2.2.1, .i r1.2.2.2.1, .i r2.1, .i r2.2.1, .i r2.2.2.1, .i r2.2.2.2.1, .b r2.2.2.2.2.1, .i r2.2.2.2.2.2.1, .i r2.2.2.2.2.2.2.1, .i r3]).1 [])⟩

noncomputable def draymanref32_Come_spec {α : Type} : FunSpec α := draymanref32_Come_sp draymanref32_Come

noncomputable def draymanref32_Come_C {α : Type} (draymanref32_Fit : draymanref32_Fit_T α) (draymanref17_Service : draymanref17_Service_T α) (draymanref31_Come : draymanref31_Come_T α) (draymanref31_Find : draymanref31_Find_T α) (draymanref32_within : draymanref32_within_T α) : List (FunSpec α) := [draymanref32_Fit_sp draymanref32_Fit, draymanref17_Service_sp draymanref17_Service, draymanref31_Come_sp draymanref31_Come, draymanref31_Find_sp draymanref31_Find, draymanref32_within_sp draymanref32_within]

noncomputable def draymanref32_Come_q : FuncId → Bool := fun f => Nat.beq f 15 || Nat.beq f 41 || Nat.beq f 43 || Nat.beq f 44

noncomputable def draymanref32_Come_inl : FuncId → Bool := fun f => false

noncomputable def draymanref32_Come_ann : FuncId → AnnT := fun f p => if f = 13 then (if p = [false, true, true, true, true, true, true, true, true] then ⟨[], [2, 3], [], [], 2, [], [], none⟩ else ⟨[], [], [], [], 0, [], [], none⟩) else ⟨[], [], [], [], 0, [], [], none⟩

noncomputable def draymanref32_Come_loops {α : Type} (draymanref32_Fit : draymanref32_Fit_T α) (draymanref17_Service : draymanref17_Service_T α) (draymanref31_Come : draymanref31_Come_T α) (draymanref31_Find : draymanref31_Find_T α) (draymanref32_within : draymanref32_within_T α) : List (LoopSpec α) := []

theorem draymanref32_Come_ev {α : Type} (draymanref32_Fit : draymanref32_Fit_T α) (draymanref17_Service : draymanref17_Service_T α) (draymanref31_Come : draymanref31_Come_T α) (draymanref31_Find : draymanref31_Find_T α) (draymanref32_within : draymanref32_within_T α) : EvOk (α := α) Go.Proofs.Try.prog (envOf (draymanref32_Come_C draymanref32_Fit draymanref17_Service draymanref31_Come draymanref31_Find draymanref32_within) draymanref32_Come_q draymanref32_Come_inl 1000 draymanref32_Come_ann false (draymanref32_Come_loops draymanref32_Fit draymanref17_Service draymanref31_Come draymanref31_Find draymanref32_within) (fun _ => none)) 6 (draymanref32_Come_sp (draymanref32_Come_g draymanref32_Fit draymanref17_Service draymanref31_Come draymanref31_Find draymanref32_within)) := by intro ds k; kernel_rfl

theorem draymanref32_Come_ok {α : Type} : (draymanref32_Come_spec : FunSpec α).ok Go.Proofs.Try.prog :=
  FunSpec.ok_of (sp := draymanref32_Come_spec) (C := draymanref32_Come_C draymanref32_Fit draymanref17_Service draymanref31_Come draymanref31_Find draymanref32_within) (q := draymanref32_Come_q) (inl := draymanref32_Come_inl) (N := 1000) (ann := draymanref32_Come_ann) (fr := false) (D := 6) (l := (draymanref32_Come_loops draymanref32_Fit draymanref17_Service draymanref31_Come draymanref31_Find draymanref32_within)) (hk := (fun _ => none)) (okCons draymanref32_Fit_ok (okCons draymanref17_Service_ok (okCons draymanref31_Come_ok (okCons draymanref31_Find_ok (okCons draymanref32_within_ok okNil))))) lokNil noHooks (draymanref32_Come_ev draymanref32_Fit draymanref17_Service draymanref31_Come draymanref31_Find draymanref32_within)

end
end Go.Rv.Try

set_option linter.unusedVariables false
set_option maxRecDepth 100000
set_option maxHeartbeats 4000000
namespace Go.Rv.Try
open Go Go.Rv Go.RowKit
noncomputable section

-- drayman/draymanref32.Same

abbrev draymanref32_Same_T (α : Type) : Type := ((Seq Z1) × Int × Int × Int × Unit) → ((Seq Z1) × Int × Int × Int × Unit) → (Bool → Option α) → Option α

noncomputable def draymanref32_Same_g {α : Type} (draymanref31_Same : draymanref31_Same_T α) (a1 : (Seq Z1) × Int × Int × Int × Unit) (b2 : (Seq Z1) × Int × Int × Int × Unit) (k : Bool → Option α) : Option α :=
  (cond (a1.2.1 == b2.2.1)
    (cond (a1.2.2.1 == b2.2.2.1)
      (cond (a1.2.2.2.1 == b2.2.2.2.1)
        (draymanref31_Same a1.1 b2.1 fun r3 =>
          (k r3))
        (k false))
      (k false))
    (k false))

noncomputable def draymanref32_Same {α : Type} : draymanref32_Same_T α := draymanref32_Same_g draymanref31_Same

noncomputable def draymanref32_Same_sp {α : Type} (draymanref32_Same : draymanref32_Same_T α) : FunSpec α := ⟨17, [.agg [.sl (.int .i64 (.int .i64 (.int .i64 (.int .i64 (.int .i64 (.int .i64 (.nil))))))), .int .i64, .int .i64, .int .i64], .agg [.sl (.int .i64 (.int .i64 (.int .i64 (.int .i64 (.int .i64 (.int .i64 (.nil))))))), .int .i64, .int .i64, .int .i64]], [], fun ds k => draymanref32_Same (hdQ (.int .i64 (.int .i64 (.int .i64 (.int .i64 (.int .i64 (.int .i64 (.nil))))))) ds, hdI ds.tail, hdI ds.tail.tail, hdI ds.tail.tail.tail, ()) (hdQ (.int .i64 (.int .i64 (.int .i64 (.int .i64 (.int .i64 (.int .i64 (.nil))))))) ds.tail.tail.tail.tail, hdI ds.tail.tail.tail.tail.tail, hdI ds.tail.tail.tail.tail.tail.tail, hdI ds.tail.tail.tail.tail.tail.tail.tail, ()) (fun r1 => k (enc dep (.bool) [.b r1]).1 [])⟩

noncomputable def draymanref32_Same_spec {α : Type} : FunSpec α := draymanref32_Same_sp draymanref32_Same

noncomputable def draymanref32_Same_C {α : Type} (draymanref31_Same : draymanref31_Same_T α) : List (FunSpec α) := [draymanref31_Same_sp draymanref31_Same]

noncomputable def draymanref32_Same_q : FuncId → Bool := fun f => Nat.beq f 46

noncomputable def draymanref32_Same_inl : FuncId → Bool := fun f => false

noncomputable def draymanref32_Same_ann : FuncId → AnnT := fun f p => ⟨[], [], [], [], 0, [], [], none⟩

noncomputable def draymanref32_Same_loops {α : Type} (draymanref31_Same : draymanref31_Same_T α) : List (LoopSpec α) := []

theorem draymanref32_Same_ev {α : Type} (draymanref31_Same : draymanref31_Same_T α) : EvOk (α := α) Go.Proofs.Try.prog (envOf (draymanref32_Same_C draymanref31_Same) draymanref32_Same_q draymanref32_Same_inl 1000 draymanref32_Same_ann false (draymanref32_Same_loops draymanref31_Same) (fun _ => none)) 6 (draymanref32_Same_sp (draymanref32_Same_g draymanref31_Same)) := by intro ds k; kernel_rfl

theorem draymanref32_Same_ok {α : Type} : (draymanref32_Same_spec : FunSpec α).ok Go.Proofs.Try.prog :=
  FunSpec.ok_of (sp := draymanref32_Same_spec) (C := draymanref32_Same_C draymanref31_Same) (q := draymanref32_Same_q) (inl := draymanref32_Same_inl) (N := 1000) (ann := draymanref32_Same_ann) (fr := false) (D := 6) (l := (draymanref32_Same_loops draymanref31_Same)) (hk := (fun _ => none)) (okCons draymanref31_Same_ok okNil) lokNil noHooks (draymanref32_Same_ev draymanref31_Same)

end
end Go.Rv.Try

set_option linter.unusedVariables false
set_option maxRecDepth 100000
set_option maxHeartbeats 4000000
namespace Go.Rv.Try
open Go Go.Rv Go.RowKit
noncomputable section

-- drayman/draymanref32.New

abbrev draymanref32_New_T (α : Type) : Type := (((Seq Z1) × Int × Int × Int × Unit) → Option α) → Option α

noncomputable def draymanref32_New {α : Type} (k : ((Seq Z1) × Int × Int × Int × Unit) → Option α) : Option α :=
  (k ((⟨true, 0, (fun _ => (0, 0, 0, 0, 0, 0, ()))⟩ : Seq Z1), 1, 0, 0, ()))

noncomputable def draymanref32_New_sp {α : Type} (draymanref32_New : draymanref32_New_T α) : FunSpec α := ⟨18, [], [], fun ds k => draymanref32_New  (fun r1 => k (enc dep (.agg [.sl (.int .i64 (.int .i64 (.int .i64 (.int .i64 (.int .i64 (.int .i64 (.nil))))))), .int .i64, .int .i64, .int .i64]) [.q (.int .i64 (.int .i64 (.int .i64 (.int .i64 (.int .i64 (.int .i64 (.nil))))))) r1.1, .i r1.2.1, .i r1.2.2.1, .i r1.2.2.2.1]).1 [])⟩

noncomputable def draymanref32_New_spec {α : Type} : FunSpec α := draymanref32_New_sp draymanref32_New

noncomputable def draymanref32_New_C {α : Type} : List (FunSpec α) := []

noncomputable def draymanref32_New_q : FuncId → Bool := fun f => false

noncomputable def draymanref32_New_inl : FuncId → Bool := fun f => false

noncomputable def draymanref32_New_ann : FuncId → AnnT := fun f p => ⟨[], [], [], [], 0, [], [], none⟩

noncomputable def draymanref32_New_loops {α : Type} : List (LoopSpec α) := []

theorem draymanref32_New_ev {α : Type} : EvOk (α := α) Go.Proofs.Try.prog (envOf (draymanref32_New_C) draymanref32_New_q draymanref32_New_inl 1000 draymanref32_New_ann false (draymanref32_New_loops) (fun _ => none)) 6 (draymanref32_New_sp (draymanref32_New)) := by intro ds k; kernel_rfl

theorem draymanref32_New_ok {α : Type} : (draymanref32_New_spec : FunSpec α).ok Go.Proofs.Try.prog :=
  FunSpec.ok_of (sp := draymanref32_New_spec) (C := draymanref32_New_C) (q := draymanref32_New_q) (inl := draymanref32_New_inl) (N := 1000) (ann := draymanref32_New_ann) (fr := false) (D := 6) (l := (draymanref32_New_loops)) (hk := (fun _ => none)) okNil lokNil noHooks (draymanref32_New_ev)

end
end Go.Rv.Try

set_option linter.unusedVariables false
set_option maxRecDepth 100000
set_option maxHeartbeats 4000000
namespace Go.Rv.Try
open Go Go.Rv Go.RowKit
noncomputable section

-- drayman/draymanlaw32.same

abbrev draymanlaw32_same_T (α : Type) : Type := ((Seq Z1) × Int × Int × Int × Unit) → ((Seq Z1) × Int × Int × Int × Unit) → (Bool → Option α) → Option α

noncomputable def draymanlaw32_same_g {α : Type} (draymanref32_Same : draymanref32_Same_T α) (a1 : (Seq Z1) × Int × Int × Int × Unit) (b2 : (Seq Z1) × Int × Int × Int × Unit) (k : Bool → Option α) : Option α :=
  (draymanref32_Same a1 b2 fun r3 =>
    (k r3))

noncomputable def draymanlaw32_same {α : Type} : draymanlaw32_same_T α := draymanlaw32_same_g draymanref32_Same

noncomputable def draymanlaw32_same_sp {α : Type} (draymanlaw32_same : draymanlaw32_same_T α) : FunSpec α := ⟨14, [.agg [.sl (.int .i64 (.int .i64 (.int .i64 (.int .i64 (.int .i64 (.int .i64 (.nil))))))), .int .i64, .int .i64, .int .i64], .agg [.sl (.int .i64 (.int .i64 (.int .i64 (.int .i64 (.int .i64 (.int .i64 (.nil))))))), .int .i64, .int .i64, .int .i64]], [], fun ds k => draymanlaw32_same (hdQ (.int .i64 (.int .i64 (.int .i64 (.int .i64 (.int .i64 (.int .i64 (.nil))))))) ds, hdI ds.tail, hdI ds.tail.tail, hdI ds.tail.tail.tail, ()) (hdQ (.int .i64 (.int .i64 (.int .i64 (.int .i64 (.int .i64 (.int .i64 (.nil))))))) ds.tail.tail.tail.tail, hdI ds.tail.tail.tail.tail.tail, hdI ds.tail.tail.tail.tail.tail.tail, hdI ds.tail.tail.tail.tail.tail.tail.tail, ()) (fun r1 => k (enc dep (.bool) [.b r1]).1 [])⟩

noncomputable def draymanlaw32_same_spec {α : Type} : FunSpec α := draymanlaw32_same_sp draymanlaw32_same

noncomputable def draymanlaw32_same_C {α : Type} (draymanref32_Same : draymanref32_Same_T α) : List (FunSpec α) := [draymanref32_Same_sp draymanref32_Same]

noncomputable def draymanlaw32_same_q : FuncId → Bool := fun f => Nat.beq f 17

noncomputable def draymanlaw32_same_inl : FuncId → Bool := fun f => false

noncomputable def draymanlaw32_same_ann : FuncId → AnnT := fun f p => ⟨[], [], [], [], 0, [], [], none⟩

noncomputable def draymanlaw32_same_loops {α : Type} (draymanref32_Same : draymanref32_Same_T α) : List (LoopSpec α) := []

theorem draymanlaw32_same_ev {α : Type} (draymanref32_Same : draymanref32_Same_T α) : EvOk (α := α) Go.Proofs.Try.prog (envOf (draymanlaw32_same_C draymanref32_Same) draymanlaw32_same_q draymanlaw32_same_inl 1000 draymanlaw32_same_ann false (draymanlaw32_same_loops draymanref32_Same) (fun _ => none)) 6 (draymanlaw32_same_sp (draymanlaw32_same_g draymanref32_Same)) := by intro ds k; kernel_rfl

theorem draymanlaw32_same_ok {α : Type} : (draymanlaw32_same_spec : FunSpec α).ok Go.Proofs.Try.prog :=
  FunSpec.ok_of (sp := draymanlaw32_same_spec) (C := draymanlaw32_same_C draymanref32_Same) (q := draymanlaw32_same_q) (inl := draymanlaw32_same_inl) (N := 1000) (ann := draymanlaw32_same_ann) (fr := false) (D := 6) (l := (draymanlaw32_same_loops draymanref32_Same)) (hk := (fun _ => none)) (okCons draymanref32_Same_ok okNil) lokNil noHooks (draymanlaw32_same_ev draymanref32_Same)

end
end Go.Rv.Try
