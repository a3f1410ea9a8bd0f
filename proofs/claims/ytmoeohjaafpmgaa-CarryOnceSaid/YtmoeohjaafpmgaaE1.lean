/- What the functions of the program compute, each with the proof that its code computes it. Written by a program (rvp2.py). -/
import Derived.Test.YtmoeohjaafpmgaaProg
import Derived.Test.YtmoeohjaafpmgaaRvP
import Derived.Test.YtmoeohjaafpmgaaE0

set_option linter.unusedVariables false
set_option maxRecDepth 100000
set_option maxHeartbeats 4000000
namespace Go.Rv.Try
open Go Go.Rv Go.RowKit
noncomputable section

-- slices.BinarySearchFunc[[]drayman/api.Key,drayman/api.Key,drayman/api.Key]

abbrev slices_BinarySearchFunc_api_Key_api_Key_api_Key_T (α : Type) : Type := (Seq Z1) → Z1 → (Int → Bool → Option α) → Option α

noncomputable def slices_BinarySearchFunc_api_Key_api_Key_api_Key_l0_step {α : Type} (keyed_rank : keyed_rank_T α) (k0 : (Seq Z1) → (Int) → (Int) → Z1 → Option α) (rec : (Seq Z1) → (Int) → (Int) → (Int) → Z1 → Option α) (x3 : Seq Z1) (n4 : Int) (i5 : Int) (j6 : Int) (x7 : Int × Int × Int × Int × Int × Int × Unit) : Option α :=
  (cond (decide (i5 < j6))
    (cond ((decide ((0 : Int) ≤ (IntKind.i64.wrap (Int.fdiv (IntKind.u64.wrap (IntKind.i64.wrap (i5 + j6))) (2 ^ (min 1 IntKind.u64.bits)))))) && (decide ((IntKind.i64.wrap (Int.fdiv (IntKind.u64.wrap (IntKind.i64.wrap (i5 + j6))) (2 ^ (min 1 IntKind.u64.bits)))) < (x3.n : Int))))
      (keyed_rank (x3.g (IntKind.i64.wrap (Int.fdiv (IntKind.u64.wrap (IntKind.i64.wrap (i5 + j6))) (2 ^ (min 1 IntKind.u64.bits)))).toNat) x7 fun r8 =>
        (cond (decide (r8 < 0))
          (rec x3 n4 (IntKind.i64.wrap ((IntKind.i64.wrap (Int.fdiv (IntKind.u64.wrap (IntKind.i64.wrap (i5 + j6))) (2 ^ (min 1 IntKind.u64.bits)))) + 1)) j6 x7)
          (rec x3 n4 i5 (IntKind.i64.wrap (Int.fdiv (IntKind.u64.wrap (IntKind.i64.wrap (i5 + j6))) (2 ^ (min 1 IntKind.u64.bits)))) x7)))
      none)
    (k0 x3 n4 i5 x7))

noncomputable def slices_BinarySearchFunc_api_Key_api_Key_api_Key_l0_run {α : Type} (keyed_rank : keyed_rank_T α) (k0 : (Seq Z1) → (Int) → (Int) → Z1 → Option α) : Nat → (Seq Z1) → (Int) → (Int) → (Int) → Z1 → Option α
  | 0, _, _, _, _, _ => none
  | n + 1, x3, n4, i5, j6, x7 => slices_BinarySearchFunc_api_Key_api_Key_api_Key_l0_step keyed_rank k0 (fun x3 n4 i5 j6 x7 => slices_BinarySearchFunc_api_Key_api_Key_api_Key_l0_run keyed_rank k0 n x3 n4 i5 j6 x7) x3 n4 i5 j6 x7

noncomputable def slices_BinarySearchFunc_api_Key_api_Key_api_Key_g {α : Type} (keyed_rank : keyed_rank_T α) (x1 : Seq Z1) (target2 : Int × Int × Int × Int × Int × Int × Unit) (k : Int → Bool → Option α) : Option α :=
  (slices_BinarySearchFunc_api_Key_api_Key_api_Key_l0_run keyed_rank
    (fun x9 x10 x11 x12 =>
      (cond (decide (x11 < x10))
        (cond ((decide ((0 : Int) ≤ x11)) && (decide (x11 < (x9.n : Int))))
          (keyed_rank (x9.g x11.toNat) x12 fun r13 =>
            (k x11 (r13 == 0)))
          none)
        (k x11 false)))
    1000 x1 (x1.n : Int) 0 (x1.n : Int) target2)

noncomputable def slices_BinarySearchFunc_api_Key_api_Key_api_Key {α : Type} : slices_BinarySearchFunc_api_Key_api_Key_api_Key_T α := slices_BinarySearchFunc_api_Key_api_Key_api_Key_g keyed_rank

noncomputable def slices_BinarySearchFunc_api_Key_api_Key_api_Key_sp {α : Type} (slices_BinarySearchFunc_api_Key_api_Key_api_Key : slices_BinarySearchFunc_api_Key_api_Key_api_Key_T α) : FunSpec α := ⟨81, [.sl (.int .i64 (.int .i64 (.int .i64 (.int .i64 (.int .i64 (.int .i64 (.nil))))))), .agg [.int .i64, .int .i64, .int .i64, .int .i64, .int .i64, .int .i64], .func (.func 64) [] []], [], fun ds k => slices_BinarySearchFunc_api_Key_api_Key_api_Key (hdQ (.int .i64 (.int .i64 (.int .i64 (.int .i64 (.int .i64 (.int .i64 (.nil))))))) ds) (hdI ds.tail, hdI ds.tail.tail, hdI ds.tail.tail.tail, hdI ds.tail.tail.tail.tail, hdI ds.tail.tail.tail.tail.tail, hdI ds.tail.tail.tail.tail.tail.tail, ()) (fun r1 r2 => k (enc dep (.tup [.int .i64, .bool]) [.i r1, .b r2]).1 [])⟩

noncomputable def slices_BinarySearchFunc_api_Key_api_Key_api_Key_spec {α : Type} : FunSpec α := slices_BinarySearchFunc_api_Key_api_Key_api_Key_sp slices_BinarySearchFunc_api_Key_api_Key_api_Key

noncomputable def slices_BinarySearchFunc_api_Key_api_Key_api_Key_C {α : Type} (keyed_rank : keyed_rank_T α) : List (FunSpec α) := [keyed_rank_sp keyed_rank]

noncomputable def slices_BinarySearchFunc_api_Key_api_Key_api_Key_q : FuncId → Bool := fun f => Nat.beq f 64

noncomputable def slices_BinarySearchFunc_api_Key_api_Key_api_Key_inl : FuncId → Bool := fun f => false

noncomputable def slices_BinarySearchFunc_api_Key_api_Key_api_Key_ann : FuncId → AnnT := fun f p => if f = 81 then (if p = [false, true, true, true, true] then ⟨[], [], [], [], 2, [], []⟩ else if p = [false, true, true, true] then ⟨[0, 2, 4, 8, 9, 10], [], [0, 2, 4, 8, 9], [6, 7], 0, [], []⟩ else if p = [false, true, true, false, false, true, true, true] then ⟨[], [], [], [], 2, [], []⟩ else ⟨[], [], [], [], 0, [], []⟩) else ⟨[], [], [], [], 0, [], []⟩

noncomputable def slices_BinarySearchFunc_api_Key_api_Key_api_Key_l0_t : List Sh := [.sl (.int .i64 (.int .i64 (.int .i64 (.int .i64 (.int .i64 (.int .i64 (.nil))))))), .dead, .func (.func 64) [] [], .dead, .ref 0 0, .dead, .dead, .dead, .int .i64, .int .i64, .int .i64, .dead, .dead, .dead, .dead, .dead, .dead, .dead, .dead, .dead, .dead, .dead, .dead, .dead, .dead, .dead, .dead, .dead, .dead, .dead, .dead, .dead, .dead, .dead, .dead, .dead, .dead, .dead, .dead, .dead, .dead, .dead, .dead, .dead, .dead, .dead, .dead, .dead, .dead]
noncomputable def slices_BinarySearchFunc_api_Key_api_Key_api_Key_l0_s : List (List Sh) := []
noncomputable def slices_BinarySearchFunc_api_Key_api_Key_api_Key_l0_h : List BSh := [.box [.int .i64, .int .i64, .int .i64, .int .i64, .int .i64, .int .i64]]

noncomputable def slices_BinarySearchFunc_api_Key_api_Key_api_Key_l0_spec {α : Type} (keyed_rank : keyed_rank_T α) : LoopSpec α := ⟨6, 81, [false, true, true, true], slices_BinarySearchFunc_api_Key_api_Key_api_Key_l0_t, slices_BinarySearchFunc_api_Key_api_Key_api_Key_l0_s, slices_BinarySearchFunc_api_Key_api_Key_api_Key_l0_h, fun ds k => slices_BinarySearchFunc_api_Key_api_Key_api_Key_l0_run keyed_rank (fun y1 y2 y3 y4 => k (.exit 0) (encSt [.sl (.int .i64 (.int .i64 (.int .i64 (.int .i64 (.int .i64 (.int .i64 (.nil))))))), .dead, .func (.func 64) [] [], .dead, .ref 0 0, .dead, .dead, .dead, .int .i64, .int .i64, .dead, .dead, .dead, .dead, .dead, .dead, .dead, .dead, .dead, .dead, .dead, .dead, .dead, .dead, .dead, .dead, .dead, .dead, .dead, .dead, .dead, .dead, .dead, .dead, .dead, .dead, .dead, .dead, .dead, .dead, .dead, .dead, .dead, .dead, .dead, .dead, .dead, .dead, .dead] [] [.box [.int .i64, .int .i64, .int .i64, .int .i64, .int .i64, .int .i64]] [.q (.int .i64 (.int .i64 (.int .i64 (.int .i64 (.int .i64 (.int .i64 (.nil))))))) y1, .i y2, .i y3, .i y4.1, .i y4.2.1, .i y4.2.2.1, .i y4.2.2.2.1, .i y4.2.2.2.2.1, .i y4.2.2.2.2.2.1])) 1000 (hdQ (.int .i64 (.int .i64 (.int .i64 (.int .i64 (.int .i64 (.int .i64 (.nil))))))) ds) (hdI ds.tail) (hdI ds.tail.tail) (hdI ds.tail.tail.tail) (hdI ds.tail.tail.tail.tail, hdI ds.tail.tail.tail.tail.tail, hdI ds.tail.tail.tail.tail.tail.tail, hdI ds.tail.tail.tail.tail.tail.tail.tail, hdI ds.tail.tail.tail.tail.tail.tail.tail.tail, hdI ds.tail.tail.tail.tail.tail.tail.tail.tail.tail, ())⟩

noncomputable def slices_BinarySearchFunc_api_Key_api_Key_api_Key_loops {α : Type} (keyed_rank : keyed_rank_T α) : List (LoopSpec α) := [slices_BinarySearchFunc_api_Key_api_Key_api_Key_l0_spec keyed_rank]

noncomputable def slices_BinarySearchFunc_api_Key_api_Key_api_Key_l0_ev {α : Type} (keyed_rank : keyed_rank_T α) (n : Nat) (st : St) (k : X → St → Option α) : Option α := loopN (evCode Go.Proofs.Try.prog (callD Go.Proofs.Try.prog (envOf (slices_BinarySearchFunc_api_Key_api_Key_api_Key_C keyed_rank) slices_BinarySearchFunc_api_Key_api_Key_api_Key_q slices_BinarySearchFunc_api_Key_api_Key_api_Key_inl 1000 slices_BinarySearchFunc_api_Key_api_Key_api_Key_ann false (slices_BinarySearchFunc_api_Key_api_Key_api_Key_loops keyed_rank) (fun _ => none)) 6) (((envOf (slices_BinarySearchFunc_api_Key_api_Key_api_Key_C keyed_rank) slices_BinarySearchFunc_api_Key_api_Key_api_Key_q slices_BinarySearchFunc_api_Key_api_Key_api_Key_inl 1000 slices_BinarySearchFunc_api_Key_api_Key_api_Key_ann false (slices_BinarySearchFunc_api_Key_api_Key_api_Key_loops keyed_rank) (fun _ => none)) : Env α).L 6 81) 1000 (slices_BinarySearchFunc_api_Key_api_Key_api_Key_ann 81) (false :: [false, true, true, true]) (loopC Go.Proofs.Try.prog 81 [false, true, true, true])) ((slices_BinarySearchFunc_api_Key_api_Key_api_Key_ann 81 [false, true, true, true]).head 1) ((slices_BinarySearchFunc_api_Key_api_Key_api_Key_ann 81 [false, true, true, true]).leave 1) n st k

theorem slices_BinarySearchFunc_api_Key_api_Key_api_Key_l0_eq {α : Type} (keyed_rank : keyed_rank_T α) : ∀ (n : Nat) (x3 : Seq Z1) (n4 : Int) (i5 : Int) (j6 : Int) (x7 : Int × Int × Int × Int × Int × Int × Unit) (k : X → St → Option α), slices_BinarySearchFunc_api_Key_api_Key_api_Key_l0_ev keyed_rank n (encSt slices_BinarySearchFunc_api_Key_api_Key_api_Key_l0_t slices_BinarySearchFunc_api_Key_api_Key_api_Key_l0_s slices_BinarySearchFunc_api_Key_api_Key_api_Key_l0_h [.q (.int .i64 (.int .i64 (.int .i64 (.int .i64 (.int .i64 (.int .i64 (.nil))))))) x3, .i n4, .i i5, .i j6, .i x7.1, .i x7.2.1, .i x7.2.2.1, .i x7.2.2.2.1, .i x7.2.2.2.2.1, .i x7.2.2.2.2.2.1]) k = slices_BinarySearchFunc_api_Key_api_Key_api_Key_l0_run keyed_rank (fun y1 y2 y3 y4 => k (.exit 0) (encSt [.sl (.int .i64 (.int .i64 (.int .i64 (.int .i64 (.int .i64 (.int .i64 (.nil))))))), .dead, .func (.func 64) [] [], .dead, .ref 0 0, .dead, .dead, .dead, .int .i64, .int .i64, .dead, .dead, .dead, .dead, .dead, .dead, .dead, .dead, .dead, .dead, .dead, .dead, .dead, .dead, .dead, .dead, .dead, .dead, .dead, .dead, .dead, .dead, .dead, .dead, .dead, .dead, .dead, .dead, .dead, .dead, .dead, .dead, .dead, .dead, .dead, .dead, .dead, .dead, .dead] [] [.box [.int .i64, .int .i64, .int .i64, .int .i64, .int .i64, .int .i64]] [.q (.int .i64 (.int .i64 (.int .i64 (.int .i64 (.int .i64 (.int .i64 (.nil))))))) y1, .i y2, .i y3, .i y4.1, .i y4.2.1, .i y4.2.2.1, .i y4.2.2.2.1, .i y4.2.2.2.2.1, .i y4.2.2.2.2.2.1])) n x3 n4 i5 j6 x7 := by
  intro n
  induction n with
  | zero => intros; kernel_rfl
  | succ n ih =>
    intro x3 n4 i5 j6 x7 k
    have e : (fun (x3 : Seq Z1) (n4 : Int) (i5 : Int) (j6 : Int) (x7 : Int × Int × Int × Int × Int × Int × Unit) => slices_BinarySearchFunc_api_Key_api_Key_api_Key_l0_ev keyed_rank n (encSt slices_BinarySearchFunc_api_Key_api_Key_api_Key_l0_t slices_BinarySearchFunc_api_Key_api_Key_api_Key_l0_s slices_BinarySearchFunc_api_Key_api_Key_api_Key_l0_h [.q (.int .i64 (.int .i64 (.int .i64 (.int .i64 (.int .i64 (.int .i64 (.nil))))))) x3, .i n4, .i i5, .i j6, .i x7.1, .i x7.2.1, .i x7.2.2.1, .i x7.2.2.2.1, .i x7.2.2.2.2.1, .i x7.2.2.2.2.2.1]) k) = (fun (x3 : Seq Z1) (n4 : Int) (i5 : Int) (j6 : Int) (x7 : Int × Int × Int × Int × Int × Int × Unit) => slices_BinarySearchFunc_api_Key_api_Key_api_Key_l0_run keyed_rank (fun y1 y2 y3 y4 => k (.exit 0) (encSt [.sl (.int .i64 (.int .i64 (.int .i64 (.int .i64 (.int .i64 (.int .i64 (.nil))))))), .dead, .func (.func 64) [] [], .dead, .ref 0 0, .dead, .dead, .dead, .int .i64, .int .i64, .dead, .dead, .dead, .dead, .dead, .dead, .dead, .dead, .dead, .dead, .dead, .dead, .dead, .dead, .dead, .dead, .dead, .dead, .dead, .dead, .dead, .dead, .dead, .dead, .dead, .dead, .dead, .dead, .dead, .dead, .dead, .dead, .dead, .dead, .dead, .dead, .dead, .dead, .dead] [] [.box [.int .i64, .int .i64, .int .i64, .int .i64, .int .i64, .int .i64]] [.q (.int .i64 (.int .i64 (.int .i64 (.int .i64 (.int .i64 (.int .i64 (.nil))))))) y1, .i y2, .i y3, .i y4.1, .i y4.2.1, .i y4.2.2.1, .i y4.2.2.2.1, .i y4.2.2.2.2.1, .i y4.2.2.2.2.2.1])) n x3 n4 i5 j6 x7) := by
      funext x3 n4 i5 j6 x7
      exact ih x3 n4 i5 j6 x7 k
    have h1 : slices_BinarySearchFunc_api_Key_api_Key_api_Key_l0_ev keyed_rank (n + 1) (encSt slices_BinarySearchFunc_api_Key_api_Key_api_Key_l0_t slices_BinarySearchFunc_api_Key_api_Key_api_Key_l0_s slices_BinarySearchFunc_api_Key_api_Key_api_Key_l0_h [.q (.int .i64 (.int .i64 (.int .i64 (.int .i64 (.int .i64 (.int .i64 (.nil))))))) x3, .i n4, .i i5, .i j6, .i x7.1, .i x7.2.1, .i x7.2.2.1, .i x7.2.2.2.1, .i x7.2.2.2.2.1, .i x7.2.2.2.2.2.1]) k = slices_BinarySearchFunc_api_Key_api_Key_api_Key_l0_step keyed_rank (fun y1 y2 y3 y4 => k (.exit 0) (encSt [.sl (.int .i64 (.int .i64 (.int .i64 (.int .i64 (.int .i64 (.int .i64 (.nil))))))), .dead, .func (.func 64) [] [], .dead, .ref 0 0, .dead, .dead, .dead, .int .i64, .int .i64, .dead, .dead, .dead, .dead, .dead, .dead, .dead, .dead, .dead, .dead, .dead, .dead, .dead, .dead, .dead, .dead, .dead, .dead, .dead, .dead, .dead, .dead, .dead, .dead, .dead, .dead, .dead, .dead, .dead, .dead, .dead, .dead, .dead, .dead, .dead, .dead, .dead, .dead, .dead] [] [.box [.int .i64, .int .i64, .int .i64, .int .i64, .int .i64, .int .i64]] [.q (.int .i64 (.int .i64 (.int .i64 (.int .i64 (.int .i64 (.int .i64 (.nil))))))) y1, .i y2, .i y3, .i y4.1, .i y4.2.1, .i y4.2.2.1, .i y4.2.2.2.1, .i y4.2.2.2.2.1, .i y4.2.2.2.2.2.1])) (fun (x3 : Seq Z1) (n4 : Int) (i5 : Int) (j6 : Int) (x7 : Int × Int × Int × Int × Int × Int × Unit) => slices_BinarySearchFunc_api_Key_api_Key_api_Key_l0_ev keyed_rank n (encSt slices_BinarySearchFunc_api_Key_api_Key_api_Key_l0_t slices_BinarySearchFunc_api_Key_api_Key_api_Key_l0_s slices_BinarySearchFunc_api_Key_api_Key_api_Key_l0_h [.q (.int .i64 (.int .i64 (.int .i64 (.int .i64 (.int .i64 (.int .i64 (.nil))))))) x3, .i n4, .i i5, .i j6, .i x7.1, .i x7.2.1, .i x7.2.2.1, .i x7.2.2.2.1, .i x7.2.2.2.2.1, .i x7.2.2.2.2.2.1]) k) x3 n4 i5 j6 x7 := by kernel_rfl
    have h2 := congrArg (fun r => slices_BinarySearchFunc_api_Key_api_Key_api_Key_l0_step keyed_rank (fun y1 y2 y3 y4 => k (.exit 0) (encSt [.sl (.int .i64 (.int .i64 (.int .i64 (.int .i64 (.int .i64 (.int .i64 (.nil))))))), .dead, .func (.func 64) [] [], .dead, .ref 0 0, .dead, .dead, .dead, .int .i64, .int .i64, .dead, .dead, .dead, .dead, .dead, .dead, .dead, .dead, .dead, .dead, .dead, .dead, .dead, .dead, .dead, .dead, .dead, .dead, .dead, .dead, .dead, .dead, .dead, .dead, .dead, .dead, .dead, .dead, .dead, .dead, .dead, .dead, .dead, .dead, .dead, .dead, .dead, .dead, .dead] [] [.box [.int .i64, .int .i64, .int .i64, .int .i64, .int .i64, .int .i64]] [.q (.int .i64 (.int .i64 (.int .i64 (.int .i64 (.int .i64 (.int .i64 (.nil))))))) y1, .i y2, .i y3, .i y4.1, .i y4.2.1, .i y4.2.2.1, .i y4.2.2.2.1, .i y4.2.2.2.2.1, .i y4.2.2.2.2.2.1])) r x3 n4 i5 j6 x7) e
    have h3 : slices_BinarySearchFunc_api_Key_api_Key_api_Key_l0_step keyed_rank (fun y1 y2 y3 y4 => k (.exit 0) (encSt [.sl (.int .i64 (.int .i64 (.int .i64 (.int .i64 (.int .i64 (.int .i64 (.nil))))))), .dead, .func (.func 64) [] [], .dead, .ref 0 0, .dead, .dead, .dead, .int .i64, .int .i64, .dead, .dead, .dead, .dead, .dead, .dead, .dead, .dead, .dead, .dead, .dead, .dead, .dead, .dead, .dead, .dead, .dead, .dead, .dead, .dead, .dead, .dead, .dead, .dead, .dead, .dead, .dead, .dead, .dead, .dead, .dead, .dead, .dead, .dead, .dead, .dead, .dead, .dead, .dead] [] [.box [.int .i64, .int .i64, .int .i64, .int .i64, .int .i64, .int .i64]] [.q (.int .i64 (.int .i64 (.int .i64 (.int .i64 (.int .i64 (.int .i64 (.nil))))))) y1, .i y2, .i y3, .i y4.1, .i y4.2.1, .i y4.2.2.1, .i y4.2.2.2.1, .i y4.2.2.2.2.1, .i y4.2.2.2.2.2.1])) (fun (x3 : Seq Z1) (n4 : Int) (i5 : Int) (j6 : Int) (x7 : Int × Int × Int × Int × Int × Int × Unit) => slices_BinarySearchFunc_api_Key_api_Key_api_Key_l0_run keyed_rank (fun y1 y2 y3 y4 => k (.exit 0) (encSt [.sl (.int .i64 (.int .i64 (.int .i64 (.int .i64 (.int .i64 (.int .i64 (.nil))))))), .dead, .func (.func 64) [] [], .dead, .ref 0 0, .dead, .dead, .dead, .int .i64, .int .i64, .dead, .dead, .dead, .dead, .dead, .dead, .dead, .dead, .dead, .dead, .dead, .dead, .dead, .dead, .dead, .dead, .dead, .dead, .dead, .dead, .dead, .dead, .dead, .dead, .dead, .dead, .dead, .dead, .dead, .dead, .dead, .dead, .dead, .dead, .dead, .dead, .dead, .dead, .dead] [] [.box [.int .i64, .int .i64, .int .i64, .int .i64, .int .i64, .int .i64]] [.q (.int .i64 (.int .i64 (.int .i64 (.int .i64 (.int .i64 (.int .i64 (.nil))))))) y1, .i y2, .i y3, .i y4.1, .i y4.2.1, .i y4.2.2.1, .i y4.2.2.2.1, .i y4.2.2.2.2.1, .i y4.2.2.2.2.2.1])) n x3 n4 i5 j6 x7) x3 n4 i5 j6 x7 = slices_BinarySearchFunc_api_Key_api_Key_api_Key_l0_run keyed_rank (fun y1 y2 y3 y4 => k (.exit 0) (encSt [.sl (.int .i64 (.int .i64 (.int .i64 (.int .i64 (.int .i64 (.int .i64 (.nil))))))), .dead, .func (.func 64) [] [], .dead, .ref 0 0, .dead, .dead, .dead, .int .i64, .int .i64, .dead, .dead, .dead, .dead, .dead, .dead, .dead, .dead, .dead, .dead, .dead, .dead, .dead, .dead, .dead, .dead, .dead, .dead, .dead, .dead, .dead, .dead, .dead, .dead, .dead, .dead, .dead, .dead, .dead, .dead, .dead, .dead, .dead, .dead, .dead, .dead, .dead, .dead, .dead] [] [.box [.int .i64, .int .i64, .int .i64, .int .i64, .int .i64, .int .i64]] [.q (.int .i64 (.int .i64 (.int .i64 (.int .i64 (.int .i64 (.int .i64 (.nil))))))) y1, .i y2, .i y3, .i y4.1, .i y4.2.1, .i y4.2.2.1, .i y4.2.2.2.1, .i y4.2.2.2.2.1, .i y4.2.2.2.2.2.1])) (n + 1) x3 n4 i5 j6 x7 := by kernel_rfl
    exact h1.trans (h2.trans h3)

theorem slices_BinarySearchFunc_api_Key_api_Key_api_Key_l0_ok {α : Type} (keyed_rank : keyed_rank_T α) : (slices_BinarySearchFunc_api_Key_api_Key_api_Key_l0_spec keyed_rank : LoopSpec α).ok Go.Proofs.Try.prog (envOf (slices_BinarySearchFunc_api_Key_api_Key_api_Key_C keyed_rank) slices_BinarySearchFunc_api_Key_api_Key_api_Key_q slices_BinarySearchFunc_api_Key_api_Key_api_Key_inl 1000 slices_BinarySearchFunc_api_Key_api_Key_api_Key_ann false (slices_BinarySearchFunc_api_Key_api_Key_api_Key_loops keyed_rank) (fun _ => none)) := by
  intro ds k
  have h1 : slices_BinarySearchFunc_api_Key_api_Key_api_Key_l0_ev keyed_rank 1000 (encSt slices_BinarySearchFunc_api_Key_api_Key_api_Key_l0_t slices_BinarySearchFunc_api_Key_api_Key_api_Key_l0_s slices_BinarySearchFunc_api_Key_api_Key_api_Key_l0_h ds) k = slices_BinarySearchFunc_api_Key_api_Key_api_Key_l0_ev keyed_rank 1000 (encSt slices_BinarySearchFunc_api_Key_api_Key_api_Key_l0_t slices_BinarySearchFunc_api_Key_api_Key_api_Key_l0_s slices_BinarySearchFunc_api_Key_api_Key_api_Key_l0_h [.q (.int .i64 (.int .i64 (.int .i64 (.int .i64 (.int .i64 (.int .i64 (.nil))))))) (hdQ (.int .i64 (.int .i64 (.int .i64 (.int .i64 (.int .i64 (.int .i64 (.nil))))))) ds), .i (hdI ds.tail), .i (hdI ds.tail.tail), .i (hdI ds.tail.tail.tail), .i ((hdI ds.tail.tail.tail.tail, hdI ds.tail.tail.tail.tail.tail, hdI ds.tail.tail.tail.tail.tail.tail, hdI ds.tail.tail.tail.tail.tail.tail.tail, hdI ds.tail.tail.tail.tail.tail.tail.tail.tail, hdI ds.tail.tail.tail.tail.tail.tail.tail.tail.tail, ()).1), .i ((hdI ds.tail.tail.tail.tail, hdI ds.tail.tail.tail.tail.tail, hdI ds.tail.tail.tail.tail.tail.tail, hdI ds.tail.tail.tail.tail.tail.tail.tail, hdI ds.tail.tail.tail.tail.tail.tail.tail.tail, hdI ds.tail.tail.tail.tail.tail.tail.tail.tail.tail, ()).2.1), .i ((hdI ds.tail.tail.tail.tail, hdI ds.tail.tail.tail.tail.tail, hdI ds.tail.tail.tail.tail.tail.tail, hdI ds.tail.tail.tail.tail.tail.tail.tail, hdI ds.tail.tail.tail.tail.tail.tail.tail.tail, hdI ds.tail.tail.tail.tail.tail.tail.tail.tail.tail, ()).2.2.1), .i ((hdI ds.tail.tail.tail.tail, hdI ds.tail.tail.tail.tail.tail, hdI ds.tail.tail.tail.tail.tail.tail, hdI ds.tail.tail.tail.tail.tail.tail.tail, hdI ds.tail.tail.tail.tail.tail.tail.tail.tail, hdI ds.tail.tail.tail.tail.tail.tail.tail.tail.tail, ()).2.2.2.1), .i ((hdI ds.tail.tail.tail.tail, hdI ds.tail.tail.tail.tail.tail, hdI ds.tail.tail.tail.tail.tail.tail, hdI ds.tail.tail.tail.tail.tail.tail.tail, hdI ds.tail.tail.tail.tail.tail.tail.tail.tail, hdI ds.tail.tail.tail.tail.tail.tail.tail.tail.tail, ()).2.2.2.2.1), .i ((hdI ds.tail.tail.tail.tail, hdI ds.tail.tail.tail.tail.tail, hdI ds.tail.tail.tail.tail.tail.tail, hdI ds.tail.tail.tail.tail.tail.tail.tail, hdI ds.tail.tail.tail.tail.tail.tail.tail.tail, hdI ds.tail.tail.tail.tail.tail.tail.tail.tail.tail, ()).2.2.2.2.2.1)]) k := by kernel_rfl
  have h2 := slices_BinarySearchFunc_api_Key_api_Key_api_Key_l0_eq keyed_rank 1000 (hdQ (.int .i64 (.int .i64 (.int .i64 (.int .i64 (.int .i64 (.int .i64 (.nil))))))) ds) (hdI ds.tail) (hdI ds.tail.tail) (hdI ds.tail.tail.tail) (hdI ds.tail.tail.tail.tail, hdI ds.tail.tail.tail.tail.tail, hdI ds.tail.tail.tail.tail.tail.tail, hdI ds.tail.tail.tail.tail.tail.tail.tail, hdI ds.tail.tail.tail.tail.tail.tail.tail.tail, hdI ds.tail.tail.tail.tail.tail.tail.tail.tail.tail, ()) k
  exact h1.trans h2

theorem slices_BinarySearchFunc_api_Key_api_Key_api_Key_ev {α : Type} (keyed_rank : keyed_rank_T α) : EvOk (α := α) Go.Proofs.Try.prog (envOf (slices_BinarySearchFunc_api_Key_api_Key_api_Key_C keyed_rank) slices_BinarySearchFunc_api_Key_api_Key_api_Key_q slices_BinarySearchFunc_api_Key_api_Key_api_Key_inl 1000 slices_BinarySearchFunc_api_Key_api_Key_api_Key_ann false (slices_BinarySearchFunc_api_Key_api_Key_api_Key_loops keyed_rank) (fun _ => none)) 6 (slices_BinarySearchFunc_api_Key_api_Key_api_Key_sp (slices_BinarySearchFunc_api_Key_api_Key_api_Key_g keyed_rank)) := by intro ds k; kernel_rfl

theorem slices_BinarySearchFunc_api_Key_api_Key_api_Key_ok {α : Type} : (slices_BinarySearchFunc_api_Key_api_Key_api_Key_spec : FunSpec α).ok Go.Proofs.Try.prog :=
  FunSpec.ok_of (sp := slices_BinarySearchFunc_api_Key_api_Key_api_Key_spec) (C := slices_BinarySearchFunc_api_Key_api_Key_api_Key_C keyed_rank) (q := slices_BinarySearchFunc_api_Key_api_Key_api_Key_q) (inl := slices_BinarySearchFunc_api_Key_api_Key_api_Key_inl) (N := 1000) (ann := slices_BinarySearchFunc_api_Key_api_Key_api_Key_ann) (fr := false) (D := 6) (l := (slices_BinarySearchFunc_api_Key_api_Key_api_Key_loops keyed_rank)) (hk := (fun _ => none)) (okCons keyed_rank_ok okNil) (lokCons (slices_BinarySearchFunc_api_Key_api_Key_api_Key_l0_ok keyed_rank) lokNil) noHooks (slices_BinarySearchFunc_api_Key_api_Key_api_Key_ev keyed_rank)

end
end Go.Rv.Try

set_option linter.unusedVariables false
set_option maxRecDepth 100000
set_option maxHeartbeats 4000000
namespace Go.Rv.Try
open Go Go.Rv Go.RowKit
noncomputable section

-- slices.Concat[[]drayman/api.Key,drayman/api.Key]

abbrev slices_Concat_api_Key_api_Key_T (α : Type) : Type := (Seq ((Seq Z1) × Unit)) → ((Seq Z1) → Option α) → Option α

noncomputable def slices_Concat_api_Key_api_Key_l0_step {α : Type} (k0 : (Seq ((Seq Z1) × Unit)) → (Int) → (Seq Z1) → Option α) (rec : (Seq ((Seq Z1) × Unit)) → (Int) → (Seq ((Seq Z1) × Unit)) → (Int) → (Int) → (Seq Z1) → Option α) (slices2 : Seq ((Seq Z1) × Unit)) (size3 : Int) (x4 : Seq ((Seq Z1) × Unit)) (x5 : Int) (x6 : Int) (q7 : Seq Z1) : Option α :=
  (cond (decide (x6 < x5))
    (cond ((decide ((0 : Int) ≤ x6)) && (decide (x6 < (x4.n : Int))))
      (cond (decide ((IntKind.i64.wrap (size3 + (((x4.g x6.toNat).1.n : Nat) : Int))) < 0))
        none
        (rec slices2 (IntKind.i64.wrap (size3 + (((x4.g x6.toNat).1.n : Nat) : Int))) x4 x5 (IntKind.i64.wrap (x6 + 1)) q7))
      none)
    (k0 slices2 size3 q7))

noncomputable def slices_Concat_api_Key_api_Key_l0_run {α : Type} (k0 : (Seq ((Seq Z1) × Unit)) → (Int) → (Seq Z1) → Option α) : Nat → (Seq ((Seq Z1) × Unit)) → (Int) → (Seq ((Seq Z1) × Unit)) → (Int) → (Int) → (Seq Z1) → Option α
  | 0, _, _, _, _, _, _ => none
  | n + 1, slices2, size3, x4, x5, x6, q7 => slices_Concat_api_Key_api_Key_l0_step k0 (fun slices2 size3 x4 x5 x6 q7 => slices_Concat_api_Key_api_Key_l0_run k0 n slices2 size3 x4 x5 x6 q7) slices2 size3 x4 x5 x6 q7

noncomputable def slices_Concat_api_Key_api_Key_l1_step {α : Type} (k2 : (Seq Z1) → (Seq Z1) → (Seq Z1) → Option α) (rec : (Seq ((Seq Z1) × Unit)) → (Int) → (Int) → (Seq Z1) → (Seq Z1) → (Seq Z1) → Option α) (x11 : Seq ((Seq Z1) × Unit)) (x12 : Int) (x13 : Int) (q14 : Seq Z1) (q15 : Seq Z1) (q16 : Seq Z1) : Option α :=
  (cond (decide (x13 < x12))
    (cond ((decide ((0 : Int) ≤ x13)) && (decide (x13 < (x11.n : Int))))
      (cond (decide (((q16.n + (x11.g x13.toNat).1.n)) * 48 ≤ 140737488355328))
        (rec x11 x12 (IntKind.i64.wrap (x13 + 1)) q14 q15 (⟨(q16.nl && (Nat.beq (x11.g x13.toNat).1.n 0)), (q16.n + (x11.g x13.toNat).1.n), (tApp q16.n q16.g (x11.g x13.toNat).1.g)⟩ : Seq Z1))
        none)
      none)
    (k2 q14 q15 q16))

noncomputable def slices_Concat_api_Key_api_Key_l1_run {α : Type} (k2 : (Seq Z1) → (Seq Z1) → (Seq Z1) → Option α) : Nat → (Seq ((Seq Z1) × Unit)) → (Int) → (Int) → (Seq Z1) → (Seq Z1) → (Seq Z1) → Option α
  | 0, _, _, _, _, _, _ => none
  | n + 1, x11, x12, x13, q14, q15, q16 => slices_Concat_api_Key_api_Key_l1_step k2 (fun x11 x12 x13 q14 q15 q16 => slices_Concat_api_Key_api_Key_l1_run k2 n x11 x12 x13 q14 q15 q16) x11 x12 x13 q14 q15 q16

noncomputable def slices_Concat_api_Key_api_Key {α : Type} (slices1 : Seq ((Seq Z1) × Unit)) (k : (Seq Z1) → Option α) : Option α :=
  (slices_Concat_api_Key_api_Key_l0_run
    (fun x8 x9 q10 =>
      (cond (decide (x9 < 0))
        none
        (cond (decide ((IntKind.i64.wrap (x9 - 0)) > 0))
          (cond (((decide ((0 : Int) ≤ (IntKind.i64.wrap (x9 - 0)))) && (decide ((IntKind.i64.wrap (x9 - 0)) * 48 ≤ 140737488355328))) && (decide (((0 + (IntKind.i64.wrap (x9 - 0)).toNat)) * 48 ≤ 140737488355328)))
            (cond (decide ((0 : Int) ≤ (((0 + (IntKind.i64.wrap (x9 - 0)).toNat) : Nat) : Int)))
              (slices_Concat_api_Key_api_Key_l1_run
                (fun q17 q18 q19 =>
                  (k q19))
                1000 x8 (x8.n : Int) 0 q10 (⟨true, 0, (fun _ => (0, 0, 0, 0, 0, 0, ()))⟩ : Seq Z1) (⟨(Nat.beq (IntKind.i64.wrap (x9 - 0)).toNat 0), 0, (tApp 0 (fun _ => (0, 0, 0, 0, 0, 0, ())) (fun _ => (0, 0, 0, 0, 0, 0, ())))⟩ : Seq Z1))
              none)
            none)
          (slices_Concat_api_Key_api_Key_l1_run
            (fun q20 q21 q22 =>
              (k q22))
            1000 x8 (x8.n : Int) 0 q10 (⟨true, 0, (fun _ => (0, 0, 0, 0, 0, 0, ()))⟩ : Seq Z1) (⟨true, 0, (fun _ => (0, 0, 0, 0, 0, 0, ()))⟩ : Seq Z1)))))
    1000 slices1 0 slices1 (slices1.n : Int) 0 (⟨true, 0, (fun _ => (0, 0, 0, 0, 0, 0, ()))⟩ : Seq Z1))

noncomputable def slices_Concat_api_Key_api_Key_sp {α : Type} (slices_Concat_api_Key_api_Key : slices_Concat_api_Key_api_Key_T α) : FunSpec α := ⟨82, [.sl (.sl (.int .i64 (.int .i64 (.int .i64 (.int .i64 (.int .i64 (.int .i64 (.nil))))))) (.nil))], [], fun ds k => slices_Concat_api_Key_api_Key (hdQ (.sl (.int .i64 (.int .i64 (.int .i64 (.int .i64 (.int .i64 (.int .i64 (.nil))))))) (.nil)) ds) (fun q1 => k (enc dep (.own 0) []).1 (encBs [.row true (.int .i64 (.int .i64 (.int .i64 (.int .i64 (.int .i64 (.int .i64 (.nil)))))))] [.q (.int .i64 (.int .i64 (.int .i64 (.int .i64 (.int .i64 (.int .i64 (.nil))))))) q1]).1)⟩

noncomputable def slices_Concat_api_Key_api_Key_spec {α : Type} : FunSpec α := slices_Concat_api_Key_api_Key_sp slices_Concat_api_Key_api_Key

noncomputable def slices_Concat_api_Key_api_Key_C {α : Type} : List (FunSpec α) := []

noncomputable def slices_Concat_api_Key_api_Key_q : FuncId → Bool := fun f => false

noncomputable def slices_Concat_api_Key_api_Key_inl : FuncId → Bool := fun f => Nat.beq f 83

noncomputable def slices_Concat_api_Key_api_Key_ann : FuncId → AnnT := fun f p => if f = 82 then (if p = [true, false, true, true, true, true] then ⟨[6, 25, 26, 27], [0, 1, 2], [6], [2], 0, [6], []⟩ else if p = [true, false, true, true] then ⟨[0, 3, 9, 10, 11], [0], [0, 3], [2], 0, [], []⟩ else ⟨[], [], [], [], 0, [], []⟩) else ⟨[], [], [], [], 0, [], []⟩

noncomputable def slices_Concat_api_Key_api_Key_l0_t : List Sh := [.sl (.sl (.int .i64 (.int .i64 (.int .i64 (.int .i64 (.int .i64 (.int .i64 (.nil))))))) (.nil)), .dead, .dead, .int .i64, .dead, .dead, .dead, .dead, .dead, .sl (.sl (.int .i64 (.int .i64 (.int .i64 (.int .i64 (.int .i64 (.int .i64 (.nil))))))) (.nil)), .int .i64, .int .i64, .dead, .dead, .dead, .dead, .dead, .dead, .dead, .dead, .dead, .dead, .dead, .dead, .dead, .dead, .dead, .dead, .dead, .dead, .dead, .dead, .dead, .dead, .dead, .dead]
noncomputable def slices_Concat_api_Key_api_Key_l0_s : List (List Sh) := []
noncomputable def slices_Concat_api_Key_api_Key_l0_h : List BSh := [.row true (.int .i64 (.int .i64 (.int .i64 (.int .i64 (.int .i64 (.int .i64 (.nil)))))))]

noncomputable def slices_Concat_api_Key_api_Key_l0_spec {α : Type} : LoopSpec α := ⟨6, 82, [true, false, true, true], slices_Concat_api_Key_api_Key_l0_t, slices_Concat_api_Key_api_Key_l0_s, slices_Concat_api_Key_api_Key_l0_h, fun ds k => slices_Concat_api_Key_api_Key_l0_run (fun y1 y2 y3 => k (.exit 0) (encSt [.sl (.sl (.int .i64 (.int .i64 (.int .i64 (.int .i64 (.int .i64 (.int .i64 (.nil))))))) (.nil)), .dead, .dead, .int .i64, .dead, .dead, .dead, .dead, .dead, .dead, .dead, .dead, .dead, .dead, .dead, .dead, .dead, .dead, .dead, .dead, .dead, .dead, .dead, .dead, .dead, .dead, .dead, .dead, .dead, .dead, .dead, .dead, .dead, .dead, .dead, .dead] [] [.row true (.int .i64 (.int .i64 (.int .i64 (.int .i64 (.int .i64 (.int .i64 (.nil)))))))] [.q (.sl (.int .i64 (.int .i64 (.int .i64 (.int .i64 (.int .i64 (.int .i64 (.nil))))))) (.nil)) y1, .i y2, .q (.int .i64 (.int .i64 (.int .i64 (.int .i64 (.int .i64 (.int .i64 (.nil))))))) y3])) 1000 (hdQ (.sl (.int .i64 (.int .i64 (.int .i64 (.int .i64 (.int .i64 (.int .i64 (.nil))))))) (.nil)) ds) (hdI ds.tail) (hdQ (.sl (.int .i64 (.int .i64 (.int .i64 (.int .i64 (.int .i64 (.int .i64 (.nil))))))) (.nil)) ds.tail.tail) (hdI ds.tail.tail.tail) (hdI ds.tail.tail.tail.tail) (hdQ (.int .i64 (.int .i64 (.int .i64 (.int .i64 (.int .i64 (.int .i64 (.nil))))))) ds.tail.tail.tail.tail.tail)⟩

noncomputable def slices_Concat_api_Key_api_Key_l1_t : List Sh := [.dead, .dead, .dead, .dead, .dead, .dead, .own 2, .dead, .dead, .dead, .dead, .dead, .dead, .dead, .dead, .dead, .dead, .dead, .dead, .dead, .dead, .dead, .dead, .dead, .dead, .sl (.sl (.int .i64 (.int .i64 (.int .i64 (.int .i64 (.int .i64 (.int .i64 (.nil))))))) (.nil)), .int .i64, .int .i64, .dead, .dead, .dead, .dead, .dead, .dead, .dead, .dead]
noncomputable def slices_Concat_api_Key_api_Key_l1_s : List (List Sh) := []
noncomputable def slices_Concat_api_Key_api_Key_l1_h : List BSh := [.row true (.int .i64 (.int .i64 (.int .i64 (.int .i64 (.int .i64 (.int .i64 (.nil))))))), .row true (.int .i64 (.int .i64 (.int .i64 (.int .i64 (.int .i64 (.int .i64 (.nil))))))), .row true (.int .i64 (.int .i64 (.int .i64 (.int .i64 (.int .i64 (.int .i64 (.nil)))))))]

noncomputable def slices_Concat_api_Key_api_Key_l1_spec {α : Type} : LoopSpec α := ⟨6, 82, [true, false, true, true, true, true], slices_Concat_api_Key_api_Key_l1_t, slices_Concat_api_Key_api_Key_l1_s, slices_Concat_api_Key_api_Key_l1_h, fun ds k => slices_Concat_api_Key_api_Key_l1_run (fun y1 y2 y3 => k (.exit 2) (encSt [.dead, .dead, .dead, .dead, .dead, .dead, .own 2, .dead, .dead, .dead, .dead, .dead, .dead, .dead, .dead, .dead, .dead, .dead, .dead, .dead, .dead, .dead, .dead, .dead, .dead, .dead, .dead, .dead, .dead, .dead, .dead, .dead, .dead, .dead, .dead, .dead] [] [.row true (.int .i64 (.int .i64 (.int .i64 (.int .i64 (.int .i64 (.int .i64 (.nil))))))), .row true (.int .i64 (.int .i64 (.int .i64 (.int .i64 (.int .i64 (.int .i64 (.nil))))))), .row true (.int .i64 (.int .i64 (.int .i64 (.int .i64 (.int .i64 (.int .i64 (.nil)))))))] [.q (.int .i64 (.int .i64 (.int .i64 (.int .i64 (.int .i64 (.int .i64 (.nil))))))) y1, .q (.int .i64 (.int .i64 (.int .i64 (.int .i64 (.int .i64 (.int .i64 (.nil))))))) y2, .q (.int .i64 (.int .i64 (.int .i64 (.int .i64 (.int .i64 (.int .i64 (.nil))))))) y3])) 1000 (hdQ (.sl (.int .i64 (.int .i64 (.int .i64 (.int .i64 (.int .i64 (.int .i64 (.nil))))))) (.nil)) ds) (hdI ds.tail) (hdI ds.tail.tail) (hdQ (.int .i64 (.int .i64 (.int .i64 (.int .i64 (.int .i64 (.int .i64 (.nil))))))) ds.tail.tail.tail) (hdQ (.int .i64 (.int .i64 (.int .i64 (.int .i64 (.int .i64 (.int .i64 (.nil))))))) ds.tail.tail.tail.tail) (hdQ (.int .i64 (.int .i64 (.int .i64 (.int .i64 (.int .i64 (.int .i64 (.nil))))))) ds.tail.tail.tail.tail.tail)⟩

noncomputable def slices_Concat_api_Key_api_Key_loops {α : Type} : List (LoopSpec α) := [slices_Concat_api_Key_api_Key_l0_spec, slices_Concat_api_Key_api_Key_l1_spec]

noncomputable def slices_Concat_api_Key_api_Key_l0_ev {α : Type} (n : Nat) (st : St) (k : X → St → Option α) : Option α := loopN (evCode Go.Proofs.Try.prog (callD Go.Proofs.Try.prog (envOf (slices_Concat_api_Key_api_Key_C) slices_Concat_api_Key_api_Key_q slices_Concat_api_Key_api_Key_inl 1000 slices_Concat_api_Key_api_Key_ann false (slices_Concat_api_Key_api_Key_loops) (fun _ => none)) 6) (((envOf (slices_Concat_api_Key_api_Key_C) slices_Concat_api_Key_api_Key_q slices_Concat_api_Key_api_Key_inl 1000 slices_Concat_api_Key_api_Key_ann false (slices_Concat_api_Key_api_Key_loops) (fun _ => none)) : Env α).L 6 82) 1000 (slices_Concat_api_Key_api_Key_ann 82) (false :: [true, false, true, true]) (loopC Go.Proofs.Try.prog 82 [true, false, true, true])) ((slices_Concat_api_Key_api_Key_ann 82 [true, false, true, true]).head 1) ((slices_Concat_api_Key_api_Key_ann 82 [true, false, true, true]).leave 1) n st k

theorem slices_Concat_api_Key_api_Key_l0_eq {α : Type} : ∀ (n : Nat) (slices2 : Seq ((Seq Z1) × Unit)) (size3 : Int) (x4 : Seq ((Seq Z1) × Unit)) (x5 : Int) (x6 : Int) (q7 : Seq Z1) (k : X → St → Option α), slices_Concat_api_Key_api_Key_l0_ev n (encSt slices_Concat_api_Key_api_Key_l0_t slices_Concat_api_Key_api_Key_l0_s slices_Concat_api_Key_api_Key_l0_h [.q (.sl (.int .i64 (.int .i64 (.int .i64 (.int .i64 (.int .i64 (.int .i64 (.nil))))))) (.nil)) slices2, .i size3, .q (.sl (.int .i64 (.int .i64 (.int .i64 (.int .i64 (.int .i64 (.int .i64 (.nil))))))) (.nil)) x4, .i x5, .i x6, .q (.int .i64 (.int .i64 (.int .i64 (.int .i64 (.int .i64 (.int .i64 (.nil))))))) q7]) k = slices_Concat_api_Key_api_Key_l0_run (fun y1 y2 y3 => k (.exit 0) (encSt [.sl (.sl (.int .i64 (.int .i64 (.int .i64 (.int .i64 (.int .i64 (.int .i64 (.nil))))))) (.nil)), .dead, .dead, .int .i64, .dead, .dead, .dead, .dead, .dead, .dead, .dead, .dead, .dead, .dead, .dead, .dead, .dead, .dead, .dead, .dead, .dead, .dead, .dead, .dead, .dead, .dead, .dead, .dead, .dead, .dead, .dead, .dead, .dead, .dead, .dead, .dead] [] [.row true (.int .i64 (.int .i64 (.int .i64 (.int .i64 (.int .i64 (.int .i64 (.nil)))))))] [.q (.sl (.int .i64 (.int .i64 (.int .i64 (.int .i64 (.int .i64 (.int .i64 (.nil))))))) (.nil)) y1, .i y2, .q (.int .i64 (.int .i64 (.int .i64 (.int .i64 (.int .i64 (.int .i64 (.nil))))))) y3])) n slices2 size3 x4 x5 x6 q7 := by
  intro n
  induction n with
  | zero => intros; kernel_rfl
  | succ n ih =>
    intro slices2 size3 x4 x5 x6 q7 k
    have e : (fun (slices2 : Seq ((Seq Z1) × Unit)) (size3 : Int) (x4 : Seq ((Seq Z1) × Unit)) (x5 : Int) (x6 : Int) (q7 : Seq Z1) => slices_Concat_api_Key_api_Key_l0_ev n (encSt slices_Concat_api_Key_api_Key_l0_t slices_Concat_api_Key_api_Key_l0_s slices_Concat_api_Key_api_Key_l0_h [.q (.sl (.int .i64 (.int .i64 (.int .i64 (.int .i64 (.int .i64 (.int .i64 (.nil))))))) (.nil)) slices2, .i size3, .q (.sl (.int .i64 (.int .i64 (.int .i64 (.int .i64 (.int .i64 (.int .i64 (.nil))))))) (.nil)) x4, .i x5, .i x6, .q (.int .i64 (.int .i64 (.int .i64 (.int .i64 (.int .i64 (.int .i64 (.nil))))))) q7]) k) = (fun (slices2 : Seq ((Seq Z1) × Unit)) (size3 : Int) (x4 : Seq ((Seq Z1) × Unit)) (x5 : Int) (x6 : Int) (q7 : Seq Z1) => slices_Concat_api_Key_api_Key_l0_run (fun y1 y2 y3 => k (.exit 0) (encSt [.sl (.sl (.int .i64 (.int .i64 (.int .i64 (.int .i64 (.int .i64 (.int .i64 (.nil))))))) (.nil)), .dead, .dead, .int .i64, .dead, .dead, .dead, .dead, .dead, .dead, .dead, .dead, .dead, .dead, .dead, .dead, .dead, .dead, .dead, .dead, .dead, .dead, .dead, .dead, .dead, .dead, .dead, .dead, .dead, .dead, .dead, .dead, .dead, .dead, .dead, .dead] [] [.row true (.int .i64 (.int .i64 (.int .i64 (.int .i64 (.int .i64 (.int .i64 (.nil)))))))] [.q (.sl (.int .i64 (.int .i64 (.int .i64 (.int .i64 (.int .i64 (.int .i64 (.nil))))))) (.nil)) y1, .i y2, .q (.int .i64 (.int .i64 (.int .i64 (.int .i64 (.int .i64 (.int .i64 (.nil))))))) y3])) n slices2 size3 x4 x5 x6 q7) := by
      funext slices2 size3 x4 x5 x6 q7
      exact ih slices2 size3 x4 x5 x6 q7 k
    have h1 : slices_Concat_api_Key_api_Key_l0_ev (n + 1) (encSt slices_Concat_api_Key_api_Key_l0_t slices_Concat_api_Key_api_Key_l0_s slices_Concat_api_Key_api_Key_l0_h [.q (.sl (.int .i64 (.int .i64 (.int .i64 (.int .i64 (.int .i64 (.int .i64 (.nil))))))) (.nil)) slices2, .i size3, .q (.sl (.int .i64 (.int .i64 (.int .i64 (.int .i64 (.int .i64 (.int .i64 (.nil))))))) (.nil)) x4, .i x5, .i x6, .q (.int .i64 (.int .i64 (.int .i64 (.int .i64 (.int .i64 (.int .i64 (.nil))))))) q7]) k = slices_Concat_api_Key_api_Key_l0_step (fun y1 y2 y3 => k (.exit 0) (encSt [.sl (.sl (.int .i64 (.int .i64 (.int .i64 (.int .i64 (.int .i64 (.int .i64 (.nil))))))) (.nil)), .dead, .dead, .int .i64, .dead, .dead, .dead, .dead, .dead, .dead, .dead, .dead, .dead, .dead, .dead, .dead, .dead, .dead, .dead, .dead, .dead, .dead, .dead, .dead, .dead, .dead, .dead, .dead, .dead, .dead, .dead, .dead, .dead, .dead, .dead, .dead] [] [.row true (.int .i64 (.int .i64 (.int .i64 (.int .i64 (.int .i64 (.int .i64 (.nil)))))))] [.q (.sl (.int .i64 (.int .i64 (.int .i64 (.int .i64 (.int .i64 (.int .i64 (.nil))))))) (.nil)) y1, .i y2, .q (.int .i64 (.int .i64 (.int .i64 (.int .i64 (.int .i64 (.int .i64 (.nil))))))) y3])) (fun (slices2 : Seq ((Seq Z1) × Unit)) (size3 : Int) (x4 : Seq ((Seq Z1) × Unit)) (x5 : Int) (x6 : Int) (q7 : Seq Z1) => slices_Concat_api_Key_api_Key_l0_ev n (encSt slices_Concat_api_Key_api_Key_l0_t slices_Concat_api_Key_api_Key_l0_s slices_Concat_api_Key_api_Key_l0_h [.q (.sl (.int .i64 (.int .i64 (.int .i64 (.int .i64 (.int .i64 (.int .i64 (.nil))))))) (.nil)) slices2, .i size3, .q (.sl (.int .i64 (.int .i64 (.int .i64 (.int .i64 (.int .i64 (.int .i64 (.nil))))))) (.nil)) x4, .i x5, .i x6, .q (.int .i64 (.int .i64 (.int .i64 (.int .i64 (.int .i64 (.int .i64 (.nil))))))) q7]) k) slices2 size3 x4 x5 x6 q7 := by kernel_rfl
    have h2 := congrArg (fun r => slices_Concat_api_Key_api_Key_l0_step (fun y1 y2 y3 => k (.exit 0) (encSt [.sl (.sl (.int .i64 (.int .i64 (.int .i64 (.int .i64 (.int .i64 (.int .i64 (.nil))))))) (.nil)), .dead, .dead, .int .i64, .dead, .dead, .dead, .dead, .dead, .dead, .dead, .dead, .dead, .dead, .dead, .dead, .dead, .dead, .dead, .dead, .dead, .dead, .dead, .dead, .dead, .dead, .dead, .dead, .dead, .dead, .dead, .dead, .dead, .dead, .dead, .dead] [] [.row true (.int .i64 (.int .i64 (.int .i64 (.int .i64 (.int .i64 (.int .i64 (.nil)))))))] [.q (.sl (.int .i64 (.int .i64 (.int .i64 (.int .i64 (.int .i64 (.int .i64 (.nil))))))) (.nil)) y1, .i y2, .q (.int .i64 (.int .i64 (.int .i64 (.int .i64 (.int .i64 (.int .i64 (.nil))))))) y3])) r slices2 size3 x4 x5 x6 q7) e
    have h3 : slices_Concat_api_Key_api_Key_l0_step (fun y1 y2 y3 => k (.exit 0) (encSt [.sl (.sl (.int .i64 (.int .i64 (.int .i64 (.int .i64 (.int .i64 (.int .i64 (.nil))))))) (.nil)), .dead, .dead, .int .i64, .dead, .dead, .dead, .dead, .dead, .dead, .dead, .dead, .dead, .dead, .dead, .dead, .dead, .dead, .dead, .dead, .dead, .dead, .dead, .dead, .dead, .dead, .dead, .dead, .dead, .dead, .dead, .dead, .dead, .dead, .dead, .dead] [] [.row true (.int .i64 (.int .i64 (.int .i64 (.int .i64 (.int .i64 (.int .i64 (.nil)))))))] [.q (.sl (.int .i64 (.int .i64 (.int .i64 (.int .i64 (.int .i64 (.int .i64 (.nil))))))) (.nil)) y1, .i y2, .q (.int .i64 (.int .i64 (.int .i64 (.int .i64 (.int .i64 (.int .i64 (.nil))))))) y3])) (fun (slices2 : Seq ((Seq Z1) × Unit)) (size3 : Int) (x4 : Seq ((Seq Z1) × Unit)) (x5 : Int) (x6 : Int) (q7 : Seq Z1) => slices_Concat_api_Key_api_Key_l0_run (fun y1 y2 y3 => k (.exit 0) (encSt [.sl (.sl (.int .i64 (.int .i64 (.int .i64 (.int .i64 (.int .i64 (.int .i64 (.nil))))))) (.nil)), .dead, .dead, .int .i64, .dead, .dead, .dead, .dead, .dead, .dead, .dead, .dead, .dead, .dead, .dead, .dead, .dead, .dead, .dead, .dead, .dead, .dead, .dead, .dead, .dead, .dead, .dead, .dead, .dead, .dead, .dead, .dead, .dead, .dead, .dead, .dead] [] [.row true (.int .i64 (.int .i64 (.int .i64 (.int .i64 (.int .i64 (.int .i64 (.nil)))))))] [.q (.sl (.int .i64 (.int .i64 (.int .i64 (.int .i64 (.int .i64 (.int .i64 (.nil))))))) (.nil)) y1, .i y2, .q (.int .i64 (.int .i64 (.int .i64 (.int .i64 (.int .i64 (.int .i64 (.nil))))))) y3])) n slices2 size3 x4 x5 x6 q7) slices2 size3 x4 x5 x6 q7 = slices_Concat_api_Key_api_Key_l0_run (fun y1 y2 y3 => k (.exit 0) (encSt [.sl (.sl (.int .i64 (.int .i64 (.int .i64 (.int .i64 (.int .i64 (.int .i64 (.nil))))))) (.nil)), .dead, .dead, .int .i64, .dead, .dead, .dead, .dead, .dead, .dead, .dead, .dead, .dead, .dead, .dead, .dead, .dead, .dead, .dead, .dead, .dead, .dead, .dead, .dead, .dead, .dead, .dead, .dead, .dead, .dead, .dead, .dead, .dead, .dead, .dead, .dead] [] [.row true (.int .i64 (.int .i64 (.int .i64 (.int .i64 (.int .i64 (.int .i64 (.nil)))))))] [.q (.sl (.int .i64 (.int .i64 (.int .i64 (.int .i64 (.int .i64 (.int .i64 (.nil))))))) (.nil)) y1, .i y2, .q (.int .i64 (.int .i64 (.int .i64 (.int .i64 (.int .i64 (.int .i64 (.nil))))))) y3])) (n + 1) slices2 size3 x4 x5 x6 q7 := by kernel_rfl
    exact h1.trans (h2.trans h3)

theorem slices_Concat_api_Key_api_Key_l0_ok {α : Type} : (slices_Concat_api_Key_api_Key_l0_spec : LoopSpec α).ok Go.Proofs.Try.prog (envOf (slices_Concat_api_Key_api_Key_C) slices_Concat_api_Key_api_Key_q slices_Concat_api_Key_api_Key_inl 1000 slices_Concat_api_Key_api_Key_ann false (slices_Concat_api_Key_api_Key_loops) (fun _ => none)) := by
  intro ds k
  have h1 : slices_Concat_api_Key_api_Key_l0_ev 1000 (encSt slices_Concat_api_Key_api_Key_l0_t slices_Concat_api_Key_api_Key_l0_s slices_Concat_api_Key_api_Key_l0_h ds) k = slices_Concat_api_Key_api_Key_l0_ev 1000 (encSt slices_Concat_api_Key_api_Key_l0_t slices_Concat_api_Key_api_Key_l0_s slices_Concat_api_Key_api_Key_l0_h [.q (.sl (.int .i64 (.int .i64 (.int .i64 (.int .i64 (.int .i64 (.int .i64 (.nil))))))) (.nil)) (hdQ (.sl (.int .i64 (.int .i64 (.int .i64 (.int .i64 (.int .i64 (.int .i64 (.nil))))))) (.nil)) ds), .i (hdI ds.tail), .q (.sl (.int .i64 (.int .i64 (.int .i64 (.int .i64 (.int .i64 (.int .i64 (.nil))))))) (.nil)) (hdQ (.sl (.int .i64 (.int .i64 (.int .i64 (.int .i64 (.int .i64 (.int .i64 (.nil))))))) (.nil)) ds.tail.tail), .i (hdI ds.tail.tail.tail), .i (hdI ds.tail.tail.tail.tail), .q (.int .i64 (.int .i64 (.int .i64 (.int .i64 (.int .i64 (.int .i64 (.nil))))))) (hdQ (.int .i64 (.int .i64 (.int .i64 (.int .i64 (.int .i64 (.int .i64 (.nil))))))) ds.tail.tail.tail.tail.tail)]) k := by kernel_rfl
  have h2 := slices_Concat_api_Key_api_Key_l0_eq 1000 (hdQ (.sl (.int .i64 (.int .i64 (.int .i64 (.int .i64 (.int .i64 (.int .i64 (.nil))))))) (.nil)) ds) (hdI ds.tail) (hdQ (.sl (.int .i64 (.int .i64 (.int .i64 (.int .i64 (.int .i64 (.int .i64 (.nil))))))) (.nil)) ds.tail.tail) (hdI ds.tail.tail.tail) (hdI ds.tail.tail.tail.tail) (hdQ (.int .i64 (.int .i64 (.int .i64 (.int .i64 (.int .i64 (.int .i64 (.nil))))))) ds.tail.tail.tail.tail.tail) k
  exact h1.trans h2

noncomputable def slices_Concat_api_Key_api_Key_l1_ev {α : Type} (n : Nat) (st : St) (k : X → St → Option α) : Option α := loopN (evCode Go.Proofs.Try.prog (callD Go.Proofs.Try.prog (envOf (slices_Concat_api_Key_api_Key_C) slices_Concat_api_Key_api_Key_q slices_Concat_api_Key_api_Key_inl 1000 slices_Concat_api_Key_api_Key_ann false (slices_Concat_api_Key_api_Key_loops) (fun _ => none)) 6) (((envOf (slices_Concat_api_Key_api_Key_C) slices_Concat_api_Key_api_Key_q slices_Concat_api_Key_api_Key_inl 1000 slices_Concat_api_Key_api_Key_ann false (slices_Concat_api_Key_api_Key_loops) (fun _ => none)) : Env α).L 6 82) 1000 (slices_Concat_api_Key_api_Key_ann 82) (false :: [true, false, true, true, true, true]) (loopC Go.Proofs.Try.prog 82 [true, false, true, true, true, true])) ((slices_Concat_api_Key_api_Key_ann 82 [true, false, true, true, true, true]).head 3) ((slices_Concat_api_Key_api_Key_ann 82 [true, false, true, true, true, true]).leave 3) n st k

theorem slices_Concat_api_Key_api_Key_l1_eq {α : Type} : ∀ (n : Nat) (x11 : Seq ((Seq Z1) × Unit)) (x12 : Int) (x13 : Int) (q14 : Seq Z1) (q15 : Seq Z1) (q16 : Seq Z1) (k : X → St → Option α), slices_Concat_api_Key_api_Key_l1_ev n (encSt slices_Concat_api_Key_api_Key_l1_t slices_Concat_api_Key_api_Key_l1_s slices_Concat_api_Key_api_Key_l1_h [.q (.sl (.int .i64 (.int .i64 (.int .i64 (.int .i64 (.int .i64 (.int .i64 (.nil))))))) (.nil)) x11, .i x12, .i x13, .q (.int .i64 (.int .i64 (.int .i64 (.int .i64 (.int .i64 (.int .i64 (.nil))))))) q14, .q (.int .i64 (.int .i64 (.int .i64 (.int .i64 (.int .i64 (.int .i64 (.nil))))))) q15, .q (.int .i64 (.int .i64 (.int .i64 (.int .i64 (.int .i64 (.int .i64 (.nil))))))) q16]) k = slices_Concat_api_Key_api_Key_l1_run (fun y1 y2 y3 => k (.exit 2) (encSt [.dead, .dead, .dead, .dead, .dead, .dead, .own 2, .dead, .dead, .dead, .dead, .dead, .dead, .dead, .dead, .dead, .dead, .dead, .dead, .dead, .dead, .dead, .dead, .dead, .dead, .dead, .dead, .dead, .dead, .dead, .dead, .dead, .dead, .dead, .dead, .dead] [] [.row true (.int .i64 (.int .i64 (.int .i64 (.int .i64 (.int .i64 (.int .i64 (.nil))))))), .row true (.int .i64 (.int .i64 (.int .i64 (.int .i64 (.int .i64 (.int .i64 (.nil))))))), .row true (.int .i64 (.int .i64 (.int .i64 (.int .i64 (.int .i64 (.int .i64 (.nil)))))))] [.q (.int .i64 (.int .i64 (.int .i64 (.int .i64 (.int .i64 (.int .i64 (.nil))))))) y1, .q (.int .i64 (.int .i64 (.int .i64 (.int .i64 (.int .i64 (.int .i64 (.nil))))))) y2, .q (.int .i64 (.int .i64 (.int .i64 (.int .i64 (.int .i64 (.int .i64 (.nil))))))) y3])) n x11 x12 x13 q14 q15 q16 := by
  intro n
  induction n with
  | zero => intros; kernel_rfl
  | succ n ih =>
    intro x11 x12 x13 q14 q15 q16 k
    have e : (fun (x11 : Seq ((Seq Z1) × Unit)) (x12 : Int) (x13 : Int) (q14 : Seq Z1) (q15 : Seq Z1) (q16 : Seq Z1) => slices_Concat_api_Key_api_Key_l1_ev n (encSt slices_Concat_api_Key_api_Key_l1_t slices_Concat_api_Key_api_Key_l1_s slices_Concat_api_Key_api_Key_l1_h [.q (.sl (.int .i64 (.int .i64 (.int .i64 (.int .i64 (.int .i64 (.int .i64 (.nil))))))) (.nil)) x11, .i x12, .i x13, .q (.int .i64 (.int .i64 (.int .i64 (.int .i64 (.int .i64 (.int .i64 (.nil))))))) q14, .q (.int .i64 (.int .i64 (.int .i64 (.int .i64 (.int .i64 (.int .i64 (.nil))))))) q15, .q (.int .i64 (.int .i64 (.int .i64 (.int .i64 (.int .i64 (.int .i64 (.nil))))))) q16]) k) = (fun (x11 : Seq ((Seq Z1) × Unit)) (x12 : Int) (x13 : Int) (q14 : Seq Z1) (q15 : Seq Z1) (q16 : Seq Z1) => slices_Concat_api_Key_api_Key_l1_run (fun y1 y2 y3 => k (.exit 2) (encSt [.dead, .dead, .dead, .dead, .dead, .dead, .own 2, .dead, .dead, .dead, .dead, .dead, .dead, .dead, .dead, .dead, .dead, .dead, .dead, .dead, .dead, .dead, .dead, .dead, .dead, .dead, .dead, .dead, .dead, .dead, .dead, .dead, .dead, .dead, .dead, .dead] [] [.row true (.int .i64 (.int .i64 (.int .i64 (.int .i64 (.int .i64 (.int .i64 (.nil))))))), .row true (.int .i64 (.int .i64 (.int .i64 (.int .i64 (.int .i64 (.int .i64 (.nil))))))), .row true (.int .i64 (.int .i64 (.int .i64 (.int .i64 (.int .i64 (.int .i64 (.nil)))))))] [.q (.int .i64 (.int .i64 (.int .i64 (.int .i64 (.int .i64 (.int .i64 (.nil))))))) y1, .q (.int .i64 (.int .i64 (.int .i64 (.int .i64 (.int .i64 (.int .i64 (.nil))))))) y2, .q (.int .i64 (.int .i64 (.int .i64 (.int .i64 (.int .i64 (.int .i64 (.nil))))))) y3])) n x11 x12 x13 q14 q15 q16) := by
      funext x11 x12 x13 q14 q15 q16
      exact ih x11 x12 x13 q14 q15 q16 k
    have h1 : slices_Concat_api_Key_api_Key_l1_ev (n + 1) (encSt slices_Concat_api_Key_api_Key_l1_t slices_Concat_api_Key_api_Key_l1_s slices_Concat_api_Key_api_Key_l1_h [.q (.sl (.int .i64 (.int .i64 (.int .i64 (.int .i64 (.int .i64 (.int .i64 (.nil))))))) (.nil)) x11, .i x12, .i x13, .q (.int .i64 (.int .i64 (.int .i64 (.int .i64 (.int .i64 (.int .i64 (.nil))))))) q14, .q (.int .i64 (.int .i64 (.int .i64 (.int .i64 (.int .i64 (.int .i64 (.nil))))))) q15, .q (.int .i64 (.int .i64 (.int .i64 (.int .i64 (.int .i64 (.int .i64 (.nil))))))) q16]) k = slices_Concat_api_Key_api_Key_l1_step (fun y1 y2 y3 => k (.exit 2) (encSt [.dead, .dead, .dead, .dead, .dead, .dead, .own 2, .dead, .dead, .dead, .dead, .dead, .dead, .dead, .dead, .dead, .dead, .dead, .dead, .dead, .dead, .dead, .dead, .dead, .dead, .dead, .dead, .dead, .dead, .dead, .dead, .dead, .dead, .dead, .dead, .dead] [] [.row true (.int .i64 (.int .i64 (.int .i64 (.int .i64 (.int .i64 (.int .i64 (.nil))))))), .row true (.int .i64 (.int .i64 (.int .i64 (.int .i64 (.int .i64 (.int .i64 (.nil))))))), .row true (.int .i64 (.int .i64 (.int .i64 (.int .i64 (.int .i64 (.int .i64 (.nil)))))))] [.q (.int .i64 (.int .i64 (.int .i64 (.int .i64 (.int .i64 (.int .i64 (.nil))))))) y1, .q (.int .i64 (.int .i64 (.int .i64 (.int .i64 (.int .i64 (.int .i64 (.nil))))))) y2, .q (.int .i64 (.int .i64 (.int .i64 (.int .i64 (.int .i64 (.int .i64 (.nil))))))) y3])) (fun (x11 : Seq ((Seq Z1) × Unit)) (x12 : Int) (x13 : Int) (q14 : Seq Z1) (q15 : Seq Z1) (q16 : Seq Z1) => slices_Concat_api_Key_api_Key_l1_ev n (encSt slices_Concat_api_Key_api_Key_l1_t slices_Concat_api_Key_api_Key_l1_s slices_Concat_api_Key_api_Key_l1_h [.q (.sl (.int .i64 (.int .i64 (.int .i64 (.int .i64 (.int .i64 (.int .i64 (.nil))))))) (.nil)) x11, .i x12, .i x13, .q (.int .i64 (.int .i64 (.int .i64 (.int .i64 (.int .i64 (.int .i64 (.nil))))))) q14, .q (.int .i64 (.int .i64 (.int .i64 (.int .i64 (.int .i64 (.int .i64 (.nil))))))) q15, .q (.int .i64 (.int .i64 (.int .i64 (.int .i64 (.int .i64 (.int .i64 (.nil))))))) q16]) k) x11 x12 x13 q14 q15 q16 := by kernel_rfl
    have h2 := congrArg (fun r => slices_Concat_api_Key_api_Key_l1_step (fun y1 y2 y3 => k (.exit 2) (encSt [.dead, .dead, .dead, .dead, .dead, .dead, .own 2, .dead, .dead, .dead, .dead, .dead, .dead, .dead, .dead, .dead, .dead, .dead, .dead, .dead, .dead, .dead, .dead, .dead, .dead, .dead, .dead, .dead, .dead, .dead, .dead, .dead, .dead, .dead, .dead, .dead] [] [.row true (.int .i64 (.int .i64 (.int .i64 (.int .i64 (.int .i64 (.int .i64 (.nil))))))), .row true (.int .i64 (.int .i64 (.int .i64 (.int .i64 (.int .i64 (.int .i64 (.nil))))))), .row true (.int .i64 (.int .i64 (.int .i64 (.int .i64 (.int .i64 (.int .i64 (.nil)))))))] [.q (.int .i64 (.int .i64 (.int .i64 (.int .i64 (.int .i64 (.int .i64 (.nil))))))) y1, .q (.int .i64 (.int .i64 (.int .i64 (.int .i64 (.int .i64 (.int .i64 (.nil))))))) y2, .q (.int .i64 (.int .i64 (.int .i64 (.int .i64 (.int .i64 (.int .i64 (.nil))))))) y3])) r x11 x12 x13 q14 q15 q16) e
    have h3 : slices_Concat_api_Key_api_Key_l1_step (fun y1 y2 y3 => k (.exit 2) (encSt [.dead, .dead, .dead, .dead, .dead, .dead, .own 2, .dead, .dead, .dead, .dead, .dead, .dead, .dead, .dead, .dead, .dead, .dead, .dead, .dead, .dead, .dead, .dead, .dead, .dead, .dead, .dead, .dead, .dead, .dead, .dead, .dead, .dead, .dead, .dead, .dead] [] [.row true (.int .i64 (.int .i64 (.int .i64 (.int .i64 (.int .i64 (.int .i64 (.nil))))))), .row true (.int .i64 (.int .i64 (.int .i64 (.int .i64 (.int .i64 (.int .i64 (.nil))))))), .row true (.int .i64 (.int .i64 (.int .i64 (.int .i64 (.int .i64 (.int .i64 (.nil)))))))] [.q (.int .i64 (.int .i64 (.int .i64 (.int .i64 (.int .i64 (.int .i64 (.nil))))))) y1, .q (.int .i64 (.int .i64 (.int .i64 (.int .i64 (.int .i64 (.int .i64 (.nil))))))) y2, .q (.int .i64 (.int .i64 (.int .i64 (.int .i64 (.int .i64 (.int .i64 (.nil))))))) y3])) (fun (x11 : Seq ((Seq Z1) × Unit)) (x12 : Int) (x13 : Int) (q14 : Seq Z1) (q15 : Seq Z1) (q16 : Seq Z1) => slices_Concat_api_Key_api_Key_l1_run (fun y1 y2 y3 => k (.exit 2) (encSt [.dead, .dead, .dead, .dead, .dead, .dead, .own 2, .dead, .dead, .dead, .dead, .dead, .dead, .dead, .dead, .dead, .dead, .dead, .dead, .dead, .dead, .dead, .dead, .dead, .dead, .dead, .dead, .dead, .dead, .dead, .dead, .dead, .dead, .dead, .dead, .dead] [] [.row true (.int .i64 (.int .i64 (.int .i64 (.int .i64 (.int .i64 (.int .i64 (.nil))))))), .row true (.int .i64 (.int .i64 (.int .i64 (.int .i64 (.int .i64 (.int .i64 (.nil))))))), .row true (.int .i64 (.int .i64 (.int .i64 (.int .i64 (.int .i64 (.int .i64 (.nil)))))))] [.q (.int .i64 (.int .i64 (.int .i64 (.int .i64 (.int .i64 (.int .i64 (.nil))))))) y1, .q (.int .i64 (.int .i64 (.int .i64 (.int .i64 (.int .i64 (.int .i64 (.nil))))))) y2, .q (.int .i64 (.int .i64 (.int .i64 (.int .i64 (.int .i64 (.int .i64 (.nil))))))) y3])) n x11 x12 x13 q14 q15 q16) x11 x12 x13 q14 q15 q16 = slices_Concat_api_Key_api_Key_l1_run (fun y1 y2 y3 => k (.exit 2) (encSt [.dead, .dead, .dead, .dead, .dead, .dead, .own 2, .dead, .dead, .dead, .dead, .dead, .dead, .dead, .dead, .dead, .dead, .dead, .dead, .dead, .dead, .dead, .dead, .dead, .dead, .dead, .dead, .dead, .dead, .dead, .dead, .dead, .dead, .dead, .dead, .dead] [] [.row true (.int .i64 (.int .i64 (.int .i64 (.int .i64 (.int .i64 (.int .i64 (.nil))))))), .row true (.int .i64 (.int .i64 (.int .i64 (.int .i64 (.int .i64 (.int .i64 (.nil))))))), .row true (.int .i64 (.int .i64 (.int .i64 (.int .i64 (.int .i64 (.int .i64 (.nil)))))))] [.q (.int .i64 (.int .i64 (.int .i64 (.int .i64 (.int .i64 (.int .i64 (.nil))))))) y1, .q (.int .i64 (.int .i64 (.int .i64 (.int .i64 (.int .i64 (.int .i64 (.nil))))))) y2, .q (.int .i64 (.int .i64 (.int .i64 (.int .i64 (.int .i64 (.int .i64 (.nil))))))) y3])) (n + 1) x11 x12 x13 q14 q15 q16 := by kernel_rfl
    exact h1.trans (h2.trans h3)

theorem slices_Concat_api_Key_api_Key_l1_ok {α : Type} : (slices_Concat_api_Key_api_Key_l1_spec : LoopSpec α).ok Go.Proofs.Try.prog (envOf (slices_Concat_api_Key_api_Key_C) slices_Concat_api_Key_api_Key_q slices_Concat_api_Key_api_Key_inl 1000 slices_Concat_api_Key_api_Key_ann false (slices_Concat_api_Key_api_Key_loops) (fun _ => none)) := by
  intro ds k
  have h1 : slices_Concat_api_Key_api_Key_l1_ev 1000 (encSt slices_Concat_api_Key_api_Key_l1_t slices_Concat_api_Key_api_Key_l1_s slices_Concat_api_Key_api_Key_l1_h ds) k = slices_Concat_api_Key_api_Key_l1_ev 1000 (encSt slices_Concat_api_Key_api_Key_l1_t slices_Concat_api_Key_api_Key_l1_s slices_Concat_api_Key_api_Key_l1_h [.q (.sl (.int .i64 (.int .i64 (.int .i64 (.int .i64 (.int .i64 (.int .i64 (.nil))))))) (.nil)) (hdQ (.sl (.int .i64 (.int .i64 (.int .i64 (.int .i64 (.int .i64 (.int .i64 (.nil))))))) (.nil)) ds), .i (hdI ds.tail), .i (hdI ds.tail.tail), .q (.int .i64 (.int .i64 (.int .i64 (.int .i64 (.int .i64 (.int .i64 (.nil))))))) (hdQ (.int .i64 (.int .i64 (.int .i64 (.int .i64 (.int .i64 (.int .i64 (.nil))))))) ds.tail.tail.tail), .q (.int .i64 (.int .i64 (.int .i64 (.int .i64 (.int .i64 (.int .i64 (.nil))))))) (hdQ (.int .i64 (.int .i64 (.int .i64 (.int .i64 (.int .i64 (.int .i64 (.nil))))))) ds.tail.tail.tail.tail), .q (.int .i64 (.int .i64 (.int .i64 (.int .i64 (.int .i64 (.int .i64 (.nil))))))) (hdQ (.int .i64 (.int .i64 (.int .i64 (.int .i64 (.int .i64 (.int .i64 (.nil))))))) ds.tail.tail.tail.tail.tail)]) k := by kernel_rfl
  have h2 := slices_Concat_api_Key_api_Key_l1_eq 1000 (hdQ (.sl (.int .i64 (.int .i64 (.int .i64 (.int .i64 (.int .i64 (.int .i64 (.nil))))))) (.nil)) ds) (hdI ds.tail) (hdI ds.tail.tail) (hdQ (.int .i64 (.int .i64 (.int .i64 (.int .i64 (.int .i64 (.int .i64 (.nil))))))) ds.tail.tail.tail) (hdQ (.int .i64 (.int .i64 (.int .i64 (.int .i64 (.int .i64 (.int .i64 (.nil))))))) ds.tail.tail.tail.tail) (hdQ (.int .i64 (.int .i64 (.int .i64 (.int .i64 (.int .i64 (.int .i64 (.nil))))))) ds.tail.tail.tail.tail.tail) k
  exact h1.trans h2

theorem slices_Concat_api_Key_api_Key_ev {α : Type} : EvOk (α := α) Go.Proofs.Try.prog (envOf (slices_Concat_api_Key_api_Key_C) slices_Concat_api_Key_api_Key_q slices_Concat_api_Key_api_Key_inl 1000 slices_Concat_api_Key_api_Key_ann false (slices_Concat_api_Key_api_Key_loops) (fun _ => none)) 6 (slices_Concat_api_Key_api_Key_sp (slices_Concat_api_Key_api_Key)) := by intro ds k; kernel_rfl

theorem slices_Concat_api_Key_api_Key_ok {α : Type} : (slices_Concat_api_Key_api_Key_spec : FunSpec α).ok Go.Proofs.Try.prog :=
  FunSpec.ok_of (sp := slices_Concat_api_Key_api_Key_spec) (C := slices_Concat_api_Key_api_Key_C) (q := slices_Concat_api_Key_api_Key_q) (inl := slices_Concat_api_Key_api_Key_inl) (N := 1000) (ann := slices_Concat_api_Key_api_Key_ann) (fr := false) (D := 6) (l := (slices_Concat_api_Key_api_Key_loops)) (hk := (fun _ => none)) okNil (lokCons (slices_Concat_api_Key_api_Key_l0_ok) (lokCons (slices_Concat_api_Key_api_Key_l1_ok) lokNil)) noHooks (slices_Concat_api_Key_api_Key_ev)

end
end Go.Rv.Try

set_option linter.unusedVariables false
set_option maxRecDepth 100000
set_option maxHeartbeats 4000000
namespace Go.Rv.Try
open Go Go.Rv Go.RowKit
noncomputable section

-- drayman/keyed.put[drayman/api.Key]

abbrev keyed_put_api_Key_T (α : Type) : Type := (Seq Z1) → Z1 → ((Seq Z1) → Option α) → Option α

noncomputable def keyed_put_api_Key_g {α : Type} (slices_BinarySearchFunc_api_Key_api_Key_api_Key : slices_BinarySearchFunc_api_Key_api_Key_api_Key_T α) (slices_Concat_api_Key_api_Key : slices_Concat_api_Key_api_Key_T α) (l1 : Seq Z1) (x2 : Int × Int × Int × Int × Int × Int × Unit) (k : (Seq Z1) → Option α) : Option α :=
  (slices_BinarySearchFunc_api_Key_api_Key_api_Key l1 x2 fun r3 r4 =>
    (cond r4
      (cond (((decide ((0 : Int) ≤ r3)) && (decide (r3 ≤ (l1.n : Int)))) && ((decide ((0 : Int) ≤ r3)) && (decide (r3 ≤ (l1.n : Int)))))
        (cond (((decide ((0 : Int) ≤ (IntKind.i64.wrap (r3 + 1)))) && (decide ((IntKind.i64.wrap (r3 + 1)) ≤ (l1.n : Int)))) && ((decide ((0 : Int) ≤ (IntKind.i64.wrap (r3 + 1)))) && (decide ((IntKind.i64.wrap (r3 + 1)) ≤ (l1.n : Int)))))
          (slices_Concat_api_Key_api_Key (⟨false, 3, (tSel [((⟨l1.nl, r3.toNat, l1.g⟩ : Seq Z1), ()), ((⟨false, 1, (fun _ => x2)⟩ : Seq Z1), ()), ((⟨l1.nl, (l1.n - (IntKind.i64.wrap (r3 + 1)).toNat), (tShift (IntKind.i64.wrap (r3 + 1)).toNat l1.g)⟩ : Seq Z1), ())] ((⟨true, 0, fun _ => (0, 0, 0, 0, 0, 0, ())⟩ : Seq Z1), ()))⟩ : Seq ((Seq Z1) × Unit)) fun r5 =>
            (k r5))
          none)
        none)
      (cond (((decide ((0 : Int) ≤ r3)) && (decide (r3 ≤ (l1.n : Int)))) && ((decide ((0 : Int) ≤ r3)) && (decide (r3 ≤ (l1.n : Int)))))
        (cond (((decide ((0 : Int) ≤ r3)) && (decide (r3 ≤ (l1.n : Int)))) && ((decide ((0 : Int) ≤ r3)) && (decide (r3 ≤ (l1.n : Int)))))
          (slices_Concat_api_Key_api_Key (⟨false, 3, (tSel [((⟨l1.nl, r3.toNat, l1.g⟩ : Seq Z1), ()), ((⟨false, 1, (fun _ => x2)⟩ : Seq Z1), ()), ((⟨l1.nl, (l1.n - r3.toNat), (tShift r3.toNat l1.g)⟩ : Seq Z1), ())] ((⟨true, 0, fun _ => (0, 0, 0, 0, 0, 0, ())⟩ : Seq Z1), ()))⟩ : Seq ((Seq Z1) × Unit)) fun r6 =>
            (k r6))
          none)
        none)))

noncomputable def keyed_put_api_Key {α : Type} : keyed_put_api_Key_T α := keyed_put_api_Key_g slices_BinarySearchFunc_api_Key_api_Key_api_Key slices_Concat_api_Key_api_Key

noncomputable def keyed_put_api_Key_sp {α : Type} (keyed_put_api_Key : keyed_put_api_Key_T α) : FunSpec α := ⟨79, [.sl (.int .i64 (.int .i64 (.int .i64 (.int .i64 (.int .i64 (.int .i64 (.nil))))))), .agg [.int .i64, .int .i64, .int .i64, .int .i64, .int .i64, .int .i64], .func (.func 64) [] []], [], fun ds k => keyed_put_api_Key (hdQ (.int .i64 (.int .i64 (.int .i64 (.int .i64 (.int .i64 (.int .i64 (.nil))))))) ds) (hdI ds.tail, hdI ds.tail.tail, hdI ds.tail.tail.tail, hdI ds.tail.tail.tail.tail, hdI ds.tail.tail.tail.tail.tail, hdI ds.tail.tail.tail.tail.tail.tail, ()) (fun q1 => k (enc dep (.own 0) []).1 (encBs [.row true (.int .i64 (.int .i64 (.int .i64 (.int .i64 (.int .i64 (.int .i64 (.nil)))))))] [.q (.int .i64 (.int .i64 (.int .i64 (.int .i64 (.int .i64 (.int .i64 (.nil))))))) q1]).1)⟩

noncomputable def keyed_put_api_Key_spec {α : Type} : FunSpec α := keyed_put_api_Key_sp keyed_put_api_Key

noncomputable def keyed_put_api_Key_C {α : Type} (slices_BinarySearchFunc_api_Key_api_Key_api_Key : slices_BinarySearchFunc_api_Key_api_Key_api_Key_T α) (slices_Concat_api_Key_api_Key : slices_Concat_api_Key_api_Key_T α) : List (FunSpec α) := [slices_BinarySearchFunc_api_Key_api_Key_api_Key_sp slices_BinarySearchFunc_api_Key_api_Key_api_Key, slices_Concat_api_Key_api_Key_sp slices_Concat_api_Key_api_Key]

noncomputable def keyed_put_api_Key_q : FuncId → Bool := fun f => Nat.beq f 81

noncomputable def keyed_put_api_Key_inl : FuncId → Bool := fun f => false

noncomputable def keyed_put_api_Key_ann : FuncId → AnnT := fun f p => if f = 79 then (if p = [false, true, true, true, true] then ⟨[], [], [], [], 2, [], []⟩ else ⟨[], [], [], [], 0, [], []⟩) else ⟨[], [], [], [], 0, [], []⟩

noncomputable def keyed_put_api_Key_loops {α : Type} (slices_BinarySearchFunc_api_Key_api_Key_api_Key : slices_BinarySearchFunc_api_Key_api_Key_api_Key_T α) (slices_Concat_api_Key_api_Key : slices_Concat_api_Key_api_Key_T α) : List (LoopSpec α) := []

theorem keyed_put_api_Key_ev {α : Type} (slices_BinarySearchFunc_api_Key_api_Key_api_Key : slices_BinarySearchFunc_api_Key_api_Key_api_Key_T α) (slices_Concat_api_Key_api_Key : slices_Concat_api_Key_api_Key_T α) : EvOk (α := α) Go.Proofs.Try.prog (envOf (keyed_put_api_Key_C slices_BinarySearchFunc_api_Key_api_Key_api_Key slices_Concat_api_Key_api_Key) keyed_put_api_Key_q keyed_put_api_Key_inl 1000 keyed_put_api_Key_ann false (keyed_put_api_Key_loops slices_BinarySearchFunc_api_Key_api_Key_api_Key slices_Concat_api_Key_api_Key) (fun _ => none)) 6 (keyed_put_api_Key_sp (keyed_put_api_Key_g slices_BinarySearchFunc_api_Key_api_Key_api_Key slices_Concat_api_Key_api_Key)) := by intro ds k; kernel_rfl

theorem keyed_put_api_Key_ok {α : Type} : (keyed_put_api_Key_spec : FunSpec α).ok Go.Proofs.Try.prog :=
  FunSpec.ok_of (sp := keyed_put_api_Key_spec) (C := keyed_put_api_Key_C slices_BinarySearchFunc_api_Key_api_Key_api_Key slices_Concat_api_Key_api_Key) (q := keyed_put_api_Key_q) (inl := keyed_put_api_Key_inl) (N := 1000) (ann := keyed_put_api_Key_ann) (fr := false) (D := 6) (l := (keyed_put_api_Key_loops slices_BinarySearchFunc_api_Key_api_Key_api_Key slices_Concat_api_Key_api_Key)) (hk := (fun _ => none)) (okCons slices_BinarySearchFunc_api_Key_api_Key_api_Key_ok (okCons slices_Concat_api_Key_api_Key_ok okNil)) lokNil noHooks (keyed_put_api_Key_ev slices_BinarySearchFunc_api_Key_api_Key_api_Key slices_Concat_api_Key_api_Key)

end
end Go.Rv.Try

set_option linter.unusedVariables false
set_option maxRecDepth 100000
set_option maxHeartbeats 4000000
namespace Go.Rv.Try
open Go Go.Rv Go.RowKit
noncomputable section

-- (drayman/keyed.come).marked

abbrev keyed_come_marked_T (α : Type) : Type := ((Seq Z1) × Int × Int × Int × Int × Int × Int × Bool × Int × Bool × Unit) → Int → ((Seq Z1) → Option α) → Option α

noncomputable def keyed_come_marked_g {α : Type} (keyed_put_api_Key : keyed_put_api_Key_T α) (c1 : (Seq Z1) × Int × Int × Int × Int × Int × Int × Bool × Int × Bool × Unit) (mark2 : Int) (k : (Seq Z1) → Option α) : Option α :=
  (cond (mark2 == 2)
    (keyed_put_api_Key c1.1 (c1.2.1, c1.2.2.1, mark2, 1, c1.2.2.2.2.2.1, c1.2.2.2.2.2.2.1, ()) fun r3 =>
      (k r3))
    (cond (mark2 == 4)
      (keyed_put_api_Key c1.1 (c1.2.1, c1.2.2.1, mark2, c1.2.2.2.2.1, 1, c1.2.2.2.2.2.2.1, ()) fun r4 =>
        (k r4))
      (keyed_put_api_Key c1.1 (c1.2.1, c1.2.2.1, mark2, c1.2.2.2.2.1, c1.2.2.2.2.2.1, c1.2.2.2.2.2.2.1, ()) fun r5 =>
        (k r5))))

noncomputable def keyed_come_marked {α : Type} : keyed_come_marked_T α := keyed_come_marked_g keyed_put_api_Key

noncomputable def keyed_come_marked_sp {α : Type} (keyed_come_marked : keyed_come_marked_T α) : FunSpec α := ⟨71, [.agg [.sl (.int .i64 (.int .i64 (.int .i64 (.int .i64 (.int .i64 (.int .i64 (.nil))))))), .int .i64, .int .i64, .int .i64, .int .i64, .int .i64, .int .i64, .bool, .int .i64, .bool], .int .i64], [], fun ds k => keyed_come_marked (hdQ (.int .i64 (.int .i64 (.int .i64 (.int .i64 (.int .i64 (.int .i64 (.nil))))))) ds, hdI ds.tail, hdI ds.tail.tail, hdI ds.tail.tail.tail, hdI ds.tail.tail.tail.tail, hdI ds.tail.tail.tail.tail.tail, hdI ds.tail.tail.tail.tail.tail.tail, hdB ds.tail.tail.tail.tail.tail.tail.tail, hdI ds.tail.tail.tail.tail.tail.tail.tail.tail, hdB ds.tail.tail.tail.tail.tail.tail.tail.tail.tail, ()) (hdI ds.tail.tail.tail.tail.tail.tail.tail.tail.tail.tail) (fun q1 => k (enc dep (.own 0) []).1 (encBs [.row true (.int .i64 (.int .i64 (.int .i64 (.int .i64 (.int .i64 (.int .i64 (.nil)))))))] [.q (.int .i64 (.int .i64 (.int .i64 (.int .i64 (.int .i64 (.int .i64 (.nil))))))) q1]).1)⟩

noncomputable def keyed_come_marked_spec {α : Type} : FunSpec α := keyed_come_marked_sp keyed_come_marked

noncomputable def keyed_come_marked_C {α : Type} (keyed_put_api_Key : keyed_put_api_Key_T α) : List (FunSpec α) := [keyed_put_api_Key_sp keyed_put_api_Key]

noncomputable def keyed_come_marked_q : FuncId → Bool := fun f => false

noncomputable def keyed_come_marked_inl : FuncId → Bool := fun f => false

noncomputable def keyed_come_marked_ann : FuncId → AnnT := fun f p => ⟨[], [], [], [], 0, [], []⟩

noncomputable def keyed_come_marked_loops {α : Type} (keyed_put_api_Key : keyed_put_api_Key_T α) : List (LoopSpec α) := []

theorem keyed_come_marked_ev {α : Type} (keyed_put_api_Key : keyed_put_api_Key_T α) : EvOk (α := α) Go.Proofs.Try.prog (envOf (keyed_come_marked_C keyed_put_api_Key) keyed_come_marked_q keyed_come_marked_inl 1000 keyed_come_marked_ann false (keyed_come_marked_loops keyed_put_api_Key) (fun _ => none)) 6 (keyed_come_marked_sp (keyed_come_marked_g keyed_put_api_Key)) := by intro ds k; kernel_rfl

theorem keyed_come_marked_ok {α : Type} : (keyed_come_marked_spec : FunSpec α).ok Go.Proofs.Try.prog :=
  FunSpec.ok_of (sp := keyed_come_marked_spec) (C := keyed_come_marked_C keyed_put_api_Key) (q := keyed_come_marked_q) (inl := keyed_come_marked_inl) (N := 1000) (ann := keyed_come_marked_ann) (fr := false) (D := 6) (l := (keyed_come_marked_loops keyed_put_api_Key)) (hk := (fun _ => none)) (okCons keyed_put_api_Key_ok okNil) lokNil noHooks (keyed_come_marked_ev keyed_put_api_Key)

end
end Go.Rv.Try

set_option linter.unusedVariables false
set_option maxRecDepth 100000
set_option maxHeartbeats 4000000
namespace Go.Rv.Try
open Go Go.Rv Go.RowKit
noncomputable section

-- (drayman/keyed.come).back

abbrev keyed_come_back_T (α : Type) : Type := ((Seq Z1) × Int × Int × Int × Int × Int × Int × Bool × Int × Bool × Unit) → ((Seq Z1) → Int → Bool → Option α) → Option α

noncomputable def keyed_come_back_g {α : Type} (keyed_come_marked : keyed_come_marked_T α) (c1 : (Seq Z1) × Int × Int × Int × Int × Int × Int × Bool × Int × Bool × Unit) (k : (Seq Z1) → Int → Bool → Option α) : Option α :=
  (cond c1.2.2.2.2.2.2.2.1
    (cond c1.2.2.2.2.2.2.2.1
      (cond (!(c1.2.2.2.1 == 2))
        (k c1.1 1 false)
        (cond (c1.2.2.2.2.2.2.2.2.1 != 1)
          (k c1.1 2 false)
          (cond (c1.2.2.2.1 == 2)
            (keyed_come_marked c1 4 fun r2 =>
              (k r2 1 true))
            (keyed_come_marked c1 3 fun r3 =>
              (k r3 1 false)))))
      (cond (c1.2.2.2.2.2.2.2.2.1 != 1)
        (k c1.1 2 false)
        (cond (c1.2.2.2.1 == 2)
          (keyed_come_marked c1 4 fun r4 =>
            (k r4 1 true))
          (keyed_come_marked c1 3 fun r5 =>
            (k r5 1 false)))))
    (cond c1.2.2.2.2.2.2.2.1
      (k c1.1 1 false)
      (cond (c1.2.2.2.2.2.2.2.2.1 != 1)
        (k c1.1 2 false)
        (keyed_come_marked c1 3 fun r6 =>
          (k r6 1 false)))))

noncomputable def keyed_come_back {α : Type} : keyed_come_back_T α := keyed_come_back_g keyed_come_marked

noncomputable def keyed_come_back_sp {α : Type} (keyed_come_back : keyed_come_back_T α) : FunSpec α := ⟨57, [.agg [.sl (.int .i64 (.int .i64 (.int .i64 (.int .i64 (.int .i64 (.int .i64 (.nil))))))), .int .i64, .int .i64, .int .i64, .int .i64, .int .i64, .int .i64, .bool, .int .i64, .bool]], [], fun ds k => keyed_come_back (hdQ (.int .i64 (.int .i64 (.int .i64 (.int .i64 (.int .i64 (.int .i64 (.nil))))))) ds, hdI ds.tail, hdI ds.tail.tail, hdI ds.tail.tail.tail, hdI ds.tail.tail.tail.tail, hdI ds.tail.tail.tail.tail.tail, hdI ds.tail.tail.tail.tail.tail.tail, hdB ds.tail.tail.tail.tail.tail.tail.tail, hdI ds.tail.tail.tail.tail.tail.tail.tail.tail, hdB ds.tail.tail.tail.tail.tail.tail.tail.tail.tail, ()) (fun r1 r2 r3 => k (enc dep (.tup [.sl (.int .i64 (.int .i64 (.int .i64 (.int .i64 (.int .i64 (.int .i64 (.nil))))))), .int .i64, .bool]) [.q (.int .i64 (.int .i64 (.int .i64 (.int .i64 (.int .i64 (.int .i64 (.nil))))))) r1, .i r2, .b r3]).1 [])⟩

noncomputable def keyed_come_back_spec {α : Type} : FunSpec α := keyed_come_back_sp keyed_come_back

noncomputable def keyed_come_back_C {α : Type} (keyed_come_marked : keyed_come_marked_T α) : List (FunSpec α) := [keyed_come_marked_sp keyed_come_marked]

noncomputable def keyed_come_back_q : FuncId → Bool := fun f => false

noncomputable def keyed_come_back_inl : FuncId → Bool := fun f => false

noncomputable def keyed_come_back_ann : FuncId → AnnT := fun f p => ⟨[], [], [], [], 0, [], []⟩

noncomputable def keyed_come_back_loops {α : Type} (keyed_come_marked : keyed_come_marked_T α) : List (LoopSpec α) := []

theorem keyed_come_back_ev {α : Type} (keyed_come_marked : keyed_come_marked_T α) : EvOk (α := α) Go.Proofs.Try.prog (envOf (keyed_come_back_C keyed_come_marked) keyed_come_back_q keyed_come_back_inl 1000 keyed_come_back_ann true (keyed_come_back_loops keyed_come_marked) (fun _ => none)) 6 (keyed_come_back_sp (keyed_come_back_g keyed_come_marked)) := by intro ds k; kernel_rfl

theorem keyed_come_back_ok {α : Type} : (keyed_come_back_spec : FunSpec α).ok Go.Proofs.Try.prog :=
  FunSpec.ok_of (sp := keyed_come_back_spec) (C := keyed_come_back_C keyed_come_marked) (q := keyed_come_back_q) (inl := keyed_come_back_inl) (N := 1000) (ann := keyed_come_back_ann) (fr := true) (D := 6) (l := (keyed_come_back_loops keyed_come_marked)) (hk := (fun _ => none)) (okCons keyed_come_marked_ok okNil) lokNil noHooks (keyed_come_back_ev keyed_come_marked)

end
end Go.Rv.Try

set_option linter.unusedVariables false
set_option maxRecDepth 100000
set_option maxHeartbeats 4000000
namespace Go.Rv.Try
open Go Go.Rv Go.RowKit
noncomputable section

-- slices.Clone[[]drayman/api.Key,drayman/api.Key]

abbrev slices_Clone_api_Key_api_Key_T (α : Type) : Type := (Seq Z1) → ((Seq Z1) → Option α) → Option α

noncomputable def slices_Clone_api_Key_api_Key {α : Type} (s1 : Seq Z1) (k : (Seq Z1) → Option α) : Option α :=
  (cond s1.nl
    (k (⟨true, 0, (fun _ => (0, 0, 0, 0, 0, 0, ()))⟩ : Seq Z1))
    (cond (decide (((0 + s1.n)) * 48 ≤ 140737488355328))
      (k (⟨false, (0 + s1.n), (tApp 0 (tSel [] (0, 0, 0, 0, 0, 0, ())) s1.g)⟩ : Seq Z1))
      none))

noncomputable def slices_Clone_api_Key_api_Key_sp {α : Type} (slices_Clone_api_Key_api_Key : slices_Clone_api_Key_api_Key_T α) : FunSpec α := ⟨58, [.sl (.int .i64 (.int .i64 (.int .i64 (.int .i64 (.int .i64 (.int .i64 (.nil)))))))], [], fun ds k => slices_Clone_api_Key_api_Key (hdQ (.int .i64 (.int .i64 (.int .i64 (.int .i64 (.int .i64 (.int .i64 (.nil))))))) ds) (fun q1 => k (enc dep (.own 0) []).1 (encBs [.row true (.int .i64 (.int .i64 (.int .i64 (.int .i64 (.int .i64 (.int .i64 (.nil)))))))] [.q (.int .i64 (.int .i64 (.int .i64 (.int .i64 (.int .i64 (.int .i64 (.nil))))))) q1]).1)⟩

noncomputable def slices_Clone_api_Key_api_Key_spec {α : Type} : FunSpec α := slices_Clone_api_Key_api_Key_sp slices_Clone_api_Key_api_Key

noncomputable def slices_Clone_api_Key_api_Key_C {α : Type} : List (FunSpec α) := []

noncomputable def slices_Clone_api_Key_api_Key_q : FuncId → Bool := fun f => false

noncomputable def slices_Clone_api_Key_api_Key_inl : FuncId → Bool := fun f => false

noncomputable def slices_Clone_api_Key_api_Key_ann : FuncId → AnnT := fun f p => ⟨[], [], [], [], 0, [], []⟩

noncomputable def slices_Clone_api_Key_api_Key_loops {α : Type} : List (LoopSpec α) := []

theorem slices_Clone_api_Key_api_Key_ev {α : Type} : EvOk (α := α) Go.Proofs.Try.prog (envOf (slices_Clone_api_Key_api_Key_C) slices_Clone_api_Key_api_Key_q slices_Clone_api_Key_api_Key_inl 1000 slices_Clone_api_Key_api_Key_ann false (slices_Clone_api_Key_api_Key_loops) (fun _ => none)) 6 (slices_Clone_api_Key_api_Key_sp (slices_Clone_api_Key_api_Key)) := by intro ds k; kernel_rfl

theorem slices_Clone_api_Key_api_Key_ok {α : Type} : (slices_Clone_api_Key_api_Key_spec : FunSpec α).ok Go.Proofs.Try.prog :=
  FunSpec.ok_of (sp := slices_Clone_api_Key_api_Key_spec) (C := slices_Clone_api_Key_api_Key_C) (q := slices_Clone_api_Key_api_Key_q) (inl := slices_Clone_api_Key_api_Key_inl) (N := 1000) (ann := slices_Clone_api_Key_api_Key_ann) (fr := false) (D := 6) (l := (slices_Clone_api_Key_api_Key_loops)) (hk := (fun _ => none)) okNil lokNil noHooks (slices_Clone_api_Key_api_Key_ev)

end
end Go.Rv.Try

set_option linter.unusedVariables false
set_option maxRecDepth 100000
set_option maxHeartbeats 4000000
namespace Go.Rv.Try
open Go Go.Rv Go.RowKit
noncomputable section

-- (drayman/keyed.come).there

abbrev keyed_come_there_T (α : Type) : Type := ((Seq Z1) × Int × Int × Int × Int × Int × Int × Bool × Int × Bool × Unit) → ((Seq Z1) → Int → Bool → Option α) → Option α

noncomputable def keyed_come_there_g {α : Type} (keyed_come_marked : keyed_come_marked_T α) (c1 : (Seq Z1) × Int × Int × Int × Int × Int × Int × Bool × Int × Bool × Unit) (k : (Seq Z1) → Int → Bool → Option α) : Option α :=
  (cond c1.2.2.2.2.2.2.2.1
    (cond (c1.2.2.2.1 == 2)
      (k c1.1 1 false)
      (cond c1.2.2.2.2.2.2.2.1
        (k c1.1 3 false)
        (cond (c1.2.2.2.2.2.2.2.2.1 == 1)
          (keyed_come_marked c1 2 fun r2 =>
            (k r2 1 true))
          (cond (c1.2.2.2.2.2.2.2.2.1 == 3)
            (cond (!c1.2.2.2.2.2.2.2.2.2.1)
              (keyed_come_marked c1 5 fun r3 =>
                (k r3 3 false))
              (k c1.1 2 false))
            (k c1.1 2 false)))))
    (cond c1.2.2.2.2.2.2.2.1
      (k c1.1 3 false)
      (cond (c1.2.2.2.2.2.2.2.2.1 == 1)
        (keyed_come_marked c1 2 fun r4 =>
          (k r4 1 true))
        (cond (c1.2.2.2.2.2.2.2.2.1 == 3)
          (cond (!c1.2.2.2.2.2.2.2.2.2.1)
            (keyed_come_marked c1 5 fun r5 =>
              (k r5 3 false))
            (k c1.1 2 false))
          (k c1.1 2 false)))))

noncomputable def keyed_come_there {α : Type} : keyed_come_there_T α := keyed_come_there_g keyed_come_marked

noncomputable def keyed_come_there_sp {α : Type} (keyed_come_there : keyed_come_there_T α) : FunSpec α := ⟨56, [.agg [.sl (.int .i64 (.int .i64 (.int .i64 (.int .i64 (.int .i64 (.int .i64 (.nil))))))), .int .i64, .int .i64, .int .i64, .int .i64, .int .i64, .int .i64, .bool, .int .i64, .bool]], [], fun ds k => keyed_come_there (hdQ (.int .i64 (.int .i64 (.int .i64 (.int .i64 (.int .i64 (.int .i64 (.nil))))))) ds, hdI ds.tail, hdI ds.tail.tail, hdI ds.tail.tail.tail, hdI ds.tail.tail.tail.tail, hdI ds.tail.tail.tail.tail.tail, hdI ds.tail.tail.tail.tail.tail.tail, hdB ds.tail.tail.tail.tail.tail.tail.tail, hdI ds.tail.tail.tail.tail.tail.tail.tail.tail, hdB ds.tail.tail.tail.tail.tail.tail.tail.tail.tail, ()) (fun r1 r2 r3 => k (enc dep (.tup [.sl (.int .i64 (.int .i64 (.int .i64 (.int .i64 (.int .i64 (.int .i64 (.nil))))))), .int .i64, .bool]) [.q (.int .i64 (.int .i64 (.int .i64 (.int .i64 (.int .i64 (.int .i64 (.nil))))))) r1, .i r2, .b r3]).1 [])⟩

noncomputable def keyed_come_there_spec {α : Type} : FunSpec α := keyed_come_there_sp keyed_come_there

noncomputable def keyed_come_there_C {α : Type} (keyed_come_marked : keyed_come_marked_T α) : List (FunSpec α) := [keyed_come_marked_sp keyed_come_marked]

noncomputable def keyed_come_there_q : FuncId → Bool := fun f => false

noncomputable def keyed_come_there_inl : FuncId → Bool := fun f => false

noncomputable def keyed_come_there_ann : FuncId → AnnT := fun f p => ⟨[], [], [], [], 0, [], []⟩

noncomputable def keyed_come_there_loops {α : Type} (keyed_come_marked : keyed_come_marked_T α) : List (LoopSpec α) := []

theorem keyed_come_there_ev {α : Type} (keyed_come_marked : keyed_come_marked_T α) : EvOk (α := α) Go.Proofs.Try.prog (envOf (keyed_come_there_C keyed_come_marked) keyed_come_there_q keyed_come_there_inl 1000 keyed_come_there_ann true (keyed_come_there_loops keyed_come_marked) (fun _ => none)) 6 (keyed_come_there_sp (keyed_come_there_g keyed_come_marked)) := by intro ds k; kernel_rfl

theorem keyed_come_there_ok {α : Type} : (keyed_come_there_spec : FunSpec α).ok Go.Proofs.Try.prog :=
  FunSpec.ok_of (sp := keyed_come_there_spec) (C := keyed_come_there_C keyed_come_marked) (q := keyed_come_there_q) (inl := keyed_come_there_inl) (N := 1000) (ann := keyed_come_there_ann) (fr := true) (D := 6) (l := (keyed_come_there_loops keyed_come_marked)) (hk := (fun _ => none)) (okCons keyed_come_marked_ok okNil) lokNil noHooks (keyed_come_there_ev keyed_come_marked)

end
end Go.Rv.Try

set_option linter.unusedVariables false
set_option maxRecDepth 100000
set_option maxHeartbeats 4000000
namespace Go.Rv.Try
open Go Go.Rv Go.RowKit
noncomputable section

-- drayman/keyed.Come

abbrev keyed_Come_T (α : Type) : Type := (Seq Z1) → Z0 → Int → (Int → Bool → Int → (Seq Z1) → Option α) → Option α

noncomputable def keyed_Come_g {α : Type} (keyed_Fit : keyed_Fit_T α) (outbox_Fit : outbox_Fit_T α) (keyed_Find : keyed_Find_T α) (keyed_come_back : keyed_come_back_T α) (slices_Clone_api_Key_api_Key : slices_Clone_api_Key_api_Key_T α) (keyed_come_there : keyed_come_there_T α) (x1 : Seq Z1) (x2 : Int × Int × Int × Bool × Int × Int × Bool × Unit) (x3 : Int) (k : Int → Bool → Int → (Seq Z1) → Option α) : Option α :=
  (keyed_Fit x1 fun r4 =>
    (cond (!r4)
      (k 0 false 12 (⟨true, 0, (fun _ => (0, 0, 0, 0, 0, 0, ()))⟩ : Seq Z1))
      (outbox_Fit (⟨false, 1, (fun _ => x2)⟩ : Seq Z0) fun r5 =>
        (cond (!(!r5))
          (cond (!(decide (x3 < 1)))
            (cond (decide (x3 > 3))
              (k 0 false 1 (⟨true, 0, (fun _ => (0, 0, 0, 0, 0, 0, ()))⟩ : Seq Z1))
              (keyed_Find x1 x2.2.1 x2.2.2.1 fun r6 r7 =>
                (cond (!r7)
                  (cond x2.2.2.2.1
                    (keyed_come_back (x1, x2.2.1, x2.2.2.1, 0, 0, 0, x2.2.2.2.2.2.1, r7, x3, x2.2.2.2.2.2.2.1, ()) fun r8 r9 r10 =>
                      (slices_Clone_api_Key_api_Key r8 fun r11 =>
                        (k r9 r10 0 r11)))
                    (keyed_come_there (x1, x2.2.1, x2.2.2.1, 0, 0, 0, x2.2.2.2.2.2.1, r7, x3, x2.2.2.2.2.2.2.1, ()) fun r12 r13 r14 =>
                      (slices_Clone_api_Key_api_Key r12 fun r15 =>
                        (k r13 r14 0 r15))))
                  (cond x2.2.2.2.1
                    (keyed_come_back (x1, r6.1, r6.2.1, r6.2.2.1, r6.2.2.2.1, r6.2.2.2.2.1, r6.2.2.2.2.2.1, r7, x3, x2.2.2.2.2.2.2.1, ()) fun r16 r17 r18 =>
                      (slices_Clone_api_Key_api_Key r16 fun r19 =>
                        (k r17 r18 0 r19)))
                    (keyed_come_there (x1, r6.1, r6.2.1, r6.2.2.1, r6.2.2.2.1, r6.2.2.2.2.1, r6.2.2.2.2.2.1, r7, x3, x2.2.2.2.2.2.2.1, ()) fun r20 r21 r22 =>
                      (slices_Clone_api_Key_api_Key r20 fun r23 =>
                        (k r21 r22 0 r23)))))))
            (k 0 false 1 (⟨true, 0, (fun _ => (0, 0, 0, 0, 0, 0, ()))⟩ : Seq Z1)))
          (k 0 false 1 (⟨true, 0, (fun _ => (0, 0, 0, 0, 0, 0, ()))⟩ : Seq Z1))))))

noncomputable def keyed_Come {α : Type} : keyed_Come_T α := keyed_Come_g keyed_Fit outbox_Fit keyed_Find keyed_come_back slices_Clone_api_Key_api_Key keyed_come_there

noncomputable def keyed_Come_sp {α : Type} (keyed_Come : keyed_Come_T α) : FunSpec α := ⟨34, [.sl (.int .i64 (.int .i64 (.int .i64 (.int .i64 (.int .i64 (.int .i64 (.nil))))))), .agg [.int .i64, .int .i64, .int .i64, .bool, .int .i64, .int .i64, .bool], .int .i64], [], fun ds k => keyed_Come (hdQ (.int .i64 (.int .i64 (.int .i64 (.int .i64 (.int .i64 (.int .i64 (.nil))))))) ds) (hdI ds.tail, hdI ds.tail.tail, hdI ds.tail.tail.tail, hdB ds.tail.tail.tail.tail, hdI ds.tail.tail.tail.tail.tail, hdI ds.tail.tail.tail.tail.tail.tail, hdB ds.tail.tail.tail.tail.tail.tail.tail, ()) (hdI ds.tail.tail.tail.tail.tail.tail.tail.tail) (fun r1 r2 r3 q4 => k (enc dep (.tup [.own 0, .int .i64, .bool, .int .i64]) [.i r1, .b r2, .i r3]).1 (encBs [.row true (.int .i64 (.int .i64 (.int .i64 (.int .i64 (.int .i64 (.int .i64 (.nil)))))))] [.q (.int .i64 (.int .i64 (.int .i64 (.int .i64 (.int .i64 (.int .i64 (.nil))))))) q4]).1)⟩

noncomputable def keyed_Come_spec {α : Type} : FunSpec α := keyed_Come_sp keyed_Come

noncomputable def keyed_Come_C {α : Type} (keyed_Fit : keyed_Fit_T α) (outbox_Fit : outbox_Fit_T α) (keyed_Find : keyed_Find_T α) (keyed_come_back : keyed_come_back_T α) (slices_Clone_api_Key_api_Key : slices_Clone_api_Key_api_Key_T α) (keyed_come_there : keyed_come_there_T α) : List (FunSpec α) := [keyed_Fit_sp keyed_Fit, outbox_Fit_sp outbox_Fit, keyed_Find_sp keyed_Find, keyed_come_back_sp keyed_come_back, slices_Clone_api_Key_api_Key_sp slices_Clone_api_Key_api_Key, keyed_come_there_sp keyed_come_there]

noncomputable def keyed_Come_q : FuncId → Bool := fun f => Nat.beq f 35 || Nat.beq f 38 || Nat.beq f 55

noncomputable def keyed_Come_inl : FuncId → Bool := fun f => false

noncomputable def keyed_Come_ann : FuncId → AnnT := fun f p => ⟨[], [], [], [], 0, [], []⟩

noncomputable def keyed_Come_loops {α : Type} (keyed_Fit : keyed_Fit_T α) (outbox_Fit : outbox_Fit_T α) (keyed_Find : keyed_Find_T α) (keyed_come_back : keyed_come_back_T α) (slices_Clone_api_Key_api_Key : slices_Clone_api_Key_api_Key_T α) (keyed_come_there : keyed_come_there_T α) : List (LoopSpec α) := []

theorem keyed_Come_ev {α : Type} (keyed_Fit : keyed_Fit_T α) (outbox_Fit : outbox_Fit_T α) (keyed_Find : keyed_Find_T α) (keyed_come_back : keyed_come_back_T α) (slices_Clone_api_Key_api_Key : slices_Clone_api_Key_api_Key_T α) (keyed_come_there : keyed_come_there_T α) : EvOk (α := α) Go.Proofs.Try.prog (envOf (keyed_Come_C keyed_Fit outbox_Fit keyed_Find keyed_come_back slices_Clone_api_Key_api_Key keyed_come_there) keyed_Come_q keyed_Come_inl 1000 keyed_Come_ann false (keyed_Come_loops keyed_Fit outbox_Fit keyed_Find keyed_come_back slices_Clone_api_Key_api_Key keyed_come_there) (fun _ => none)) 6 (keyed_Come_sp (keyed_Come_g keyed_Fit outbox_Fit keyed_Find keyed_come_back slices_Clone_api_Key_api_Key keyed_come_there)) := by intro ds k; kernel_rfl

theorem keyed_Come_ok {α : Type} : (keyed_Come_spec : FunSpec α).ok Go.Proofs.Try.prog :=
  FunSpec.ok_of (sp := keyed_Come_spec) (C := keyed_Come_C keyed_Fit outbox_Fit keyed_Find keyed_come_back slices_Clone_api_Key_api_Key keyed_come_there) (q := keyed_Come_q) (inl := keyed_Come_inl) (N := 1000) (ann := keyed_Come_ann) (fr := false) (D := 6) (l := (keyed_Come_loops keyed_Fit outbox_Fit keyed_Find keyed_come_back slices_Clone_api_Key_api_Key keyed_come_there)) (hk := (fun _ => none)) (okCons keyed_Fit_ok (okCons outbox_Fit_ok (okCons keyed_Find_ok (okCons keyed_come_back_ok (okCons slices_Clone_api_Key_api_Key_ok (okCons keyed_come_there_ok okNil)))))) lokNil noHooks (keyed_Come_ev keyed_Fit outbox_Fit keyed_Find keyed_come_back slices_Clone_api_Key_api_Key keyed_come_there)

end
end Go.Rv.Try

set_option linter.unusedVariables false
set_option maxRecDepth 100000
set_option maxHeartbeats 4000000
namespace Go.Rv.Try
open Go Go.Rv Go.RowKit
noncomputable section

-- slices.Clone[[]drayman/carry.Parcel,drayman/carry.Parcel]

abbrev slices_Clone_carry_Parcel_carry_Parcel_T (α : Type) : Type := (Seq (Int × Int × Int × Bool × Unit)) → ((Seq (Int × Int × Int × Bool × Unit)) → Option α) → Option α

noncomputable def slices_Clone_carry_Parcel_carry_Parcel {α : Type} (s1 : Seq (Int × Int × Int × Bool × Unit)) (k : (Seq (Int × Int × Int × Bool × Unit)) → Option α) : Option α :=
  (cond s1.nl
    (k (⟨true, 0, (fun _ => (0, 0, 0, false, ()))⟩ : Seq (Int × Int × Int × Bool × Unit)))
    (cond (decide (((0 + s1.n)) * 32 ≤ 140737488355328))
      (k (⟨false, (0 + s1.n), (tApp 0 (tSel [] (0, 0, 0, false, ())) s1.g)⟩ : Seq (Int × Int × Int × Bool × Unit)))
      none))

noncomputable def slices_Clone_carry_Parcel_carry_Parcel_sp {α : Type} (slices_Clone_carry_Parcel_carry_Parcel : slices_Clone_carry_Parcel_carry_Parcel_T α) : FunSpec α := ⟨49, [.sl (.int .i64 (.int .i64 (.int .i64 (.bool (.nil)))))], [], fun ds k => slices_Clone_carry_Parcel_carry_Parcel (hdQ (.int .i64 (.int .i64 (.int .i64 (.bool (.nil))))) ds) (fun q1 => k (enc dep (.own 0) []).1 (encBs [.row true (.int .i64 (.int .i64 (.int .i64 (.bool (.nil)))))] [.q (.int .i64 (.int .i64 (.int .i64 (.bool (.nil))))) q1]).1)⟩

noncomputable def slices_Clone_carry_Parcel_carry_Parcel_spec {α : Type} : FunSpec α := slices_Clone_carry_Parcel_carry_Parcel_sp slices_Clone_carry_Parcel_carry_Parcel

noncomputable def slices_Clone_carry_Parcel_carry_Parcel_C {α : Type} : List (FunSpec α) := []

noncomputable def slices_Clone_carry_Parcel_carry_Parcel_q : FuncId → Bool := fun f => false

noncomputable def slices_Clone_carry_Parcel_carry_Parcel_inl : FuncId → Bool := fun f => false

noncomputable def slices_Clone_carry_Parcel_carry_Parcel_ann : FuncId → AnnT := fun f p => ⟨[], [], [], [], 0, [], []⟩

noncomputable def slices_Clone_carry_Parcel_carry_Parcel_loops {α : Type} : List (LoopSpec α) := []

theorem slices_Clone_carry_Parcel_carry_Parcel_ev {α : Type} : EvOk (α := α) Go.Proofs.Try.prog (envOf (slices_Clone_carry_Parcel_carry_Parcel_C) slices_Clone_carry_Parcel_carry_Parcel_q slices_Clone_carry_Parcel_carry_Parcel_inl 1000 slices_Clone_carry_Parcel_carry_Parcel_ann false (slices_Clone_carry_Parcel_carry_Parcel_loops) (fun _ => none)) 6 (slices_Clone_carry_Parcel_carry_Parcel_sp (slices_Clone_carry_Parcel_carry_Parcel)) := by intro ds k; kernel_rfl

theorem slices_Clone_carry_Parcel_carry_Parcel_ok {α : Type} : (slices_Clone_carry_Parcel_carry_Parcel_spec : FunSpec α).ok Go.Proofs.Try.prog :=
  FunSpec.ok_of (sp := slices_Clone_carry_Parcel_carry_Parcel_spec) (C := slices_Clone_carry_Parcel_carry_Parcel_C) (q := slices_Clone_carry_Parcel_carry_Parcel_q) (inl := slices_Clone_carry_Parcel_carry_Parcel_inl) (N := 1000) (ann := slices_Clone_carry_Parcel_carry_Parcel_ann) (fr := false) (D := 6) (l := (slices_Clone_carry_Parcel_carry_Parcel_loops)) (hk := (fun _ => none)) okNil lokNil noHooks (slices_Clone_carry_Parcel_carry_Parcel_ev)

end
end Go.Rv.Try

set_option linter.unusedVariables false
set_option maxRecDepth 100000
set_option maxHeartbeats 4000000
namespace Go.Rv.Try
open Go Go.Rv Go.RowKit
noncomputable section

-- slices.Concat[[]drayman/carry.Parcel,drayman/carry.Parcel]

abbrev slices_Concat_carry_Parcel_carry_Parcel_T (α : Type) : Type := (Seq ((Seq (Int × Int × Int × Bool × Unit)) × Unit)) → ((Seq (Int × Int × Int × Bool × Unit)) → Option α) → Option α

noncomputable def slices_Concat_carry_Parcel_carry_Parcel_l0_step {α : Type} (k0 : (Seq ((Seq (Int × Int × Int × Bool × Unit)) × Unit)) → (Int) → (Seq (Int × Int × Int × Bool × Unit)) → Option α) (rec : (Seq ((Seq (Int × Int × Int × Bool × Unit)) × Unit)) → (Int) → (Seq ((Seq (Int × Int × Int × Bool × Unit)) × Unit)) → (Int) → (Int) → (Seq (Int × Int × Int × Bool × Unit)) → Option α) (slices2 : Seq ((Seq (Int × Int × Int × Bool × Unit)) × Unit)) (size3 : Int) (x4 : Seq ((Seq (Int × Int × Int × Bool × Unit)) × Unit)) (x5 : Int) (x6 : Int) (q7 : Seq (Int × Int × Int × Bool × Unit)) : Option α :=
  (cond (decide (x6 < x5))
    (cond ((decide ((0 : Int) ≤ x6)) && (decide (x6 < (x4.n : Int))))
      (cond (decide ((IntKind.i64.wrap (size3 + (((x4.g x6.toNat).1.n : Nat) : Int))) < 0))
        none
        (rec slices2 (IntKind.i64.wrap (size3 + (((x4.g x6.toNat).1.n : Nat) : Int))) x4 x5 (IntKind.i64.wrap (x6 + 1)) q7))
      none)
    (k0 slices2 size3 q7))

noncomputable def slices_Concat_carry_Parcel_carry_Parcel_l0_run {α : Type} (k0 : (Seq ((Seq (Int × Int × Int × Bool × Unit)) × Unit)) → (Int) → (Seq (Int × Int × Int × Bool × Unit)) → Option α) : Nat → (Seq ((Seq (Int × Int × Int × Bool × Unit)) × Unit)) → (Int) → (Seq ((Seq (Int × Int × Int × Bool × Unit)) × Unit)) → (Int) → (Int) → (Seq (Int × Int × Int × Bool × Unit)) → Option α
  | 0, _, _, _, _, _, _ => none
  | n + 1, slices2, size3, x4, x5, x6, q7 => slices_Concat_carry_Parcel_carry_Parcel_l0_step k0 (fun slices2 size3 x4 x5 x6 q7 => slices_Concat_carry_Parcel_carry_Parcel_l0_run k0 n slices2 size3 x4 x5 x6 q7) slices2 size3 x4 x5 x6 q7

noncomputable def slices_Concat_carry_Parcel_carry_Parcel_l1_step {α : Type} (k2 : (Seq (Int × Int × Int × Bool × Unit)) → (Seq (Int × Int × Int × Bool × Unit)) → (Seq (Int × Int × Int × Bool × Unit)) → Option α) (rec : (Seq ((Seq (Int × Int × Int × Bool × Unit)) × Unit)) → (Int) → (Int) → (Seq (Int × Int × Int × Bool × Unit)) → (Seq (Int × Int × Int × Bool × Unit)) → (Seq (Int × Int × Int × Bool × Unit)) → Option α) (x11 : Seq ((Seq (Int × Int × Int × Bool × Unit)) × Unit)) (x12 : Int) (x13 : Int) (q14 : Seq (Int × Int × Int × Bool × Unit)) (q15 : Seq (Int × Int × Int × Bool × Unit)) (q16 : Seq (Int × Int × Int × Bool × Unit)) : Option α :=
  (cond (decide (x13 < x12))
    (cond ((decide ((0 : Int) ≤ x13)) && (decide (x13 < (x11.n : Int))))
      (cond (decide (((q16.n + (x11.g x13.toNat).1.n)) * 32 ≤ 140737488355328))
        (rec x11 x12 (IntKind.i64.wrap (x13 + 1)) q14 q15 (⟨(q16.nl && (Nat.beq (x11.g x13.toNat).1.n 0)), (q16.n + (x11.g x13.toNat).1.n), (tApp q16.n q16.g (x11.g x13.toNat).1.g)⟩ : Seq (Int × Int × Int × Bool × Unit)))
        none)
      none)
    (k2 q14 q15 q16))

noncomputable def slices_Concat_carry_Parcel_carry_Parcel_l1_run {α : Type} (k2 : (Seq (Int × Int × Int × Bool × Unit)) → (Seq (Int × Int × Int × Bool × Unit)) → (Seq (Int × Int × Int × Bool × Unit)) → Option α) : Nat → (Seq ((Seq (Int × Int × Int × Bool × Unit)) × Unit)) → (Int) → (Int) → (Seq (Int × Int × Int × Bool × Unit)) → (Seq (Int × Int × Int × Bool × Unit)) → (Seq (Int × Int × Int × Bool × Unit)) → Option α
  | 0, _, _, _, _, _, _ => none
  | n + 1, x11, x12, x13, q14, q15, q16 => slices_Concat_carry_Parcel_carry_Parcel_l1_step k2 (fun x11 x12 x13 q14 q15 q16 => slices_Concat_carry_Parcel_carry_Parcel_l1_run k2 n x11 x12 x13 q14 q15 q16) x11 x12 x13 q14 q15 q16

noncomputable def slices_Concat_carry_Parcel_carry_Parcel {α : Type} (slices1 : Seq ((Seq (Int × Int × Int × Bool × Unit)) × Unit)) (k : (Seq (Int × Int × Int × Bool × Unit)) → Option α) : Option α :=
  (slices_Concat_carry_Parcel_carry_Parcel_l0_run
    (fun x8 x9 q10 =>
      (cond (decide (x9 < 0))
        none
        (cond (decide ((IntKind.i64.wrap (x9 - 0)) > 0))
          (cond (((decide ((0 : Int) ≤ (IntKind.i64.wrap (x9 - 0)))) && (decide ((IntKind.i64.wrap (x9 - 0)) * 32 ≤ 140737488355328))) && (decide (((0 + (IntKind.i64.wrap (x9 - 0)).toNat)) * 32 ≤ 140737488355328)))
            (cond (decide ((0 : Int) ≤ (((0 + (IntKind.i64.wrap (x9 - 0)).toNat) : Nat) : Int)))
              (slices_Concat_carry_Parcel_carry_Parcel_l1_run
                (fun q17 q18 q19 =>
                  (k q19))
                1000 x8 (x8.n : Int) 0 q10 (⟨true, 0, (fun _ => (0, 0, 0, false, ()))⟩ : Seq (Int × Int × Int × Bool × Unit)) (⟨(Nat.beq (IntKind.i64.wrap (x9 - 0)).toNat 0), 0, (tApp 0 (fun _ => (0, 0, 0, false, ())) (fun _ => (0, 0, 0, false, ())))⟩ : Seq (Int × Int × Int × Bool × Unit)))
              none)
            none)
          (slices_Concat_carry_Parcel_carry_Parcel_l1_run
            (fun q20 q21 q22 =>
              (k q22))
            1000 x8 (x8.n : Int) 0 q10 (⟨true, 0, (fun _ => (0, 0, 0, false, ()))⟩ : Seq (Int × Int × Int × Bool × Unit)) (⟨true, 0, (fun _ => (0, 0, 0, false, ()))⟩ : Seq (Int × Int × Int × Bool × Unit))))))
    1000 slices1 0 slices1 (slices1.n : Int) 0 (⟨true, 0, (fun _ => (0, 0, 0, false, ()))⟩ : Seq (Int × Int × Int × Bool × Unit)))

noncomputable def slices_Concat_carry_Parcel_carry_Parcel_sp {α : Type} (slices_Concat_carry_Parcel_carry_Parcel : slices_Concat_carry_Parcel_carry_Parcel_T α) : FunSpec α := ⟨69, [.sl (.sl (.int .i64 (.int .i64 (.int .i64 (.bool (.nil))))) (.nil))], [], fun ds k => slices_Concat_carry_Parcel_carry_Parcel (hdQ (.sl (.int .i64 (.int .i64 (.int .i64 (.bool (.nil))))) (.nil)) ds) (fun q1 => k (enc dep (.own 0) []).1 (encBs [.row true (.int .i64 (.int .i64 (.int .i64 (.bool (.nil)))))] [.q (.int .i64 (.int .i64 (.int .i64 (.bool (.nil))))) q1]).1)⟩

noncomputable def slices_Concat_carry_Parcel_carry_Parcel_spec {α : Type} : FunSpec α := slices_Concat_carry_Parcel_carry_Parcel_sp slices_Concat_carry_Parcel_carry_Parcel

noncomputable def slices_Concat_carry_Parcel_carry_Parcel_C {α : Type} : List (FunSpec α) := []

noncomputable def slices_Concat_carry_Parcel_carry_Parcel_q : FuncId → Bool := fun f => false

noncomputable def slices_Concat_carry_Parcel_carry_Parcel_inl : FuncId → Bool := fun f => Nat.beq f 77

noncomputable def slices_Concat_carry_Parcel_carry_Parcel_ann : FuncId → AnnT := fun f p => if f = 69 then (if p = [true, false, true, true, true, true] then ⟨[6, 25, 26, 27], [0, 1, 2], [6], [2], 0, [6], []⟩ else if p = [true, false, true, true] then ⟨[0, 3, 9, 10, 11], [0], [0, 3], [2], 0, [], []⟩ else ⟨[], [], [], [], 0, [], []⟩) else ⟨[], [], [], [], 0, [], []⟩

noncomputable def slices_Concat_carry_Parcel_carry_Parcel_l0_t : List Sh := [.sl (.sl (.int .i64 (.int .i64 (.int .i64 (.bool (.nil))))) (.nil)), .dead, .dead, .int .i64, .dead, .dead, .dead, .dead, .dead, .sl (.sl (.int .i64 (.int .i64 (.int .i64 (.bool (.nil))))) (.nil)), .int .i64, .int .i64, .dead, .dead, .dead, .dead, .dead, .dead, .dead, .dead, .dead, .dead, .dead, .dead, .dead, .dead, .dead, .dead, .dead, .dead, .dead, .dead, .dead, .dead, .dead, .dead]
noncomputable def slices_Concat_carry_Parcel_carry_Parcel_l0_s : List (List Sh) := []
noncomputable def slices_Concat_carry_Parcel_carry_Parcel_l0_h : List BSh := [.row true (.int .i64 (.int .i64 (.int .i64 (.bool (.nil)))))]

noncomputable def slices_Concat_carry_Parcel_carry_Parcel_l0_spec {α : Type} : LoopSpec α := ⟨6, 69, [true, false, true, true], slices_Concat_carry_Parcel_carry_Parcel_l0_t, slices_Concat_carry_Parcel_carry_Parcel_l0_s, slices_Concat_carry_Parcel_carry_Parcel_l0_h, fun ds k => slices_Concat_carry_Parcel_carry_Parcel_l0_run (fun y1 y2 y3 => k (.exit 0) (encSt [.sl (.sl (.int .i64 (.int .i64 (.int .i64 (.bool (.nil))))) (.nil)), .dead, .dead, .int .i64, .dead, .dead, .dead, .dead, .dead, .dead, .dead, .dead, .dead, .dead, .dead, .dead, .dead, .dead, .dead, .dead, .dead, .dead, .dead, .dead, .dead, .dead, .dead, .dead, .dead, .dead, .dead, .dead, .dead, .dead, .dead, .dead] [] [.row true (.int .i64 (.int .i64 (.int .i64 (.bool (.nil)))))] [.q (.sl (.int .i64 (.int .i64 (.int .i64 (.bool (.nil))))) (.nil)) y1, .i y2, .q (.int .i64 (.int .i64 (.int .i64 (.bool (.nil))))) y3])) 1000 (hdQ (.sl (.int .i64 (.int .i64 (.int .i64 (.bool (.nil))))) (.nil)) ds) (hdI ds.tail) (hdQ (.sl (.int .i64 (.int .i64 (.int .i64 (.bool (.nil))))) (.nil)) ds.tail.tail) (hdI ds.tail.tail.tail) (hdI ds.tail.tail.tail.tail) (hdQ (.int .i64 (.int .i64 (.int .i64 (.bool (.nil))))) ds.tail.tail.tail.tail.tail)⟩

noncomputable def slices_Concat_carry_Parcel_carry_Parcel_l1_t : List Sh := [.dead, .dead, .dead, .dead, .dead, .dead, .own 2, .dead, .dead, .dead, .dead, .dead, .dead, .dead, .dead, .dead, .dead, .dead, .dead, .dead, .dead, .dead, .dead, .dead, .dead, .sl (.sl (.int .i64 (.int .i64 (.int .i64 (.bool (.nil))))) (.nil)), .int .i64, .int .i64, .dead, .dead, .dead, .dead, .dead, .dead, .dead, .dead]
noncomputable def slices_Concat_carry_Parcel_carry_Parcel_l1_s : List (List Sh) := []
noncomputable def slices_Concat_carry_Parcel_carry_Parcel_l1_h : List BSh := [.row true (.int .i64 (.int .i64 (.int .i64 (.bool (.nil))))), .row true (.int .i64 (.int .i64 (.int .i64 (.bool (.nil))))), .row true (.int .i64 (.int .i64 (.int .i64 (.bool (.nil)))))]

noncomputable def slices_Concat_carry_Parcel_carry_Parcel_l1_spec {α : Type} : LoopSpec α := ⟨6, 69, [true, false, true, true, true, true], slices_Concat_carry_Parcel_carry_Parcel_l1_t, slices_Concat_carry_Parcel_carry_Parcel_l1_s, slices_Concat_carry_Parcel_carry_Parcel_l1_h, fun ds k => slices_Concat_carry_Parcel_carry_Parcel_l1_run (fun y1 y2 y3 => k (.exit 2) (encSt [.dead, .dead, .dead, .dead, .dead, .dead, .own 2, .dead, .dead, .dead, .dead, .dead, .dead, .dead, .dead, .dead, .dead, .dead, .dead, .dead, .dead, .dead, .dead, .dead, .dead, .dead, .dead, .dead, .dead, .dead, .dead, .dead, .dead, .dead, .dead, .dead] [] [.row true (.int .i64 (.int .i64 (.int .i64 (.bool (.nil))))), .row true (.int .i64 (.int .i64 (.int .i64 (.bool (.nil))))), .row true (.int .i64 (.int .i64 (.int .i64 (.bool (.nil)))))] [.q (.int .i64 (.int .i64 (.int .i64 (.bool (.nil))))) y1, .q (.int .i64 (.int .i64 (.int .i64 (.bool (.nil))))) y2, .q (.int .i64 (.int .i64 (.int .i64 (.bool (.nil))))) y3])) 1000 (hdQ (.sl (.int .i64 (.int .i64 (.int .i64 (.bool (.nil))))) (.nil)) ds) (hdI ds.tail) (hdI ds.tail.tail) (hdQ (.int .i64 (.int .i64 (.int .i64 (.bool (.nil))))) ds.tail.tail.tail) (hdQ (.int .i64 (.int .i64 (.int .i64 (.bool (.nil))))) ds.tail.tail.tail.tail) (hdQ (.int .i64 (.int .i64 (.int .i64 (.bool (.nil))))) ds.tail.tail.tail.tail.tail)⟩

noncomputable def slices_Concat_carry_Parcel_carry_Parcel_loops {α : Type} : List (LoopSpec α) := [slices_Concat_carry_Parcel_carry_Parcel_l0_spec, slices_Concat_carry_Parcel_carry_Parcel_l1_spec]

noncomputable def slices_Concat_carry_Parcel_carry_Parcel_l0_ev {α : Type} (n : Nat) (st : St) (k : X → St → Option α) : Option α := loopN (evCode Go.Proofs.Try.prog (callD Go.Proofs.Try.prog (envOf (slices_Concat_carry_Parcel_carry_Parcel_C) slices_Concat_carry_Parcel_carry_Parcel_q slices_Concat_carry_Parcel_carry_Parcel_inl 1000 slices_Concat_carry_Parcel_carry_Parcel_ann false (slices_Concat_carry_Parcel_carry_Parcel_loops) (fun _ => none)) 6) (((envOf (slices_Concat_carry_Parcel_carry_Parcel_C) slices_Concat_carry_Parcel_carry_Parcel_q slices_Concat_carry_Parcel_carry_Parcel_inl 1000 slices_Concat_carry_Parcel_carry_Parcel_ann false (slices_Concat_carry_Parcel_carry_Parcel_loops) (fun _ => none)) : Env α).L 6 69) 1000 (slices_Concat_carry_Parcel_carry_Parcel_ann 69) (false :: [true, false, true, true]) (loopC Go.Proofs.Try.prog 69 [true, false, true, true])) ((slices_Concat_carry_Parcel_carry_Parcel_ann 69 [true, false, true, true]).head 1) ((slices_Concat_carry_Parcel_carry_Parcel_ann 69 [true, false, true, true]).leave 1) n st k

theorem slices_Concat_carry_Parcel_carry_Parcel_l0_eq {α : Type} : ∀ (n : Nat) (slices2 : Seq ((Seq (Int × Int × Int × Bool × Unit)) × Unit)) (size3 : Int) (x4 : Seq ((Seq (Int × Int × Int × Bool × Unit)) × Unit)) (x5 : Int) (x6 : Int) (q7 : Seq (Int × Int × Int × Bool × Unit)) (k : X → St → Option α), slices_Concat_carry_Parcel_carry_Parcel_l0_ev n (encSt slices_Concat_carry_Parcel_carry_Parcel_l0_t slices_Concat_carry_Parcel_carry_Parcel_l0_s slices_Concat_carry_Parcel_carry_Parcel_l0_h [.q (.sl (.int .i64 (.int .i64 (.int .i64 (.bool (.nil))))) (.nil)) slices2, .i size3, .q (.sl (.int .i64 (.int .i64 (.int .i64 (.bool (.nil))))) (.nil)) x4, .i x5, .i x6, .q (.int .i64 (.int .i64 (.int .i64 (.bool (.nil))))) q7]) k = slices_Concat_carry_Parcel_carry_Parcel_l0_run (fun y1 y2 y3 => k (.exit 0) (encSt [.sl (.sl (.int .i64 (.int .i64 (.int .i64 (.bool (.nil))))) (.nil)), .dead, .dead, .int .i64, .dead, .dead, .dead, .dead, .dead, .dead, .dead, .dead, .dead, .dead, .dead, .dead, .dead, .dead, .dead, .dead, .dead, .dead, .dead, .dead, .dead, .dead, .dead, .dead, .dead, .dead, .dead, .dead, .dead, .dead, .dead, .dead] [] [.row true (.int .i64 (.int .i64 (.int .i64 (.bool (.nil)))))] [.q (.sl (.int .i64 (.int .i64 (.int .i64 (.bool (.nil))))) (.nil)) y1, .i y2, .q (.int .i64 (.int .i64 (.int .i64 (.bool (.nil))))) y3])) n slices2 size3 x4 x5 x6 q7 := by
  intro n
  induction n with
  | zero => intros; kernel_rfl
  | succ n ih =>
    intro slices2 size3 x4 x5 x6 q7 k
    have e : (fun (slices2 : Seq ((Seq (Int × Int × Int × Bool × Unit)) × Unit)) (size3 : Int) (x4 : Seq ((Seq (Int × Int × Int × Bool × Unit)) × Unit)) (x5 : Int) (x6 : Int) (q7 : Seq (Int × Int × Int × Bool × Unit)) => slices_Concat_carry_Parcel_carry_Parcel_l0_ev n (encSt slices_Concat_carry_Parcel_carry_Parcel_l0_t slices_Concat_carry_Parcel_carry_Parcel_l0_s slices_Concat_carry_Parcel_carry_Parcel_l0_h [.q (.sl (.int .i64 (.int .i64 (.int .i64 (.bool (.nil))))) (.nil)) slices2, .i size3, .q (.sl (.int .i64 (.int .i64 (.int .i64 (.bool (.nil))))) (.nil)) x4, .i x5, .i x6, .q (.int .i64 (.int .i64 (.int .i64 (.bool (.nil))))) q7]) k) = (fun (slices2 : Seq ((Seq (Int × Int × Int × Bool × Unit)) × Unit)) (size3 : Int) (x4 : Seq ((Seq (Int × Int × Int × Bool × Unit)) × Unit)) (x5 : Int) (x6 : Int) (q7 : Seq (Int × Int × Int × Bool × Unit)) => slices_Concat_carry_Parcel_carry_Parcel_l0_run (fun y1 y2 y3 => k (.exit 0) (encSt [.sl (.sl (.int .i64 (.int .i64 (.int .i64 (.bool (.nil))))) (.nil)), .dead, .dead, .int .i64, .dead, .dead, .dead, .dead, .dead, .dead, .dead, .dead, .dead, .dead, .dead, .dead, .dead, .dead, .dead, .dead, .dead, .dead, .dead, .dead, .dead, .dead, .dead, .dead, .dead, .dead, .dead, .dead, .dead, .dead, .dead, .dead] [] [.row true (.int .i64 (.int .i64 (.int .i64 (.bool (.nil)))))] [.q (.sl (.int .i64 (.int .i64 (.int .i64 (.bool (.nil))))) (.nil)) y1, .i y2, .q (.int .i64 (.int .i64 (.int .i64 (.bool (.nil))))) y3])) n slices2 size3 x4 x5 x6 q7) := by
      funext slices2 size3 x4 x5 x6 q7
      exact ih slices2 size3 x4 x5 x6 q7 k
    have h1 : slices_Concat_carry_Parcel_carry_Parcel_l0_ev (n + 1) (encSt slices_Concat_carry_Parcel_carry_Parcel_l0_t slices_Concat_carry_Parcel_carry_Parcel_l0_s slices_Concat_carry_Parcel_carry_Parcel_l0_h [.q (.sl (.int .i64 (.int .i64 (.int .i64 (.bool (.nil))))) (.nil)) slices2, .i size3, .q (.sl (.int .i64 (.int .i64 (.int .i64 (.bool (.nil))))) (.nil)) x4, .i x5, .i x6, .q (.int .i64 (.int .i64 (.int .i64 (.bool (.nil))))) q7]) k = slices_Concat_carry_Parcel_carry_Parcel_l0_step (fun y1 y2 y3 => k (.exit 0) (encSt [.sl (.sl (.int .i64 (.int .i64 (.int .i64 (.bool (.nil))))) (.nil)), .dead, .dead, .int .i64, .dead, .dead, .dead, .dead, .dead, .dead, .dead, .dead, .dead, .dead, .dead, .dead, .dead, .dead, .dead, .dead, .dead, .dead, .dead, .dead, .dead, .dead, .dead, .dead, .dead, .dead, .dead, .dead, .dead, .dead, .dead, .dead] [] [.row true (.int .i64 (.int .i64 (.int .i64 (.bool (.nil)))))] [.q (.sl (.int .i64 (.int .i64 (.int .i64 (.bool (.nil))))) (.nil)) y1, .i y2, .q (.int .i64 (.int .i64 (.int .i64 (.bool (.nil))))) y3])) (fun (slices2 : Seq ((Seq (Int × Int × Int × Bool × Unit)) × Unit)) (size3 : Int) (x4 : Seq ((Seq (Int × Int × Int × Bool × Unit)) × Unit)) (x5 : Int) (x6 : Int) (q7 : Seq (Int × Int × Int × Bool × Unit)) => slices_Concat_carry_Parcel_carry_Parcel_l0_ev n (encSt slices_Concat_carry_Parcel_carry_Parcel_l0_t slices_Concat_carry_Parcel_carry_Parcel_l0_s slices_Concat_carry_Parcel_carry_Parcel_l0_h [.q (.sl (.int .i64 (.int .i64 (.int .i64 (.bool (.nil))))) (.nil)) slices2, .i size3, .q (.sl (.int .i64 (.int .i64 (.int .i64 (.bool (.nil))))) (.nil)) x4, .i x5, .i x6, .q (.int .i64 (.int .i64 (.int .i64 (.bool (.nil))))) q7]) k) slices2 size3 x4 x5 x6 q7 := by kernel_rfl
    have h2 := congrArg (fun r => slices_Concat_carry_Parcel_carry_Parcel_l0_step (fun y1 y2 y3 => k (.exit 0) (encSt [.sl (.sl (.int .i64 (.int .i64 (.int .i64 (.bool (.nil))))) (.nil)), .dead, .dead, .int .i64, .dead, .dead, .dead, .dead, .dead, .dead, .dead, .dead, .dead, .dead, .dead, .dead, .dead, .dead, .dead, .dead, .dead, .dead, .dead, .dead, .dead, .dead, .dead, .dead, .dead, .dead, .dead, .dead, .dead, .dead, .dead, .dead] [] [.row true (.int .i64 (.int .i64 (.int .i64 (.bool (.nil)))))] [.q (.sl (.int .i64 (.int .i64 (.int .i64 (.bool (.nil))))) (.nil)) y1, .i y2, .q (.int .i64 (.int .i64 (.int .i64 (.bool (.nil))))) y3])) r slices2 size3 x4 x5 x6 q7) e
    have h3 : slices_Concat_carry_Parcel_carry_Parcel_l0_step (fun y1 y2 y3 => k (.exit 0) (encSt [.sl (.sl (.int .i64 (.int .i64 (.int .i64 (.bool (.nil))))) (.nil)), .dead, .dead, .int .i64, .dead, .dead, .dead, .dead, .dead, .dead, .dead, .dead, .dead, .dead, .dead, .dead, .dead, .dead, .dead, .dead, .dead, .dead, .dead, .dead, .dead, .dead, .dead, .dead, .dead, .dead, .dead, .dead, .dead, .dead, .dead, .dead] [] [.row true (.int .i64 (.int .i64 (.int .i64 (.bool (.nil)))))] [.q (.sl (.int .i64 (.int .i64 (.int .i64 (.bool (.nil))))) (.nil)) y1, .i y2, .q (.int .i64 (.int .i64 (.int .i64 (.bool (.nil))))) y3])) (fun (slices2 : Seq ((Seq (Int × Int × Int × Bool × Unit)) × Unit)) (size3 : Int) (x4 : Seq ((Seq (Int × Int × Int × Bool × Unit)) × Unit)) (x5 : Int) (x6 : Int) (q7 : Seq (Int × Int × Int × Bool × Unit)) => slices_Concat_carry_Parcel_carry_Parcel_l0_run (fun y1 y2 y3 => k (.exit 0) (encSt [.sl (.sl (.int .i64 (.int .i64 (.int .i64 (.bool (.nil))))) (.nil)), .dead, .dead, .int .i64, .dead, .dead, .dead, .dead, .dead, .dead, .dead, .dead, .dead, .dead, .dead, .dead, .dead, .dead, .dead, .dead, .dead, .dead, .dead, .dead, .dead, .dead, .dead, .dead, .dead, .dead, .dead, .dead, .dead, .dead, .dead, .dead] [] [.row true (.int .i64 (.int .i64 (.int .i64 (.bool (.nil)))))] [.q (.sl (.int .i64 (.int .i64 (.int .i64 (.bool (.nil))))) (.nil)) y1, .i y2, .q (.int .i64 (.int .i64 (.int .i64 (.bool (.nil))))) y3])) n slices2 size3 x4 x5 x6 q7) slices2 size3 x4 x5 x6 q7 = slices_Concat_carry_Parcel_carry_Parcel_l0_run (fun y1 y2 y3 => k (.exit 0) (encSt [.sl (.sl (.int .i64 (.int .i64 (.int .i64 (.bool (.nil))))) (.nil)), .dead, .dead, .int .i64, .dead, .dead, .dead, .dead, .dead, .dead, .dead, .dead, .dead, .dead, .dead, .dead, .dead, .dead, .dead, .dead, .dead, .dead, .dead, .dead, .dead, .dead, .dead, .dead, .dead, .dead, .dead, .dead, .dead, .dead, .dead, .dead] [] [.row true (.int .i64 (.int .i64 (.int .i64 (.bool (.nil)))))] [.q (.sl (.int .i64 (.int .i64 (.int .i64 (.bool (.nil))))) (.nil)) y1, .i y2, .q (.int .i64 (.int .i64 (.int .i64 (.bool (.nil))))) y3])) (n + 1) slices2 size3 x4 x5 x6 q7 := by kernel_rfl
    exact h1.trans (h2.trans h3)

theorem slices_Concat_carry_Parcel_carry_Parcel_l0_ok {α : Type} : (slices_Concat_carry_Parcel_carry_Parcel_l0_spec : LoopSpec α).ok Go.Proofs.Try.prog (envOf (slices_Concat_carry_Parcel_carry_Parcel_C) slices_Concat_carry_Parcel_carry_Parcel_q slices_Concat_carry_Parcel_carry_Parcel_inl 1000 slices_Concat_carry_Parcel_carry_Parcel_ann false (slices_Concat_carry_Parcel_carry_Parcel_loops) (fun _ => none)) := by
  intro ds k
  have h1 : slices_Concat_carry_Parcel_carry_Parcel_l0_ev 1000 (encSt slices_Concat_carry_Parcel_carry_Parcel_l0_t slices_Concat_carry_Parcel_carry_Parcel_l0_s slices_Concat_carry_Parcel_carry_Parcel_l0_h ds) k = slices_Concat_carry_Parcel_carry_Parcel_l0_ev 1000 (encSt slices_Concat_carry_Parcel_carry_Parcel_l0_t slices_Concat_carry_Parcel_carry_Parcel_l0_s slices_Concat_carry_Parcel_carry_Parcel_l0_h [.q (.sl (.int .i64 (.int .i64 (.int .i64 (.bool (.nil))))) (.nil)) (hdQ (.sl (.int .i64 (.int .i64 (.int .i64 (.bool (.nil))))) (.nil)) ds), .i (hdI ds.tail), .q (.sl (.int .i64 (.int .i64 (.int .i64 (.bool (.nil))))) (.nil)) (hdQ (.sl (.int .i64 (.int .i64 (.int .i64 (.bool (.nil))))) (.nil)) ds.tail.tail), .i (hdI ds.tail.tail.tail), .i (hdI ds.tail.tail.tail.tail), .q (.int .i64 (.int .i64 (.int .i64 (.bool (.nil))))) (hdQ (.int .i64 (.int .i64 (.int .i64 (.bool (.nil))))) ds.tail.tail.tail.tail.tail)]) k := by kernel_rfl
  have h2 := slices_Concat_carry_Parcel_carry_Parcel_l0_eq 1000 (hdQ (.sl (.int .i64 (.int .i64 (.int .i64 (.bool (.nil))))) (.nil)) ds) (hdI ds.tail) (hdQ (.sl (.int .i64 (.int .i64 (.int .i64 (.bool (.nil))))) (.nil)) ds.tail.tail) (hdI ds.tail.tail.tail) (hdI ds.tail.tail.tail.tail) (hdQ (.int .i64 (.int .i64 (.int .i64 (.bool (.nil))))) ds.tail.tail.tail.tail.tail) k
  exact h1.trans h2

noncomputable def slices_Concat_carry_Parcel_carry_Parcel_l1_ev {α : Type} (n : Nat) (st : St) (k : X → St → Option α) : Option α := loopN (evCode Go.Proofs.Try.prog (callD Go.Proofs.Try.prog (envOf (slices_Concat_carry_Parcel_carry_Parcel_C) slices_Concat_carry_Parcel_carry_Parcel_q slices_Concat_carry_Parcel_carry_Parcel_inl 1000 slices_Concat_carry_Parcel_carry_Parcel_ann false (slices_Concat_carry_Parcel_carry_Parcel_loops) (fun _ => none)) 6) (((envOf (slices_Concat_carry_Parcel_carry_Parcel_C) slices_Concat_carry_Parcel_carry_Parcel_q slices_Concat_carry_Parcel_carry_Parcel_inl 1000 slices_Concat_carry_Parcel_carry_Parcel_ann false (slices_Concat_carry_Parcel_carry_Parcel_loops) (fun _ => none)) : Env α).L 6 69) 1000 (slices_Concat_carry_Parcel_carry_Parcel_ann 69) (false :: [true, false, true, true, true, true]) (loopC Go.Proofs.Try.prog 69 [true, false, true, true, true, true])) ((slices_Concat_carry_Parcel_carry_Parcel_ann 69 [true, false, true, true, true, true]).head 3) ((slices_Concat_carry_Parcel_carry_Parcel_ann 69 [true, false, true, true, true, true]).leave 3) n st k

theorem slices_Concat_carry_Parcel_carry_Parcel_l1_eq {α : Type} : ∀ (n : Nat) (x11 : Seq ((Seq (Int × Int × Int × Bool × Unit)) × Unit)) (x12 : Int) (x13 : Int) (q14 : Seq (Int × Int × Int × Bool × Unit)) (q15 : Seq (Int × Int × Int × Bool × Unit)) (q16 : Seq (Int × Int × Int × Bool × Unit)) (k : X → St → Option α), slices_Concat_carry_Parcel_carry_Parcel_l1_ev n (encSt slices_Concat_carry_Parcel_carry_Parcel_l1_t slices_Concat_carry_Parcel_carry_Parcel_l1_s slices_Concat_carry_Parcel_carry_Parcel_l1_h [.q (.sl (.int .i64 (.int .i64 (.int .i64 (.bool (.nil))))) (.nil)) x11, .i x12, .i x13, .q (.int .i64 (.int .i64 (.int .i64 (.bool (.nil))))) q14, .q (.int .i64 (.int .i64 (.int .i64 (.bool (.nil))))) q15, .q (.int .i64 (.int .i64 (.int .i64 (.bool (.nil))))) q16]) k = slices_Concat_carry_Parcel_carry_Parcel_l1_run (fun y1 y2 y3 => k (.exit 2) (encSt [.dead, .dead, .dead, .dead, .dead, .dead, .own 2, .dead, .dead, .dead, .dead, .dead, .dead, .dead, .dead, .dead, .dead, .dead, .dead, .dead, .dead, .dead, .dead, .dead, .dead, .dead, .dead, .dead, .dead, .dead, .dead, .dead, .dead, .dead, .dead, .dead] [] [.row true (.int .i64 (.int .i64 (.int .i64 (.bool (.nil))))), .row true (.int .i64 (.int .i64 (.int .i64 (.bool (.nil))))), .row true (.int .i64 (.int .i64 (.int .i64 (.bool (.nil)))))] [.q (.int .i64 (.int .i64 (.int .i64 (.bool (.nil))))) y1, .q (.int .i64 (.int .i64 (.int .i64 (.bool (.nil))))) y2, .q (.int .i64 (.int .i64 (.int .i64 (.bool (.nil))))) y3])) n x11 x12 x13 q14 q15 q16 := by
  intro n
  induction n with
  | zero => intros; kernel_rfl
  | succ n ih =>
    intro x11 x12 x13 q14 q15 q16 k
    have e : (fun (x11 : Seq ((Seq (Int × Int × Int × Bool × Unit)) × Unit)) (x12 : Int) (x13 : Int) (q14 : Seq (Int × Int × Int × Bool × Unit)) (q15 : Seq (Int × Int × Int × Bool × Unit)) (q16 : Seq (Int × Int × Int × Bool × Unit)) => slices_Concat_carry_Parcel_carry_Parcel_l1_ev n (encSt slices_Concat_carry_Parcel_carry_Parcel_l1_t slices_Concat_carry_Parcel_carry_Parcel_l1_s slices_Concat_carry_Parcel_carry_Parcel_l1_h [.q (.sl (.int .i64 (.int .i64 (.int .i64 (.bool (.nil))))) (.nil)) x11, .i x12, .i x13, .q (.int .i64 (.int .i64 (.int .i64 (.bool (.nil))))) q14, .q (.int .i64 (.int .i64 (.int .i64 (.bool (.nil))))) q15, .q (.int .i64 (.int .i64 (.int .i64 (.bool (.nil))))) q16]) k) = (fun (x11 : Seq ((Seq (Int × Int × Int × Bool × Unit)) × Unit)) (x12 : Int) (x13 : Int) (q14 : Seq (Int × Int × Int × Bool × Unit)) (q15 : Seq (Int × Int × Int × Bool × Unit)) (q16 : Seq (Int × Int × Int × Bool × Unit)) => slices_Concat_carry_Parcel_carry_Parcel_l1_run (fun y1 y2 y3 => k (.exit 2) (encSt [.dead, .dead, .dead, .dead, .dead, .dead, .own 2, .dead, .dead, .dead, .dead, .dead, .dead, .dead, .dead, .dead, .dead, .dead, .dead, .dead, .dead, .dead, .dead, .dead, .dead, .dead, .dead, .dead, .dead, .dead, .dead, .dead, .dead, .dead, .dead, .dead] [] [.row true (.int .i64 (.int .i64 (.int .i64 (.bool (.nil))))), .row true (.int .i64 (.int .i64 (.int .i64 (.bool (.nil))))), .row true (.int .i64 (.int .i64 (.int .i64 (.bool (.nil)))))] [.q (.int .i64 (.int .i64 (.int .i64 (.bool (.nil))))) y1, .q (.int .i64 (.int .i64 (.int .i64 (.bool (.nil))))) y2, .q (.int .i64 (.int .i64 (.int .i64 (.bool (.nil))))) y3])) n x11 x12 x13 q14 q15 q16) := by
      funext x11 x12 x13 q14 q15 q16
      exact ih x11 x12 x13 q14 q15 q16 k
    have h1 : slices_Concat_carry_Parcel_carry_Parcel_l1_ev (n + 1) (encSt slices_Concat_carry_Parcel_carry_Parcel_l1_t slices_Concat_carry_Parcel_carry_Parcel_l1_s slices_Concat_carry_Parcel_carry_Parcel_l1_h [.q (.sl (.int .i64 (.int .i64 (.int .i64 (.bool (.nil))))) (.nil)) x11, .i x12, .i x13, .q (.int .i64 (.int .i64 (.int .i64 (.bool (.nil))))) q14, .q (.int .i64 (.int .i64 (.int .i64 (.bool (.nil))))) q15, .q (.int .i64 (.int .i64 (.int .i64 (.bool (.nil))))) q16]) k = slices_Concat_carry_Parcel_carry_Parcel_l1_step (fun y1 y2 y3 => k (.exit 2) (encSt [.dead, .dead, .dead, .dead, .dead, .dead, .own 2, .dead, .dead, .dead, .dead, .dead, .dead, .dead, .dead, .dead, .dead, .dead, .dead, .dead, .dead, .dead, .dead, .dead, .dead, .dead, .dead, .dead, .dead, .dead, .dead, .dead, .dead, .dead, .dead, .dead] [] [.row true (.int .i64 (.int .i64 (.int .i64 (.bool (.nil))))), .row true (.int .i64 (.int .i64 (.int .i64 (.bool (.nil))))), .row true (.int .i64 (.int .i64 (.int .i64 (.bool (.nil)))))] [.q (.int .i64 (.int .i64 (.int .i64 (.bool (.nil))))) y1, .q (.int .i64 (.int .i64 (.int .i64 (.bool (.nil))))) y2, .q (.int .i64 (.int .i64 (.int .i64 (.bool (.nil))))) y3])) (fun (x11 : Seq ((Seq (Int × Int × Int × Bool × Unit)) × Unit)) (x12 : Int) (x13 : Int) (q14 : Seq (Int × Int × Int × Bool × Unit)) (q15 : Seq (Int × Int × Int × Bool × Unit)) (q16 : Seq (Int × Int × Int × Bool × Unit)) => slices_Concat_carry_Parcel_carry_Parcel_l1_ev n (encSt slices_Concat_carry_Parcel_carry_Parcel_l1_t slices_Concat_carry_Parcel_carry_Parcel_l1_s slices_Concat_carry_Parcel_carry_Parcel_l1_h [.q (.sl (.int .i64 (.int .i64 (.int .i64 (.bool (.nil))))) (.nil)) x11, .i x12, .i x13, .q (.int .i64 (.int .i64 (.int .i64 (.bool (.nil))))) q14, .q (.int .i64 (.int .i64 (.int .i64 (.bool (.nil))))) q15, .q (.int .i64 (.int .i64 (.int .i64 (.bool (.nil))))) q16]) k) x11 x12 x13 q14 q15 q16 := by kernel_rfl
    have h2 := congrArg (fun r => slices_Concat_carry_Parcel_carry_Parcel_l1_step (fun y1 y2 y3 => k (.exit 2) (encSt [.dead, .dead, .dead, .dead, .dead, .dead, .own 2, .dead, .dead, .dead, .dead, .dead, .dead, .dead, .dead, .dead, .dead, .dead, .dead, .dead, .dead, .dead, .dead, .dead, .dead, .dead, .dead, .dead, .dead, .dead, .dead, .dead, .dead, .dead, .dead, .dead] [] [.row true (.int .i64 (.int .i64 (.int .i64 (.bool (.nil))))), .row true (.int .i64 (.int .i64 (.int .i64 (.bool (.nil))))), .row true (.int .i64 (.int .i64 (.int .i64 (.bool (.nil)))))] [.q (.int .i64 (.int .i64 (.int .i64 (.bool (.nil))))) y1, .q (.int .i64 (.int .i64 (.int .i64 (.bool (.nil))))) y2, .q (.int .i64 (.int .i64 (.int .i64 (.bool (.nil))))) y3])) r x11 x12 x13 q14 q15 q16) e
    have h3 : slices_Concat_carry_Parcel_carry_Parcel_l1_step (fun y1 y2 y3 => k (.exit 2) (encSt [.dead, .dead, .dead, .dead, .dead, .dead, .own 2, .dead, .dead, .dead, .dead, .dead, .dead, .dead, .dead, .dead, .dead, .dead, .dead, .dead, .dead, .dead, .dead, .dead, .dead, .dead, .dead, .dead, .dead, .dead, .dead, .dead, .dead, .dead, .dead, .dead] [] [.row true (.int .i64 (.int .i64 (.int .i64 (.bool (.nil))))), .row true (.int .i64 (.int .i64 (.int .i64 (.bool (.nil))))), .row true (.int .i64 (.int .i64 (.int .i64 (.bool (.nil)))))] [.q (.int .i64 (.int .i64 (.int .i64 (.bool (.nil))))) y1, .q (.int .i64 (.int .i64 (.int .i64 (.bool (.nil))))) y2, .q (.int .i64 (.int .i64 (.int .i64 (.bool (.nil))))) y3])) (fun (x11 : Seq ((Seq (Int × Int × Int × Bool × Unit)) × Unit)) (x12 : Int) (x13 : Int) (q14 : Seq (Int × Int × Int × Bool × Unit)) (q15 : Seq (Int × Int × Int × Bool × Unit)) (q16 : Seq (Int × Int × Int × Bool × Unit)) => slices_Concat_carry_Parcel_carry_Parcel_l1_run (fun y1 y2 y3 => k (.exit 2) (encSt [.dead, .dead, .dead, .dead, .dead, .dead, .own 2, .dead, .dead, .dead, .dead, .dead, .dead, .dead, .dead, .dead, .dead, .dead, .dead, .dead, .dead, .dead, .dead, .dead, .dead, .dead, .dead, .dead, .dead, .dead, .dead, .dead, .dead, .dead, .dead, .dead] [] [.row true (.int .i64 (.int .i64 (.int .i64 (.bool (.nil))))), .row true (.int .i64 (.int .i64 (.int .i64 (.bool (.nil))))), .row true (.int .i64 (.int .i64 (.int .i64 (.bool (.nil)))))] [.q (.int .i64 (.int .i64 (.int .i64 (.bool (.nil))))) y1, .q (.int .i64 (.int .i64 (.int .i64 (.bool (.nil))))) y2, .q (.int .i64 (.int .i64 (.int .i64 (.bool (.nil))))) y3])) n x11 x12 x13 q14 q15 q16) x11 x12 x13 q14 q15 q16 = slices_Concat_carry_Parcel_carry_Parcel_l1_run (fun y1 y2 y3 => k (.exit 2) (encSt [.dead, .dead, .dead, .dead, .dead, .dead, .own 2, .dead, .dead, .dead, .dead, .dead, .dead, .dead, .dead, .dead, .dead, .dead, .dead, .dead, .dead, .dead, .dead, .dead, .dead, .dead, .dead, .dead, .dead, .dead, .dead, .dead, .dead, .dead, .dead, .dead] [] [.row true (.int .i64 (.int .i64 (.int .i64 (.bool (.nil))))), .row true (.int .i64 (.int .i64 (.int .i64 (.bool (.nil))))), .row true (.int .i64 (.int .i64 (.int .i64 (.bool (.nil)))))] [.q (.int .i64 (.int .i64 (.int .i64 (.bool (.nil))))) y1, .q (.int .i64 (.int .i64 (.int .i64 (.bool (.nil))))) y2, .q (.int .i64 (.int .i64 (.int .i64 (.bool (.nil))))) y3])) (n + 1) x11 x12 x13 q14 q15 q16 := by kernel_rfl
    exact h1.trans (h2.trans h3)

theorem slices_Concat_carry_Parcel_carry_Parcel_l1_ok {α : Type} : (slices_Concat_carry_Parcel_carry_Parcel_l1_spec : LoopSpec α).ok Go.Proofs.Try.prog (envOf (slices_Concat_carry_Parcel_carry_Parcel_C) slices_Concat_carry_Parcel_carry_Parcel_q slices_Concat_carry_Parcel_carry_Parcel_inl 1000 slices_Concat_carry_Parcel_carry_Parcel_ann false (slices_Concat_carry_Parcel_carry_Parcel_loops) (fun _ => none)) := by
  intro ds k
  have h1 : slices_Concat_carry_Parcel_carry_Parcel_l1_ev 1000 (encSt slices_Concat_carry_Parcel_carry_Parcel_l1_t slices_Concat_carry_Parcel_carry_Parcel_l1_s slices_Concat_carry_Parcel_carry_Parcel_l1_h ds) k = slices_Concat_carry_Parcel_carry_Parcel_l1_ev 1000 (encSt slices_Concat_carry_Parcel_carry_Parcel_l1_t slices_Concat_carry_Parcel_carry_Parcel_l1_s slices_Concat_carry_Parcel_carry_Parcel_l1_h [.q (.sl (.int .i64 (.int .i64 (.int .i64 (.bool (.nil))))) (.nil)) (hdQ (.sl (.int .i64 (.int .i64 (.int .i64 (.bool (.nil))))) (.nil)) ds), .i (hdI ds.tail), .i (hdI ds.tail.tail), .q (.int .i64 (.int .i64 (.int .i64 (.bool (.nil))))) (hdQ (.int .i64 (.int .i64 (.int .i64 (.bool (.nil))))) ds.tail.tail.tail), .q (.int .i64 (.int .i64 (.int .i64 (.bool (.nil))))) (hdQ (.int .i64 (.int .i64 (.int .i64 (.bool (.nil))))) ds.tail.tail.tail.tail), .q (.int .i64 (.int .i64 (.int .i64 (.bool (.nil))))) (hdQ (.int .i64 (.int .i64 (.int .i64 (.bool (.nil))))) ds.tail.tail.tail.tail.tail)]) k := by kernel_rfl
  have h2 := slices_Concat_carry_Parcel_carry_Parcel_l1_eq 1000 (hdQ (.sl (.int .i64 (.int .i64 (.int .i64 (.bool (.nil))))) (.nil)) ds) (hdI ds.tail) (hdI ds.tail.tail) (hdQ (.int .i64 (.int .i64 (.int .i64 (.bool (.nil))))) ds.tail.tail.tail) (hdQ (.int .i64 (.int .i64 (.int .i64 (.bool (.nil))))) ds.tail.tail.tail.tail) (hdQ (.int .i64 (.int .i64 (.int .i64 (.bool (.nil))))) ds.tail.tail.tail.tail.tail) k
  exact h1.trans h2

theorem slices_Concat_carry_Parcel_carry_Parcel_ev {α : Type} : EvOk (α := α) Go.Proofs.Try.prog (envOf (slices_Concat_carry_Parcel_carry_Parcel_C) slices_Concat_carry_Parcel_carry_Parcel_q slices_Concat_carry_Parcel_carry_Parcel_inl 1000 slices_Concat_carry_Parcel_carry_Parcel_ann false (slices_Concat_carry_Parcel_carry_Parcel_loops) (fun _ => none)) 6 (slices_Concat_carry_Parcel_carry_Parcel_sp (slices_Concat_carry_Parcel_carry_Parcel)) := by intro ds k; kernel_rfl

theorem slices_Concat_carry_Parcel_carry_Parcel_ok {α : Type} : (slices_Concat_carry_Parcel_carry_Parcel_spec : FunSpec α).ok Go.Proofs.Try.prog :=
  FunSpec.ok_of (sp := slices_Concat_carry_Parcel_carry_Parcel_spec) (C := slices_Concat_carry_Parcel_carry_Parcel_C) (q := slices_Concat_carry_Parcel_carry_Parcel_q) (inl := slices_Concat_carry_Parcel_carry_Parcel_inl) (N := 1000) (ann := slices_Concat_carry_Parcel_carry_Parcel_ann) (fr := false) (D := 6) (l := (slices_Concat_carry_Parcel_carry_Parcel_loops)) (hk := (fun _ => none)) okNil (lokCons (slices_Concat_carry_Parcel_carry_Parcel_l0_ok) (lokCons (slices_Concat_carry_Parcel_carry_Parcel_l1_ok) lokNil)) noHooks (slices_Concat_carry_Parcel_carry_Parcel_ev)

end
end Go.Rv.Try
