/- MsgTakes: whatever the input, the law's function returns true, and what was handed in reads as before. No condition. Written by a program (lawrow.py). -/
import Derived.Test.YtkcdjgmialniiaaE1
import Derived.Test.YtkcdjgmialniiaaRows
import Derived.Test.YtkcdjgmialniiaaPureMsgTakes
import Derived.Test.YtkcdjgmialniiaaRvQ
import Derived.WalkKit
import Derived.ProofKit
import Derived.OpenShut
import Derived.ShutString
import Derived.ChangeOld
import Derived.Below
import Derived.SizedLaws
namespace Go.Proofs.Ytkcdjgmialniiaa.msgTakes
open Go Go.Rv Go.ChangeShapes Go.WideShapes Go.ChangeAt Go.RowKit
set_option linter.unusedVariables false
theorem own : ownKnob Try.prog.godebug = none := by kernel_rfl
theorem laidOut : laidOutB Try.prog = true := by kernel_rfl
set_option maxRecDepth 100000 in
theorem lifted (os : Os) (started : os.Started) (H : Type) (enc : TypeId × Value → H) :
    ReturnsInHanded {} Try.checked os 9 .any (Rows.msgTakesSpec.pre6 enc Try.prog Try.f9 Rows.msgTakesRow.domain false) (Rows.msgTakesSpec.post enc Try.prog Try.f9 false true false false) := by
  refine returnsInHanded_of_change_sized (C := Try.checked) own started (by kernel_rfl) Try.func9
    (ChangeSpec.witness6 (enc := enc) (C := Try.checked) false ⟨#[], #[.string ByteArray.empty], []⟩ 8 (by kernel_rfl) (by kernel_rfl) (by kernel_rfl) (by kernel_rfl)) ?_
  intro W base args ds gs before hval0 hW hcnd hsz0 _
  have hval : ∀ (j : Nat) t v, Try.f9.params[j]? = some t → args[j]? = some v → Value.okWide Try.prog W .any base t v := hval0
  have hW' := hW
  obtain ⟨p, q, hA0, hV, rfl, hfz, hnd⟩ := hW
  have hA : DataW.TrodAll enc Try.prog W 0 (fun _ => true) true Try.f9.params.toList args.toList ds p := hA0
  rw [Try.params9] at hA hval
  obtain ⟨v0, vs0, d0, ds0, p0, q0, hargs, rfl, rfl, h0, r0⟩ := trodAll_cons hA
  obtain ⟨rfl, rfl, rfl⟩ := trodAll_nil r0
  obtain rfl : args = #[v0] := by cases args; simp_all
  obtain ⟨rfl, rfl⟩ := trodVars_none hV
  have lt := hW'.lt
  have lt0 : ∀ x ∈ p0, x.block < W.heap.size := fun x hx => lt x (by simp [hx])
  obtain ⟨X0, o0, e0⟩ := param_open (ty := .str (.nil)) (by kernel_rfl) (hval 0 9 v0 rfl rfl) h0
  have hr : (Go.Rv.Try.draymanlaw23_MsgTakes_spec : FunSpec Unit).run (dynT (.str (.nil)) X0 ++ []) lawK = some () := by
    have e : (Go.Rv.Try.draymanlaw23_MsgTakes_spec : FunSpec Unit).run (dynT (.str (.nil)) X0 ++ []) lawK = Go.Rv.Try.draymanlaw23_MsgTakes X0.1 (fun b => lawK (.bool b) []) := by kernel_rfl
    exact e.trans (Go.Rv.Try.MsgTakes_true X0 o0 _)
  refine ((FunSpec.law (P := Try.prog) (sp := Go.Rv.Try.draymanlaw23_MsgTakes_spec) Go.Rv.Try.draymanlaw23_MsgTakes_ok True.intro (RdAll.cons e0 RdAll.nil) (dynT (.str (.nil)) X0 ++ []) (by kernel_rfl) rfl hr).mono fun e W' hh => ?_)
  obtain ⟨he, bel⟩ := hh
  subst he
  exact ⟨_, rfl, _, _, _, [], _, [], hW', trodAll_mk1 (shut_bool Try.underlying4 _), (trodAll_cons_mk (Below.trod laidOut (by kernel_rfl) (of_decide_eq_true (by kernel_rfl)) h0 bel lt0) trodAll_mk0), rfl, bel.frame _, fun h => by cases h⟩
theorem over : Rows.msgTakesRow.holds Try.pinned (OpenSpec.ofChange Rows.msgTakesSpec) :=
  OpenClaim.holds_of_wide 9 Try.f9 rfl rfl rfl rfl rfl rfl rfl ⟨rfl, rfl, rfl, rfl, rfl⟩ rfl rfl rfl rfl rfl (by kernel_rfl) Try.func9 (by kernel_rfl)
    (of_decide_eq_true (by kernel_rfl)) (by unfold Func.isWrapper; first | (rw [if_pos (by decide +kernel)]; kernel_rfl) | (rw [if_neg (by decide +kernel)]; exact ⟨rfl, rfl⟩))
    (fun os started H enc _ => lifted os started H enc)
end Go.Proofs.Ytkcdjgmialniiaa.msgTakes
namespace Go.Proofs.Ytkcdjgmialniiaa
/-- The row, under a short name, for the claim. -/
theorem msgTakes_holds : Rows.MsgTakesSaid := msgTakes.over
#print axioms msgTakes_holds
end Go.Proofs.Ytkcdjgmialniiaa
