/- PaySums: whatever the input, the law's function returns true, and what was handed in reads as before. No condition. Written by a program (lawrow.py). -/
import Derived.Test.YtmoeohjaafpmgaaE3
import Derived.Test.YtmoeohjaafpmgaaRows
import Derived.Test.YtmoeohjaafpmgaaPurePaySums
import Derived.Test.YtmoeohjaafpmgaaRvQ
import Derived.WalkKit
import Derived.ProofKit
import Derived.OpenShut
import Derived.ShutString
import Derived.ChangeOld
import Derived.Below
import Derived.SizedLaws
namespace Go.Proofs.Ytmoeohjaafpmgaa.paySums
open Go Go.Rv Go.ChangeShapes Go.WideShapes Go.ChangeAt Go.RowKit
set_option linter.unusedVariables false
theorem own : ownKnob Try.prog.godebug = none := by kernel_rfl
theorem laidOut : laidOutB Try.prog = true := by kernel_rfl
set_option maxRecDepth 100000 in
theorem lifted (os : Os) (started : os.Started) (H : Type) (enc : TypeId × Value → H) :
    ReturnsInHanded {} Try.checked os 3 .any (Rows.paySumsSpec.pre6 enc Try.prog Try.f3 Rows.paySumsRow.domain false) (Rows.paySumsSpec.post enc Try.prog Try.f3 false true false false) := by
  refine returnsInHanded_of_change_sized (C := Try.checked) own started (by kernel_rfl) Try.func3
    (ChangeSpec.witness6 (enc := enc) (C := Try.checked) false ⟨#[], #[.slice none 0 0], []⟩ 8 (by kernel_rfl) (by kernel_rfl) (by kernel_rfl) (by kernel_rfl)) ?_
  intro W base args ds gs before hval0 hW hcnd hsz0 _
  have hval : ∀ (j : Nat) t v, Try.f3.params[j]? = some t → args[j]? = some v → Value.okWide Try.prog W .any base t v := hval0
  have hW' := hW
  obtain ⟨p, q, hA0, hV, rfl, hfz, hnd⟩ := hW
  have hA : DataW.TrodAll enc Try.prog W 0 (fun _ => true) true Try.f3.params.toList args.toList ds p := hA0
  rw [Try.params3] at hA hval
  obtain ⟨v0, vs0, d0, ds0, p0, q0, hargs, rfl, rfl, h0, r0⟩ := trodAll_cons hA
  obtain ⟨rfl, rfl, rfl⟩ := trodAll_nil r0
  obtain rfl : args = #[v0] := by cases args; simp_all
  obtain ⟨rfl, rfl⟩ := trodVars_none hV
  have lt := hW'.lt
  have lt0 : ∀ x ∈ p0, x.block < W.heap.size := fun x hx => lt x (by simp [hx])
  obtain ⟨X0, o0, e0⟩ := param_open (ty := .sl (.int .i64 (.int .i64 (.int .i64 (.bool (.int .i64 (.int .i64 (.bool (.int .i64 (.nil))))))))) (.nil)) (by kernel_rfl) (hval 0 22 v0 rfl rfl) h0
  have hr : (Go.Rv.Try.draymanlaw32_PaySums_spec : FunSpec Unit).run (dynT (.sl (.int .i64 (.int .i64 (.int .i64 (.bool (.int .i64 (.int .i64 (.bool (.int .i64 (.nil))))))))) (.nil)) X0 ++ []) lawK = some () := by
    have e : (Go.Rv.Try.draymanlaw32_PaySums_spec : FunSpec Unit).run (dynT (.sl (.int .i64 (.int .i64 (.int .i64 (.bool (.int .i64 (.int .i64 (.bool (.int .i64 (.nil))))))))) (.nil)) X0 ++ []) lawK = Go.Rv.Try.draymanlaw32_PaySums X0.1 (fun b => lawK (.bool b) []) := by kernel_rfl
    exact e.trans (Go.Rv.Try.PaySums_true X0 o0 _)
  refine ((FunSpec.law (P := Try.prog) (sp := Go.Rv.Try.draymanlaw32_PaySums_spec) Go.Rv.Try.draymanlaw32_PaySums_ok True.intro (RdAll.cons e0 RdAll.nil) (dynT (.sl (.int .i64 (.int .i64 (.int .i64 (.bool (.int .i64 (.int .i64 (.bool (.int .i64 (.nil))))))))) (.nil)) X0 ++ []) (by kernel_rfl) rfl hr).mono fun e W' hh => ?_)
  obtain ⟨he, bel⟩ := hh
  subst he
  exact ⟨_, rfl, _, _, _, [], _, [], hW', trodAll_mk1 (shut_bool Try.underlying4 _), (trodAll_cons_mk (Below.trod laidOut (by kernel_rfl) (of_decide_eq_true (by kernel_rfl)) h0 bel lt0) trodAll_mk0), rfl, bel.frame _, fun h => by cases h⟩
theorem over : Rows.paySumsRow.holds Try.pinned (OpenSpec.ofChange Rows.paySumsSpec) :=
  OpenClaim.holds_of_wide 3 Try.f3 rfl rfl rfl rfl rfl rfl rfl ⟨rfl, rfl, rfl, rfl, rfl⟩ rfl rfl rfl rfl rfl (by kernel_rfl) Try.func3 (by kernel_rfl)
    (of_decide_eq_true (by kernel_rfl)) (by unfold Func.isWrapper; first | (rw [if_pos (by decide +kernel)]; kernel_rfl) | (rw [if_neg (by decide +kernel)]; exact ⟨rfl, rfl⟩))
    (fun os started H enc _ => lifted os started H enc)
end Go.Proofs.Ytmoeohjaafpmgaa.paySums
namespace Go.Proofs.Ytmoeohjaafpmgaa
/-- The row, under a short name, for the claim. -/
theorem paySums_holds : Rows.PaySumsSaid := paySums.over
#print axioms paySums_holds
end Go.Proofs.Ytmoeohjaafpmgaa
