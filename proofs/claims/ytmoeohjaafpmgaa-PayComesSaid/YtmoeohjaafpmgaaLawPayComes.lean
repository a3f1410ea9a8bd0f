/- PayComes: whatever the input, the law's function returns true, and what was handed in reads as before. No condition. Written by a program (lawrow.py). -/
import Derived.Test.YtmoeohjaafpmgaaE2
import Derived.Test.YtmoeohjaafpmgaaRows
import Derived.Test.YtmoeohjaafpmgaaPurePayComes
import Derived.Test.YtmoeohjaafpmgaaRvQ
import Derived.WalkKit
import Derived.ProofKit
import Derived.OpenShut
import Derived.ShutString
import Derived.ChangeOld
import Derived.Below
import Derived.SizedLaws
namespace Go.Proofs.Ytmoeohjaafpmgaa.payComes
open Go Go.Rv Go.ChangeShapes Go.WideShapes Go.ChangeAt Go.RowKit
set_option linter.unusedVariables false
theorem own : ownKnob Try.prog.godebug = none := by kernel_rfl
theorem laidOut : laidOutB Try.prog = true := by kernel_rfl
set_option maxRecDepth 100000 in
theorem lifted (os : Os) (started : os.Started) (H : Type) (enc : TypeId × Value → H) :
    ReturnsInHanded {} Try.checked os 4 .any (Rows.payComesSpec.pre6 enc Try.prog Try.f4 Rows.payComesRow.domain false) (Rows.payComesSpec.post enc Try.prog Try.f4 false true false false) := by
  refine returnsInHanded_of_change_sized (C := Try.checked) own started (by kernel_rfl) Try.func4
    (ChangeSpec.witness6 (enc := enc) (C := Try.checked) false ⟨#[], #[.agg #[.slice none 0 0, .int .i64 0, .int .i64 0, .int .i64 0], .agg #[.slice none 0 0, .int .i64 0, .int .i64 0, .int .i64 0], .agg #[.int .i64 0, .int .i64 0, .int .i64 0, .bool false, .int .i64 0, .int .i64 0, .bool false], .int .i64 0], []⟩ 8 (by kernel_rfl) (by kernel_rfl) (by kernel_rfl) (by kernel_rfl)) ?_
  intro W base args ds gs before hval0 hW hcnd hsz0 _
  have hval : ∀ (j : Nat) t v, Try.f4.params[j]? = some t → args[j]? = some v → Value.okWide Try.prog W .any base t v := hval0
  have hW' := hW
  obtain ⟨p, q, hA0, hV, rfl, hfz, hnd⟩ := hW
  have hA : DataW.TrodAll enc Try.prog W 0 (fun _ => true) true Try.f4.params.toList args.toList ds p := hA0
  rw [Try.params4] at hA hval
  obtain ⟨v0, vs0, d0, ds0, p0, q0, hargs, rfl, rfl, h0, r0⟩ := trodAll_cons hA
  obtain ⟨v1, vs1, d1, ds1, p1, q1, rfl, rfl, rfl, h1, r1⟩ := trodAll_cons r0
  obtain ⟨v2, vs2, d2, ds2, p2, q2, rfl, rfl, rfl, h2, r2⟩ := trodAll_cons r1
  obtain ⟨v3, vs3, d3, ds3, p3, q3, rfl, rfl, rfl, h3, r3⟩ := trodAll_cons r2
  obtain ⟨rfl, rfl, rfl⟩ := trodAll_nil r3
  obtain rfl : args = #[v0, v1, v2, v3] := by cases args; simp_all
  obtain ⟨rfl, rfl⟩ := trodVars_none hV
  have lt := hW'.lt
  have lt0 : ∀ x ∈ p0, x.block < W.heap.size := fun x hx => lt x (by simp [hx])
  have lt1 : ∀ x ∈ p1, x.block < W.heap.size := fun x hx => lt x (by simp [hx])
  have lt2 : ∀ x ∈ p2, x.block < W.heap.size := fun x hx => lt x (by simp [hx])
  have lt3 : ∀ x ∈ p3, x.block < W.heap.size := fun x hx => lt x (by simp [hx])
  obtain ⟨X0, o0, e0⟩ := param_open (ty := .sl (.int .i64 (.int .i64 (.int .i64 (.int .i64 (.int .i64 (.int .i64 (.nil))))))) (.int .i64 (.int .i64 (.int .i64 (.nil))))) (by kernel_rfl) (hval 0 42 v0 rfl rfl) h0
  obtain ⟨X1, o1, e1⟩ := param_open (ty := .sl (.int .i64 (.int .i64 (.int .i64 (.int .i64 (.int .i64 (.int .i64 (.nil))))))) (.int .i64 (.int .i64 (.int .i64 (.nil))))) (by kernel_rfl) (hval 1 42 v1 rfl rfl) h1
  obtain ⟨X2, o2, e2⟩ := param_open (ty := .int .i64 (.int .i64 (.int .i64 (.bool (.int .i64 (.int .i64 (.bool (.nil)))))))) (by kernel_rfl) (hval 2 29 v2 rfl rfl) h2
  obtain ⟨X3, o3, e3⟩ := param_open (ty := .int .i64 (.nil)) (by kernel_rfl) (hval 3 3 v3 rfl rfl) h3
  have hr : (Go.Rv.Try.draymanlaw32_PayComes_spec : FunSpec Unit).run (dynT (.sl (.int .i64 (.int .i64 (.int .i64 (.int .i64 (.int .i64 (.int .i64 (.nil))))))) (.int .i64 (.int .i64 (.int .i64 (.nil))))) X0 ++ (dynT (.sl (.int .i64 (.int .i64 (.int .i64 (.int .i64 (.int .i64 (.int .i64 (.nil))))))) (.int .i64 (.int .i64 (.int .i64 (.nil))))) X1 ++ (dynT (.int .i64 (.int .i64 (.int .i64 (.bool (.int .i64 (.int .i64 (.bool (.nil)))))))) X2 ++ (dynT (.int .i64 (.nil)) X3 ++ [])))) lawK = some () := by
    have e : (Go.Rv.Try.draymanlaw32_PayComes_spec : FunSpec Unit).run (dynT (.sl (.int .i64 (.int .i64 (.int .i64 (.int .i64 (.int .i64 (.int .i64 (.nil))))))) (.int .i64 (.int .i64 (.int .i64 (.nil))))) X0 ++ (dynT (.sl (.int .i64 (.int .i64 (.int .i64 (.int .i64 (.int .i64 (.int .i64 (.nil))))))) (.int .i64 (.int .i64 (.int .i64 (.nil))))) X1 ++ (dynT (.int .i64 (.int .i64 (.int .i64 (.bool (.int .i64 (.int .i64 (.bool (.nil)))))))) X2 ++ (dynT (.int .i64 (.nil)) X3 ++ [])))) lawK = Go.Rv.Try.draymanlaw32_PayComes X0 X1 X2 X3.1 (fun b => lawK (.bool b) []) := by kernel_rfl
    exact e.trans (Go.Rv.Try.PayComes_true X0 X1 X2 X3 o0 o1 o2 o3 _)
  refine ((FunSpec.law (P := Try.prog) (sp := Go.Rv.Try.draymanlaw32_PayComes_spec) Go.Rv.Try.draymanlaw32_PayComes_ok True.intro (RdAll.cons e0 (RdAll.cons e1 (RdAll.cons e2 (RdAll.cons e3 RdAll.nil)))) (dynT (.sl (.int .i64 (.int .i64 (.int .i64 (.int .i64 (.int .i64 (.int .i64 (.nil))))))) (.int .i64 (.int .i64 (.int .i64 (.nil))))) X0 ++ (dynT (.sl (.int .i64 (.int .i64 (.int .i64 (.int .i64 (.int .i64 (.int .i64 (.nil))))))) (.int .i64 (.int .i64 (.int .i64 (.nil))))) X1 ++ (dynT (.int .i64 (.int .i64 (.int .i64 (.bool (.int .i64 (.int .i64 (.bool (.nil)))))))) X2 ++ (dynT (.int .i64 (.nil)) X3 ++ [])))) (by kernel_rfl) rfl hr).mono fun e W' hh => ?_)
  obtain ⟨he, bel⟩ := hh
  subst he
  exact ⟨_, rfl, _, _, _, [], _, [], hW', trodAll_mk1 (shut_bool Try.underlying4 _), (trodAll_cons_mk (Below.trod laidOut (by kernel_rfl) (of_decide_eq_true (by kernel_rfl)) h0 bel lt0) (trodAll_cons_mk (Below.trod laidOut (by kernel_rfl) (of_decide_eq_true (by kernel_rfl)) h1 bel lt1) (trodAll_cons_mk (Below.trod laidOut (by kernel_rfl) (of_decide_eq_true (by kernel_rfl)) h2 bel lt2) (trodAll_cons_mk (Below.trod laidOut (by kernel_rfl) (of_decide_eq_true (by kernel_rfl)) h3 bel lt3) trodAll_mk0)))), rfl, bel.frame _, fun h => by cases h⟩
theorem over : Rows.payComesRow.holds Try.pinned (OpenSpec.ofChange Rows.payComesSpec) :=
  OpenClaim.holds_of_wide 4 Try.f4 rfl rfl rfl rfl rfl rfl rfl ⟨rfl, rfl, rfl, rfl, rfl⟩ rfl rfl rfl rfl rfl (by kernel_rfl) Try.func4 (by kernel_rfl)
    (of_decide_eq_true (by kernel_rfl)) (by unfold Func.isWrapper; first | (rw [if_pos (by decide +kernel)]; kernel_rfl) | (rw [if_neg (by decide +kernel)]; exact ⟨rfl, rfl⟩))
    (fun os started H enc _ => lifted os started H enc)
end Go.Proofs.Ytmoeohjaafpmgaa.payComes
namespace Go.Proofs.Ytmoeohjaafpmgaa
/-- The row, under a short name, for the claim. -/
theorem payComes_holds : Rows.PayComesSaid := payComes.over
#print axioms payComes_holds
end Go.Proofs.Ytmoeohjaafpmgaa
