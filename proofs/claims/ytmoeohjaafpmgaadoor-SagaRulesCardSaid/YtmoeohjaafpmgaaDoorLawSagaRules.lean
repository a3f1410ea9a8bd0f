/- SagaRules: whatever the input, the law's function returns true, and what was handed in reads as before; the card, tied. Condition: package unicode/utf8's two tables are as the program's text lays them (the card ties that). Written by a program (lawrowt.py). -/
import Derived.Test.YtmoeohjaafpmgaaDoorE1
import Derived.Test.YtmoeohjaafpmgaaDoorTie
import Derived.Test.YtmoeohjaafpmgaaDoorCards
import Derived.Test.YtmoeohjaafpmgaaDoorPureSagaRules
import Derived.Test.YtmoeohjaafpmgaaDoorRvQ
import Derived.WalkKit
import Derived.ProofKit
import Derived.OpenShut
import Derived.ShutString
import Derived.ChangeOld
import Derived.Below
import Derived.SizedLaws
import Derived.LaidMore
import Derived.Lay
import Derived.SevenTiedAt
import Derived.Stop.Joined
import Derived.Lib.LaidU8T
import Derived.PinnedBridge
namespace Go.Proofs.YtmoeohjaafpmgaaDoor.sagaRules
open Go Go.Rv Go.ChangeShapes Go.WideShapes Go.ChangeAt Go.RowKit
set_option linter.unusedVariables false
theorem own : ownKnob Tryd.prog.godebug = none := by kernel_rfl
theorem laidOut : laidOutB Tryd.prog = true := by kernel_rfl
abbrev laidL : List (String × DataW Unit) := [("unicode/utf8.acceptRanges", Rows.laid_unicode_utf8_acceptRanges), ("unicode/utf8.first", Rows.laid_unicode_utf8_first)]
set_option maxRecDepth 100000 in
theorem tabs {W : World} (h : laidMetH Tryd.prog laidL W) : Fx.tab W := by
  rw [MakeChecks.laidMetH_plain _ _ _ (by kernel_rfl)] at h
  exact utf8Tabs_of_readsT (ρ := Go.Rv.Tryd.layValid_ren) (U8Types.of196 Go.Rv.Tryd.layValid) ⟨by kernel_rfl, by kernel_rfl, by kernel_rfl, by kernel_rfl, by kernel_rfl, by kernel_rfl, by kernel_rfl⟩
    (Pinned.utf8First_eq ▸ (show Go.Lib.VarReads _ _ _ Pinned.utf8First from Go.Lib.laidMet.reads h (.tail _ (.head _)))) (Go.Lib.laidMet.reads h (.head _))
set_option maxRecDepth 100000 in
theorem lifted (os : Os) (started : os.Started) (H : Type) (enc : TypeId × Value → H) :
    ReturnsInHanded {} Tryd.checked os 10 .any (fun w args => (Rows.sagaRulesSpec.pre enc Tryd.prog Tryd.f10 Rows.sagaRulesRow.domain false w args ∧ laidMetH Tryd.prog laidL w) ∧ sizedMet enc Tryd.prog Tryd.f10 (OpenSpec.ofChange Rows.sagaRulesSpec) false w args) (Rows.sagaRulesSpec.post enc Tryd.prog Tryd.f10 false true false false) := by
  refine returnsInHanded_of_change_and (C := Tryd.checked) (X := fun w _ => laidMetH Tryd.prog laidL w) (fun _ _ _ hh h => h.of_heap hh) own started (by kernel_rfl) Tryd.func10
    (ChangeSpec.witness_shaped (enc := enc) (C := Tryd.checked) (os := os) (X := fun w _ => laidMetH Tryd.prog laidL w) false (World.laidAll Tryd.prog os laidL) #[.agg #[.int .i64 0, .string ByteArray.empty, .string ByteArray.empty, .slice none 0 0, .int .i64 0, .int .i64 0, .int .i64 0, .int .i64 0, .int .i64 0, .int .i64 0, .slice none 0 0], .agg #[.string ByteArray.empty, .slice none 0 0]] 8 (World.laidAll_os _ _ _)
      (World.shaped_of_ZipB (by kernel_rfl) (by kernel_rfl)) (by kernel_rfl) (by kernel_rfl) (by kernel_rfl)
      (by rw [MakeChecks.laidMetH_plain _ _ _ (by kernel_rfl)]; exact laidMet_laidAll _ (by kernel_rfl) (by kernel_rfl))) ?_
  intro W base args ds gs before hval0 hW hcnd hsz0 hL _
  have htab : Fx.tab W := tabs hL
  have hval : ∀ (j : Nat) t v, Tryd.f10.params[j]? = some t → args[j]? = some v → Value.okWide Tryd.prog W .any base t v := hval0
  have hW' := hW
  obtain ⟨p, q, hA0, hV, rfl, hfz, hnd⟩ := hW
  have hA : DataW.TrodAll enc Tryd.prog W 0 (fun _ => true) true Tryd.f10.params.toList args.toList ds p := hA0
  rw [Tryd.params10] at hA hval
  obtain ⟨v0, vs0, d0, ds0, p0, q0, hargs, rfl, rfl, h0, r0⟩ := trodAll_cons hA
  obtain ⟨v1, vs1, d1, ds1, p1, q1, rfl, rfl, rfl, h1, r1⟩ := trodAll_cons r0
  obtain ⟨rfl, rfl, rfl⟩ := trodAll_nil r1
  obtain rfl : args = #[v0, v1] := by cases args; simp_all
  obtain ⟨rfl, rfl⟩ := trodVars_none hV
  have lt := hW'.lt
  have lt0 : ∀ x ∈ p0, x.block < W.heap.size := fun x hx => lt x (by simp [hx])
  have lt1 : ∀ x ∈ p1, x.block < W.heap.size := fun x hx => lt x (by simp [hx])
  obtain ⟨X0, o0, e0⟩ := param_open (ty := .int .i64 (.str (.str (.sl (.str (.int .i64 (.nil))) (.int .i64 (.int .i64 (.int .i64 (.int .i64 (.int .i64 (.int .i64 (.sl (.int .i64 (.nil)) (.nil)))))))))))) (by kernel_rfl) (hval 0 59 v0 rfl rfl) h0
  obtain ⟨X1, o1, e1⟩ := param_open (ty := .str (.sl (.int .i64 (.int .i64 (.int .i64 (.int .i64 (.int .i64 (.int .i64 (.nil))))))) (.nil))) (by kernel_rfl) (hval 1 62 v1 rfl rfl) h1
  have hr : (Go.Rv.Tryd.draymanlaw24_SagaRules_spec : FunSpec Unit).run (dynT (.int .i64 (.str (.str (.sl (.str (.int .i64 (.nil))) (.int .i64 (.int .i64 (.int .i64 (.int .i64 (.int .i64 (.int .i64 (.sl (.int .i64 (.nil)) (.nil)))))))))))) X0 ++ (dynT (.str (.sl (.int .i64 (.int .i64 (.int .i64 (.int .i64 (.int .i64 (.int .i64 (.nil))))))) (.nil))) X1 ++ [])) lawK = some () := by
    have e : (Go.Rv.Tryd.draymanlaw24_SagaRules_spec : FunSpec Unit).run (dynT (.int .i64 (.str (.str (.sl (.str (.int .i64 (.nil))) (.int .i64 (.int .i64 (.int .i64 (.int .i64 (.int .i64 (.int .i64 (.sl (.int .i64 (.nil)) (.nil)))))))))))) X0 ++ (dynT (.str (.sl (.int .i64 (.int .i64 (.int .i64 (.int .i64 (.int .i64 (.int .i64 (.nil))))))) (.nil))) X1 ++ [])) lawK = Go.Rv.Tryd.draymanlaw24_SagaRules X0 X1 (fun b => lawK (.bool b) []) := by kernel_rfl
    exact e.trans (Go.Rv.Tryd.SagaRules_true X0 X1 o0 o1 _)
  refine ((FunSpec.law (P := Tryd.prog) (sp := Go.Rv.Tryd.draymanlaw24_SagaRules_spec) Go.Rv.Tryd.draymanlaw24_SagaRules_ok htab (RdAll.cons e0 (RdAll.cons e1 RdAll.nil)) (dynT (.int .i64 (.str (.str (.sl (.str (.int .i64 (.nil))) (.int .i64 (.int .i64 (.int .i64 (.int .i64 (.int .i64 (.int .i64 (.sl (.int .i64 (.nil)) (.nil)))))))))))) X0 ++ (dynT (.str (.sl (.int .i64 (.int .i64 (.int .i64 (.int .i64 (.int .i64 (.int .i64 (.nil))))))) (.nil))) X1 ++ [])) (by kernel_rfl) rfl hr).mono fun e W' hh => ?_)
  obtain ⟨he, bel⟩ := hh
  subst he
  exact ⟨_, rfl, _, _, _, [], _, [], hW', trodAll_mk1 (shut_bool Tryd.underlying4 _), (trodAll_cons_mk (Below.trod laidOut (by kernel_rfl) (of_decide_eq_true (by kernel_rfl)) h0 bel lt0) (trodAll_cons_mk (Below.trod laidOut (by kernel_rfl) (of_decide_eq_true (by kernel_rfl)) h1 bel lt1) trodAll_mk0)), rfl, bel.frame _, fun h => by cases h⟩
theorem over : Rows.sagaRulesRow.holds Tryd.pinned (OpenSpec.ofChange Rows.sagaRulesSpec) :=
  OpenClaim.holds_of_wide 10 Tryd.f10 rfl rfl rfl rfl rfl rfl rfl ⟨rfl, rfl, rfl, rfl, rfl⟩ rfl rfl rfl rfl rfl (by kernel_rfl) Tryd.func10 (by kernel_rfl)
    (of_decide_eq_true (by kernel_rfl)) (by unfold Func.isWrapper; first | (rw [if_pos (by decide +kernel)]; kernel_rfl) | (rw [if_neg (by decide +kernel)]; exact ⟨rfl, rfl⟩))
    (fun os started H enc _ => lifted os started H enc)
theorem card : Rows.SagaRulesCardSaid :=
  Claim7.holds_tied_plain_at .later [] [.data, .pinned] true (true, "22d094b246c32aac10524d834b19935eae640dea1df61806da43543ce79630cc") false over (fun _ h => by cases h) (by kernel_rfl) (fun _ h => by cases h) sagaRules_row_tie rfl ⟨rfl, rfl⟩ (by kernel_rfl) rfl
    (fun f fn hf hfn => by
      obtain rfl : f = 10 := Option.some.inj ((show Tryd.prog.funcNamed "drayman/draymanlaw24.SagaRules" = some 10 by kernel_rfl).symm.trans hf) |>.symm
      obtain rfl : fn = Tryd.f10 := (Option.some.inj (Tryd.func10.symm.trans hfn)).symm
      exact ⟨by kernel_rfl, fun j t ht => by
        rw [Tryd.params10] at ht
        have hm : t ∈ [59, 62] := by simpa using Array.mem_of_getElem? ht
        have hall : ([59, 62].all fun u => !Tryd.prog.wantsStandIn u) = true := by kernel_rfl
        exact (show Tryd.prog.wantsStandIn t = false by simpa using List.all_eq_true.1 hall t hm)⟩)
    (by kernel_rfl)
end Go.Proofs.YtmoeohjaafpmgaaDoor.sagaRules
namespace Go.Proofs.YtmoeohjaafpmgaaDoor
/-- The card, under a short name, for the claim. -/
theorem sagaRules_holds : Rows.SagaRulesCardSaid := sagaRules.card
#print axioms sagaRules_holds
end Go.Proofs.YtmoeohjaafpmgaaDoor
