/- HoldsTell: whatever the input, the law's function returns true, and what was handed in reads as before; the card, tied. Condition: package unicode/utf8's two tables are as the program's text lays them (the card ties that). Written by a program (lawrowt.py). -/
import Derived.Test.YtmoeohjaafpmgaaDoorE3
import Derived.Test.YtmoeohjaafpmgaaDoorTie
import Derived.Test.YtmoeohjaafpmgaaDoorCards
import Derived.Test.YtmoeohjaafpmgaaDoorPureHoldsTell
import Derived.Test.YtmoeohjaafpmgaaDoorRvQ
import Derived.WalkKit
import Derived.ProofKit
import Derived.OpenShut
import Derived.ShutString
import Derived.ChangeOld
import Derived.Below
import Derived.SizedLaws
import Derived.LaidMore
import Derived.Lay
import Derived.SevenTiedAt
import Derived.Stop.Joined
import Derived.Lib.LaidU8T
import Derived.PinnedBridge
namespace Go.Proofs.YtmoeohjaafpmgaaDoor.holdsTell
open Go Go.Rv Go.ChangeShapes Go.WideShapes Go.ChangeAt Go.RowKit
set_option linter.unusedVariables false
theorem own : ownKnob Tryd.prog.godebug = none := by kernel_rfl
theorem laidOut : laidOutB Tryd.prog = true := by kernel_rfl
abbrev laidL : List (String × DataW Unit) := [("unicode/utf8.acceptRanges", Rows.laid_unicode_utf8_acceptRanges), ("unicode/utf8.first", Rows.laid_unicode_utf8_first)]
set_option maxRecDepth 100000 in
theorem tabs {W : World} (h : laidMetH Tryd.prog laidL W) : Fx.tab W := by
  rw [MakeChecks.laidMetH_plain _ _ _ (by kernel_rfl)] at h
  exact utf8Tabs_of_readsT (ρ := Go.Rv.Tryd.layValid_ren) (U8Types.of196 Go.Rv.Tryd.layValid) ⟨by kernel_rfl, by kernel_rfl, by kernel_rfl, by kernel_rfl, by kernel_rfl, by kernel_rfl, by kernel_rfl⟩
    (Pinned.utf8First_eq ▸ (show Go.Lib.VarReads _ _ _ Pinned.utf8First from Go.Lib.laidMet.reads h (.tail _ (.head _)))) (Go.Lib.laidMet.reads h (.head _))
set_option maxRecDepth 100000 in
theorem lifted (os : Os) (started : os.Started) (H : Type) (enc : TypeId × Value → H) :
    ReturnsInHanded {} Tryd.checked os 8 .any (fun w args => (Rows.holdsTellSpec.pre enc Tryd.prog Tryd.f8 Rows.holdsTellRow.domain false w args ∧ laidMetH Tryd.prog laidL w) ∧ sizedMet enc Tryd.prog Tryd.f8 (OpenSpec.ofChange Rows.holdsTellSpec) false w args) (Rows.holdsTellSpec.post enc Tryd.prog Tryd.f8 false true false false) := by
  refine returnsInHanded_of_change_and (C := Tryd.checked) (X := fun w _ => laidMetH Tryd.prog laidL w) (fun _ _ _ hh h => h.of_heap hh) own started (by kernel_rfl) Tryd.func8
    (ChangeSpec.witness_shaped (enc := enc) (C := Tryd.checked) (os := os) (X := fun w _ => laidMetH Tryd.prog laidL w) false (World.laidAll Tryd.prog os laidL) #[.slice none 0 0, .slice none 0 0, .int .i64 0, .string ByteArray.empty] 8 (World.laidAll_os _ _ _)
      (World.shaped_of_ZipB (by kernel_rfl) (by kernel_rfl)) (by kernel_rfl) (by kernel_rfl) (by kernel_rfl)
      (by rw [MakeChecks.laidMetH_plain _ _ _ (by kernel_rfl)]; exact laidMet_laidAll _ (by kernel_rfl) (by kernel_rfl))) ?_
  intro W base args ds gs before hval0 hW hcnd hsz0 hL _
  have htab : Fx.tab W := tabs hL
  have hval : ∀ (j : Nat) t v, Tryd.f8.params[j]? = some t → args[j]? = some v → Value.okWide Tryd.prog W .any base t v := hval0
  have hW' := hW
  obtain ⟨p, q, hA0, hV, rfl, hfz, hnd⟩ := hW
  have hA : DataW.TrodAll enc Tryd.prog W 0 (fun _ => true) true Tryd.f8.params.toList args.toList ds p := hA0
  rw [Tryd.params8] at hA hval
  obtain ⟨v0, vs0, d0, ds0, p0, q0, hargs, rfl, rfl, h0, r0⟩ := trodAll_cons hA
  obtain ⟨v1, vs1, d1, ds1, p1, q1, rfl, rfl, rfl, h1, r1⟩ := trodAll_cons r0
  obtain ⟨v2, vs2, d2, ds2, p2, q2, rfl, rfl, rfl, h2, r2⟩ := trodAll_cons r1
  obtain ⟨v3, vs3, d3, ds3, p3, q3, rfl, rfl, rfl, h3, r3⟩ := trodAll_cons r2
  obtain ⟨rfl, rfl, rfl⟩ := trodAll_nil r3
  obtain rfl : args = #[v0, v1, v2, v3] := by cases args; simp_all
  obtain ⟨rfl, rfl⟩ := trodVars_none hV
  have lt := hW'.lt
  have lt0 : ∀ x ∈ p0, x.block < W.heap.size := fun x hx => lt x (by simp [hx])
  have lt1 : ∀ x ∈ p1, x.block < W.heap.size := fun x hx => lt x (by simp [hx])
  have lt2 : ∀ x ∈ p2, x.block < W.heap.size := fun x hx => lt x (by simp [hx])
  have lt3 : ∀ x ∈ p3, x.block < W.heap.size := fun x hx => lt x (by simp [hx])
  obtain ⟨X0, o0, e0⟩ := param_open (ty := .sl (.int .i64 (.sl (.str (.int .i64 (.nil))) (.int .i64 (.nil)))) (.nil)) (by kernel_rfl) (hval 0 38 v0 rfl rfl) h0
  obtain ⟨X1, o1, e1⟩ := param_open (ty := .sl (.int .i64 (.sl (.str (.int .i64 (.nil))) (.int .i64 (.nil)))) (.nil)) (by kernel_rfl) (hval 1 38 v1 rfl rfl) h1
  obtain ⟨X2, o2, e2⟩ := param_open (ty := .int .i64 (.nil)) (by kernel_rfl) (hval 2 3 v2 rfl rfl) h2
  obtain ⟨X3, o3, e3⟩ := param_open (ty := .str (.nil)) (by kernel_rfl) (hval 3 9 v3 rfl rfl) h3
  have hr : (Go.Rv.Tryd.draymanlaw13_HoldsTell_spec : FunSpec Unit).run (dynT (.sl (.int .i64 (.sl (.str (.int .i64 (.nil))) (.int .i64 (.nil)))) (.nil)) X0 ++ (dynT (.sl (.int .i64 (.sl (.str (.int .i64 (.nil))) (.int .i64 (.nil)))) (.nil)) X1 ++ (dynT (.int .i64 (.nil)) X2 ++ (dynT (.str (.nil)) X3 ++ [])))) lawK = some () := by
    have e : (Go.Rv.Tryd.draymanlaw13_HoldsTell_spec : FunSpec Unit).run (dynT (.sl (.int .i64 (.sl (.str (.int .i64 (.nil))) (.int .i64 (.nil)))) (.nil)) X0 ++ (dynT (.sl (.int .i64 (.sl (.str (.int .i64 (.nil))) (.int .i64 (.nil)))) (.nil)) X1 ++ (dynT (.int .i64 (.nil)) X2 ++ (dynT (.str (.nil)) X3 ++ [])))) lawK = Go.Rv.Tryd.draymanlaw13_HoldsTell X0.1 X1.1 X2.1 X3.1 (fun b => lawK (.bool b) []) := by kernel_rfl
    exact e.trans (Go.Rv.Tryd.HoldsTell_true X0 X1 X2 X3 o0 o1 o2 o3 _)
  refine ((FunSpec.law (P := Tryd.prog) (sp := Go.Rv.Tryd.draymanlaw13_HoldsTell_spec) Go.Rv.Tryd.draymanlaw13_HoldsTell_ok htab (RdAll.cons e0 (RdAll.cons e1 (RdAll.cons e2 (RdAll.cons e3 RdAll.nil)))) (dynT (.sl (.int .i64 (.sl (.str (.int .i64 (.nil))) (.int .i64 (.nil)))) (.nil)) X0 ++ (dynT (.sl (.int .i64 (.sl (.str (.int .i64 (.nil))) (.int .i64 (.nil)))) (.nil)) X1 ++ (dynT (.int .i64 (.nil)) X2 ++ (dynT (.str (.nil)) X3 ++ [])))) (by kernel_rfl) rfl hr).mono fun e W' hh => ?_)
  obtain ⟨he, bel⟩ := hh
  subst he
  exact ⟨_, rfl, _, _, _, [], _, [], hW', trodAll_mk1 (shut_bool Tryd.underlying4 _), (trodAll_cons_mk (Below.trod laidOut (by kernel_rfl) (of_decide_eq_true (by kernel_rfl)) h0 bel lt0) (trodAll_cons_mk (Below.trod laidOut (by kernel_rfl) (of_decide_eq_true (by kernel_rfl)) h1 bel lt1) (trodAll_cons_mk (Below.trod laidOut (by kernel_rfl) (of_decide_eq_true (by kernel_rfl)) h2 bel lt2) (trodAll_cons_mk (Below.trod laidOut (by kernel_rfl) (of_decide_eq_true (by kernel_rfl)) h3 bel lt3) trodAll_mk0)))), rfl, bel.frame _, fun h => by cases h⟩
theorem over : Rows.holdsTellRow.holds Tryd.pinned (OpenSpec.ofChange Rows.holdsTellSpec) :=
  OpenClaim.holds_of_wide 8 Tryd.f8 rfl rfl rfl rfl rfl rfl rfl ⟨rfl, rfl, rfl, rfl, rfl⟩ rfl rfl rfl rfl rfl (by kernel_rfl) Tryd.func8 (by kernel_rfl)
    (of_decide_eq_true (by kernel_rfl)) (by unfold Func.isWrapper; first | (rw [if_pos (by decide +kernel)]; kernel_rfl) | (rw [if_neg (by decide +kernel)]; exact ⟨rfl, rfl⟩))
    (fun os started H enc _ => lifted os started H enc)
theorem card : Rows.HoldsTellCardSaid :=
  Claim7.holds_tied_plain_at .later [] [.data, .pinned] true (true, "22d094b246c32aac10524d834b19935eae640dea1df61806da43543ce79630cc") false over (fun _ h => by cases h) (by kernel_rfl) (fun _ h => by cases h) holdsTell_row_tie rfl ⟨rfl, rfl⟩ (by kernel_rfl) rfl
    (fun f fn hf hfn => by
      obtain rfl : f = 8 := Option.some.inj ((show Tryd.prog.funcNamed "drayman/draymanlaw13.HoldsTell" = some 8 by kernel_rfl).symm.trans hf) |>.symm
      obtain rfl : fn = Tryd.f8 := (Option.some.inj (Tryd.func8.symm.trans hfn)).symm
      exact ⟨by kernel_rfl, fun j t ht => by
        rw [Tryd.params8] at ht
        have hm : t ∈ [38, 38, 3, 9] := by simpa using Array.mem_of_getElem? ht
        have hall : ([38, 38, 3, 9].all fun u => !Tryd.prog.wantsStandIn u) = true := by kernel_rfl
        exact (show Tryd.prog.wantsStandIn t = false by simpa using List.all_eq_true.1 hall t hm)⟩)
    (by kernel_rfl)
end Go.Proofs.YtmoeohjaafpmgaaDoor.holdsTell
namespace Go.Proofs.YtmoeohjaafpmgaaDoor
/-- The card, under a short name, for the claim. -/
theorem holdsTell_holds : Rows.HoldsTellCardSaid := holdsTell.card
#print axioms holdsTell_holds
end Go.Proofs.YtmoeohjaafpmgaaDoor
