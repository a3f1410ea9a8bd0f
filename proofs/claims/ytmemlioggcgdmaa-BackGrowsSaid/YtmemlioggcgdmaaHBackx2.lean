-- WRITTEN BY A PROGRAM OF THIS SESSION (wip/tools/myprint.py, over the kit's printer), with texts proved by hand among it
import Derived.Test.YtmemlioggcgdmaaHBackx0
import Derived.Test.YtmemlioggcgdmaaHBackx1
namespace Go.Proofs.Ytmemlioggcgdmaa.HBack
open Go.RowKit Go.Proofs.YtmemlioggcgdmaaW.PrintWords Go.Proofs.YtmemlioggcgdmaaW.PrintLast Go.Proofs.YtmemlioggcgdmaaW.PrintMore
attribute [local go_sem] max2_int min2_int max_two min_two max_three min_three max_four min_four   -- for this text's walks alone
set_option linter.unusedVariables false
set_option linter.unusedSimpArgs false

/-! ### draymanlaw15_BackTells: function 3 -/
def draymanlaw15_BackTells.f (k : Nat) (a0 : Int) (a1 : Int) (a2 : Int) (a3 : Int) : Option (Bool) := (back_Fit.f a0 a1 a2).bind fun t114 => ((draymanref15_Fit.f a0 a1 a2).bind fun t115 => (if (t114 == t115) = true then ((back_Delay.f k a1 a2 a3).bind fun t116 => ((draymanref15_Delay.f k a1 a2 a3).bind fun t117 => (if t116 = t117 then ((back_Whole.f k a0 a1 a2).bind fun t118 => ((draymanref15_Whole.f k a0 a1 a2).bind fun t119 => (if t118 = t119 then ((back_Last.f a0 a3).bind fun t120 => ((draymanref15_Last.f a0 a3).bind fun t121 => (if (t120 == t121) = true then ((draymanlaw15_awake.f k).bind fun t122 => (some t122)) else (some false)))) else (some false)))) else (some false)))) else (some false)))
theorem draymanlaw15_BackTells.mono : ∀ a0 a1 a2 a3 k, LeO (draymanlaw15_BackTells.f k a0 a1 a2 a3) (draymanlaw15_BackTells.f (k + 1) a0 a1 a2 a3) := by
  intro a0 a1 a2 a3 k
  unfold draymanlaw15_BackTells.f
  repeat' first
      | (with_reducible exact back_Delay.mono _ _ _ _)
      | (with_reducible exact back_Whole.mono _ _ _ _)
      | (with_reducible exact draymanlaw15_awake.mono _)
      | (with_reducible exact draymanref15_Delay.mono _ _ _ _)
      | (with_reducible exact draymanref15_Whole.mono _ _ _ _)
      | (with_reducible exact LeO.refl _)
      | (with_reducible exact LeO.none _)
      | (with_reducible refine LeO.ite ?_ ?_)
      | (with_reducible refine LeO.bind ?_ (fun _ => ?_))
      | exact back_Delay.mono _ _ _ _
      | exact back_Whole.mono _ _ _ _
      | exact draymanlaw15_awake.mono _
      | exact draymanref15_Delay.mono _ _ _ _
      | exact draymanref15_Whole.mono _ _ _ _
      | exact LeO.none _
      | refine LeO.ite ?_ ?_
      | refine LeO.bind ?_ (fun _ => ?_)
set_option maxHeartbeats 8000000 in
set_option maxRecDepth 100000 in
theorem draymanlaw15_BackTells.calls (k : Nat) (a0 : Int) (a1 : Int) (a2 : Int) (a3 : Int) (r : Bool) (w : World) (h : draymanlaw15_BackTells.f k a0 a1 a2 a3 = some r) :
    Calls Try.prog 3 #[.int .i64 a0, .int .i64 a1, .int .i64 a2, .int .i64 a3] w fun e w' => e = .returned (.bool r) ∧ Below w.heap.size w w' := by
  have HB := Aside0.mk (Below.refl w.heap.size w)
  have H : ((back_Fit.f a0 a1 a2).bind fun t114 => ((draymanref15_Fit.f a0 a1 a2).bind fun t115 => (if (t114 == t115) = true then ((back_Delay.f k a1 a2 a3).bind fun t116 => ((draymanref15_Delay.f k a1 a2 a3).bind fun t117 => (if t116 = t117 then ((back_Whole.f k a0 a1 a2).bind fun t118 => ((draymanref15_Whole.f k a0 a1 a2).bind fun t119 => (if t118 = t119 then ((back_Last.f a0 a3).bind fun t120 => ((draymanref15_Last.f a0 a3).bind fun t121 => (if (t120 == t121) = true then ((draymanlaw15_awake.f k).bind fun t122 => (some t122)) else (some false)))) else (some false)))) else (some false)))) else (some false)))) = some r := h
  clear h
  replace H := Option.bind_eq_some_iff.mp H
  obtain ⟨t114, A50, H⟩ := H
  replace H : ((draymanref15_Fit.f a0 a1 a2).bind fun t115 => (if (t114 == t115) = true then ((back_Delay.f k a1 a2 a3).bind fun t116 => ((draymanref15_Delay.f k a1 a2 a3).bind fun t117 => (if t116 = t117 then ((back_Whole.f k a0 a1 a2).bind fun t118 => ((draymanref15_Whole.f k a0 a1 a2).bind fun t119 => (if t118 = t119 then ((back_Last.f a0 a3).bind fun t120 => ((draymanref15_Last.f a0 a3).bind fun t121 => (if (t120 == t121) = true then ((draymanlaw15_awake.f k).bind fun t122 => (some t122)) else (some false)))) else (some false)))) else (some false)))) else (some false))) = some r := H
  have A5 := Aside0.mk A50
  clear A50
  replace H := Option.bind_eq_some_iff.mp H
  obtain ⟨t115, A60, H⟩ := H
  replace H : (if (t114 == t115) = true then ((back_Delay.f k a1 a2 a3).bind fun t116 => ((draymanref15_Delay.f k a1 a2 a3).bind fun t117 => (if t116 = t117 then ((back_Whole.f k a0 a1 a2).bind fun t118 => ((draymanref15_Whole.f k a0 a1 a2).bind fun t119 => (if t118 = t119 then ((back_Last.f a0 a3).bind fun t120 => ((draymanref15_Last.f a0 a3).bind fun t121 => (if (t120 == t121) = true then ((draymanlaw15_awake.f k).bind fun t122 => (some t122)) else (some false)))) else (some false)))) else (some false)))) else (some false)) = some r := H
  have A6 := Aside0.mk A60
  clear A60
  by_cases c7 : (t114 == t115) = true
  · rw [if_pos c7] at H
    have c7b0 : (t114 == t115) = true := c7
    (try (have c7b1 : decide (t114 = t115) = true := by simpa using c7))
    (try (have c7b2 : (t114 == t115) = true := by simpa using c7))
    clear c7
    replace H := Option.bind_eq_some_iff.mp H
    obtain ⟨t116, A80, H⟩ := H
    replace H : ((draymanref15_Delay.f k a1 a2 a3).bind fun t117 => (if t116 = t117 then ((back_Whole.f k a0 a1 a2).bind fun t118 => ((draymanref15_Whole.f k a0 a1 a2).bind fun t119 => (if t118 = t119 then ((back_Last.f a0 a3).bind fun t120 => ((draymanref15_Last.f a0 a3).bind fun t121 => (if (t120 == t121) = true then ((draymanlaw15_awake.f k).bind fun t122 => (some t122)) else (some false)))) else (some false)))) else (some false))) = some r := H
    have A8 := Aside0.mk A80
    clear A80
    replace H := Option.bind_eq_some_iff.mp H
    obtain ⟨t117, A90, H⟩ := H
    replace H : (if t116 = t117 then ((back_Whole.f k a0 a1 a2).bind fun t118 => ((draymanref15_Whole.f k a0 a1 a2).bind fun t119 => (if t118 = t119 then ((back_Last.f a0 a3).bind fun t120 => ((draymanref15_Last.f a0 a3).bind fun t121 => (if (t120 == t121) = true then ((draymanlaw15_awake.f k).bind fun t122 => (some t122)) else (some false)))) else (some false)))) else (some false)) = some r := H
    have A9 := Aside0.mk A90
    clear A90
    by_cases c10 : t116 = t117
    · rw [if_pos c10] at H
      have c10b0 : (t116 == t117) = true := beq_iff_eq.mpr c10
      have c10b1 : (t116 != t117) = false := bne_eq_false_iff_eq.mpr c10
      clear c10
      replace H := Option.bind_eq_some_iff.mp H
      obtain ⟨t118, A110, H⟩ := H
      replace H : ((draymanref15_Whole.f k a0 a1 a2).bind fun t119 => (if t118 = t119 then ((back_Last.f a0 a3).bind fun t120 => ((draymanref15_Last.f a0 a3).bind fun t121 => (if (t120 == t121) = true then ((draymanlaw15_awake.f k).bind fun t122 => (some t122)) else (some false)))) else (some false))) = some r := H
      have A11 := Aside0.mk A110
      clear A110
      replace H := Option.bind_eq_some_iff.mp H
      obtain ⟨t119, A120, H⟩ := H
      replace H : (if t118 = t119 then ((back_Last.f a0 a3).bind fun t120 => ((draymanref15_Last.f a0 a3).bind fun t121 => (if (t120 == t121) = true then ((draymanlaw15_awake.f k).bind fun t122 => (some t122)) else (some false)))) else (some false)) = some r := H
      have A12 := Aside0.mk A120
      clear A120
      by_cases c13 : t118 = t119
      · rw [if_pos c13] at H
        have c13b0 : (t118 == t119) = true := beq_iff_eq.mpr c13
        have c13b1 : (t118 != t119) = false := bne_eq_false_iff_eq.mpr c13
        clear c13
        replace H := Option.bind_eq_some_iff.mp H
        obtain ⟨t120, A140, H⟩ := H
        replace H : ((draymanref15_Last.f a0 a3).bind fun t121 => (if (t120 == t121) = true then ((draymanlaw15_awake.f k).bind fun t122 => (some t122)) else (some false))) = some r := H
        have A14 := Aside0.mk A140
        clear A140
        replace H := Option.bind_eq_some_iff.mp H
        obtain ⟨t121, A150, H⟩ := H
        replace H : (if (t120 == t121) = true then ((draymanlaw15_awake.f k).bind fun t122 => (some t122)) else (some false)) = some r := H
        have A15 := Aside0.mk A150
        clear A150
        by_cases c16 : (t120 == t121) = true
        · rw [if_pos c16] at H
          have c16b0 : (t120 == t121) = true := c16
          (try (have c16b1 : decide (t120 = t121) = true := by simpa using c16))
          (try (have c16b2 : (t120 == t121) = true := by simpa using c16))
          clear c16
          replace H := Option.bind_eq_some_iff.mp H
          obtain ⟨t122, A170, H⟩ := H
          replace H : (some t122) = some r := H
          have A17 := Aside0.mk A170
          clear A170
          obtain rfl := Option.some.inj H
          go_enter Try.func3, Try.ntmps3
          go_wp2_with (first | ((with_reducible refine gate_callee (f := 15) rfl ?_); refine goesL_ (some 12) rfl rfl Try.func15 (by kernel_rfl) rfl #[.int .i64 a0, .int .i64 a1, .int .i64 a2] rfl (by (try simp only [List.map_toArray, List.map_cons, List.map_nil]); first | done | rfl | (simp only [List.length_drop, List.length_take]; rfl)) ?_; (with_reducible refine (back_Fit.calls a0 a1 a2 t114 _ A5.out).mono ?_); rintro e w' ⟨rfl, ⟨nd, rfl⟩⟩; refine ⟨_, rfl, ?_⟩) | ((with_reducible refine gate_callee (f := 16) rfl ?_); refine goesL_ (some 16) rfl rfl Try.func16 (by kernel_rfl) rfl #[.int .i64 a0, .int .i64 a1, .int .i64 a2] rfl (by (try simp only [List.map_toArray, List.map_cons, List.map_nil]); first | done | rfl | (simp only [List.length_drop, List.length_take]; rfl)) ?_; (with_reducible refine (draymanref15_Fit.calls a0 a1 a2 t115 _ A6.out).mono ?_); rintro e w' ⟨rfl, ⟨nd, rfl⟩⟩; refine ⟨_, rfl, ?_⟩) | (go_at_call 17; (with_reducible refine (back_Delay.calls k a1 a2 a3 t116 _ A8.out).mono ?_); rintro e w18 ⟨rfl, hb⟩; have n0_ := Aside0.mk (below_step (by repeat (first | (with_reducible first | exact HB.out | apply below_alloc | apply pw_below_drewN | apply below_drew1) | exact HB.out)) hb); clear HB; have HB := n0_; clear n0_; (try clear hb); (try clear hb2); (try clear hk); (try clear hi)) | (go_at_call 18; (with_reducible refine (draymanref15_Delay.calls k a1 a2 a3 t117 _ A9.out).mono ?_); rintro e w19 ⟨rfl, hb⟩; have n0_ := Aside0.mk (below_step (by repeat (first | (with_reducible first | exact HB.out | apply below_alloc | apply pw_below_drewN | apply below_drew1) | exact HB.out)) hb); clear HB; have HB := n0_; clear n0_; (try clear hb); (try clear hb2); (try clear hk); (try clear hi)) | (go_at_call 19; (with_reducible refine (back_Whole.calls k a0 a1 a2 t118 _ A11.out).mono ?_); rintro e w20 ⟨rfl, hb⟩; have n0_ := Aside0.mk (below_step (by repeat (first | (with_reducible first | exact HB.out | apply below_alloc | apply pw_below_drewN | apply below_drew1) | exact HB.out)) hb); clear HB; have HB := n0_; clear n0_; (try clear hb); (try clear hb2); (try clear hk); (try clear hi)) | (go_at_call 20; (with_reducible refine (draymanref15_Whole.calls k a0 a1 a2 t119 _ A12.out).mono ?_); rintro e w21 ⟨rfl, hb⟩; have n0_ := Aside0.mk (below_step (by repeat (first | (with_reducible first | exact HB.out | apply below_alloc | apply pw_below_drewN | apply below_drew1) | exact HB.out)) hb); clear HB; have HB := n0_; clear n0_; (try clear hb); (try clear hb2); (try clear hk); (try clear hi)) | (go_at_call 21; (with_reducible refine (back_Last.calls a0 a3 t120 _ A14.out).mono ?_); rintro e w' ⟨rfl, ⟨nd, rfl⟩⟩) | (go_at_call 22; (with_reducible refine (draymanref15_Last.calls a0 a3 t121 _ A15.out).mono ?_); rintro e w' ⟨rfl, ⟨nd, rfl⟩⟩) | (go_at_call 23; (with_reducible refine (draymanlaw15_awake.calls k  t122 _ A17.out).mono ?_); rintro e w22 ⟨rfl, hb⟩; have n0_ := Aside0.mk (below_step (by repeat (first | (with_reducible first | exact HB.out | apply below_alloc | apply pw_below_drewN | apply below_drew1) | exact HB.out)) hb); clear HB; have HB := n0_; clear n0_; (try clear hb); (try clear hb2); (try clear hk); (try clear hi)))
          go_ret
          exact ⟨by first | rfl | (simp [errW_none, errW_some] <;> rfl) | (simp [*, errW_none, errW_some] <;> rfl), by repeat (first | (with_reducible first | exact HB.out | apply below_alloc | apply pw_below_drewN | apply below_drew1) | exact HB.out)⟩
        · rw [if_neg c16] at H
          have c16b0 : (t120 == t121) = false := by simpa using c16
          (try (have c16b1 : decide (t120 = t121) = false := by simpa using c16))
          (try (have c16b2 : (t120 == t121) = false := by simpa using c16))
          (try (have c16b3 : ¬ (t120 = t121) := by simpa using c16))
          clear c16
          obtain rfl := Option.some.inj H
          go_enter Try.func3, Try.ntmps3
          go_wp2_with (first | ((with_reducible refine gate_callee (f := 15) rfl ?_); refine goesL_ (some 12) rfl rfl Try.func15 (by kernel_rfl) rfl #[.int .i64 a0, .int .i64 a1, .int .i64 a2] rfl (by (try simp only [List.map_toArray, List.map_cons, List.map_nil]); first | done | rfl | (simp only [List.length_drop, List.length_take]; rfl)) ?_; (with_reducible refine (back_Fit.calls a0 a1 a2 t114 _ A5.out).mono ?_); rintro e w' ⟨rfl, ⟨nd, rfl⟩⟩; refine ⟨_, rfl, ?_⟩) | ((with_reducible refine gate_callee (f := 16) rfl ?_); refine goesL_ (some 16) rfl rfl Try.func16 (by kernel_rfl) rfl #[.int .i64 a0, .int .i64 a1, .int .i64 a2] rfl (by (try simp only [List.map_toArray, List.map_cons, List.map_nil]); first | done | rfl | (simp only [List.length_drop, List.length_take]; rfl)) ?_; (with_reducible refine (draymanref15_Fit.calls a0 a1 a2 t115 _ A6.out).mono ?_); rintro e w' ⟨rfl, ⟨nd, rfl⟩⟩; refine ⟨_, rfl, ?_⟩) | (go_at_call 17; (with_reducible refine (back_Delay.calls k a1 a2 a3 t116 _ A8.out).mono ?_); rintro e w23 ⟨rfl, hb⟩; have n0_ := Aside0.mk (below_step (by repeat (first | (with_reducible first | exact HB.out | apply below_alloc | apply pw_below_drewN | apply below_drew1) | exact HB.out)) hb); clear HB; have HB := n0_; clear n0_; (try clear hb); (try clear hb2); (try clear hk); (try clear hi)) | (go_at_call 18; (with_reducible refine (draymanref15_Delay.calls k a1 a2 a3 t117 _ A9.out).mono ?_); rintro e w24 ⟨rfl, hb⟩; have n0_ := Aside0.mk (below_step (by repeat (first | (with_reducible first | exact HB.out | apply below_alloc | apply pw_below_drewN | apply below_drew1) | exact HB.out)) hb); clear HB; have HB := n0_; clear n0_; (try clear hb); (try clear hb2); (try clear hk); (try clear hi)) | (go_at_call 19; (with_reducible refine (back_Whole.calls k a0 a1 a2 t118 _ A11.out).mono ?_); rintro e w25 ⟨rfl, hb⟩; have n0_ := Aside0.mk (below_step (by repeat (first | (with_reducible first | exact HB.out | apply below_alloc | apply pw_below_drewN | apply below_drew1) | exact HB.out)) hb); clear HB; have HB := n0_; clear n0_; (try clear hb); (try clear hb2); (try clear hk); (try clear hi)) | (go_at_call 20; (with_reducible refine (draymanref15_Whole.calls k a0 a1 a2 t119 _ A12.out).mono ?_); rintro e w26 ⟨rfl, hb⟩; have n0_ := Aside0.mk (below_step (by repeat (first | (with_reducible first | exact HB.out | apply below_alloc | apply pw_below_drewN | apply below_drew1) | exact HB.out)) hb); clear HB; have HB := n0_; clear n0_; (try clear hb); (try clear hb2); (try clear hk); (try clear hi)) | (go_at_call 21; (with_reducible refine (back_Last.calls a0 a3 t120 _ A14.out).mono ?_); rintro e w' ⟨rfl, ⟨nd, rfl⟩⟩) | (go_at_call 22; (with_reducible refine (draymanref15_Last.calls a0 a3 t121 _ A15.out).mono ?_); rintro e w' ⟨rfl, ⟨nd, rfl⟩⟩))
          go_ret
          exact ⟨by first | rfl | (simp [errW_none, errW_some] <;> rfl) | (simp [*, errW_none, errW_some] <;> rfl), by repeat (first | (with_reducible first | exact HB.out | apply below_alloc | apply pw_below_drewN | apply below_drew1) | exact HB.out)⟩
      · rw [if_neg c13] at H
        have c13b0 : (t118 == t119) = false := beq_eq_false_iff_ne.mpr c13
        have c13b1 : (t118 != t119) = true := bne_iff_ne.mpr c13
        obtain rfl := Option.some.inj H
        go_enter Try.func3, Try.ntmps3
        go_wp2_with (first | ((with_reducible refine gate_callee (f := 15) rfl ?_); refine goesL_ (some 12) rfl rfl Try.func15 (by kernel_rfl) rfl #[.int .i64 a0, .int .i64 a1, .int .i64 a2] rfl (by (try simp only [List.map_toArray, List.map_cons, List.map_nil]); first | done | rfl | (simp only [List.length_drop, List.length_take]; rfl)) ?_; (with_reducible refine (back_Fit.calls a0 a1 a2 t114 _ A5.out).mono ?_); rintro e w' ⟨rfl, ⟨nd, rfl⟩⟩; refine ⟨_, rfl, ?_⟩) | ((with_reducible refine gate_callee (f := 16) rfl ?_); refine goesL_ (some 16) rfl rfl Try.func16 (by kernel_rfl) rfl #[.int .i64 a0, .int .i64 a1, .int .i64 a2] rfl (by (try simp only [List.map_toArray, List.map_cons, List.map_nil]); first | done | rfl | (simp only [List.length_drop, List.length_take]; rfl)) ?_; (with_reducible refine (draymanref15_Fit.calls a0 a1 a2 t115 _ A6.out).mono ?_); rintro e w' ⟨rfl, ⟨nd, rfl⟩⟩; refine ⟨_, rfl, ?_⟩) | (go_at_call 17; (with_reducible refine (back_Delay.calls k a1 a2 a3 t116 _ A8.out).mono ?_); rintro e w27 ⟨rfl, hb⟩; have n0_ := Aside0.mk (below_step (by repeat (first | (with_reducible first | exact HB.out | apply below_alloc | apply pw_below_drewN | apply below_drew1) | exact HB.out)) hb); clear HB; have HB := n0_; clear n0_; (try clear hb); (try clear hb2); (try clear hk); (try clear hi)) | (go_at_call 18; (with_reducible refine (draymanref15_Delay.calls k a1 a2 a3 t117 _ A9.out).mono ?_); rintro e w28 ⟨rfl, hb⟩; have n0_ := Aside0.mk (below_step (by repeat (first | (with_reducible first | exact HB.out | apply below_alloc | apply pw_below_drewN | apply below_drew1) | exact HB.out)) hb); clear HB; have HB := n0_; clear n0_; (try clear hb); (try clear hb2); (try clear hk); (try clear hi)) | (go_at_call 19; (with_reducible refine (back_Whole.calls k a0 a1 a2 t118 _ A11.out).mono ?_); rintro e w29 ⟨rfl, hb⟩; have n0_ := Aside0.mk (below_step (by repeat (first | (with_reducible first | exact HB.out | apply below_alloc | apply pw_below_drewN | apply below_drew1) | exact HB.out)) hb); clear HB; have HB := n0_; clear n0_; (try clear hb); (try clear hb2); (try clear hk); (try clear hi)) | (go_at_call 20; (with_reducible refine (draymanref15_Whole.calls k a0 a1 a2 t119 _ A12.out).mono ?_); rintro e w30 ⟨rfl, hb⟩; have n0_ := Aside0.mk (below_step (by repeat (first | (with_reducible first | exact HB.out | apply below_alloc | apply pw_below_drewN | apply below_drew1) | exact HB.out)) hb); clear HB; have HB := n0_; clear n0_; (try clear hb); (try clear hb2); (try clear hk); (try clear hi)))
        go_ret
        exact ⟨by first | rfl | (simp [errW_none, errW_some] <;> rfl) | (simp [*, errW_none, errW_some] <;> rfl), by repeat (first | (with_reducible first | exact HB.out | apply below_alloc | apply pw_below_drewN | apply below_drew1) | exact HB.out)⟩
    · rw [if_neg c10] at H
      have c10b0 : (t116 == t117) = false := beq_eq_false_iff_ne.mpr c10
      have c10b1 : (t116 != t117) = true := bne_iff_ne.mpr c10
      obtain rfl := Option.some.inj H
      go_enter Try.func3, Try.ntmps3
      go_wp2_with (first | ((with_reducible refine gate_callee (f := 15) rfl ?_); refine goesL_ (some 12) rfl rfl Try.func15 (by kernel_rfl) rfl #[.int .i64 a0, .int .i64 a1, .int .i64 a2] rfl (by (try simp only [List.map_toArray, List.map_cons, List.map_nil]); first | done | rfl | (simp only [List.length_drop, List.length_take]; rfl)) ?_; (with_reducible refine (back_Fit.calls a0 a1 a2 t114 _ A5.out).mono ?_); rintro e w' ⟨rfl, ⟨nd, rfl⟩⟩; refine ⟨_, rfl, ?_⟩) | ((with_reducible refine gate_callee (f := 16) rfl ?_); refine goesL_ (some 16) rfl rfl Try.func16 (by kernel_rfl) rfl #[.int .i64 a0, .int .i64 a1, .int .i64 a2] rfl (by (try simp only [List.map_toArray, List.map_cons, List.map_nil]); first | done | rfl | (simp only [List.length_drop, List.length_take]; rfl)) ?_; (with_reducible refine (draymanref15_Fit.calls a0 a1 a2 t115 _ A6.out).mono ?_); rintro e w' ⟨rfl, ⟨nd, rfl⟩⟩; refine ⟨_, rfl, ?_⟩) | (go_at_call 17; (with_reducible refine (back_Delay.calls k a1 a2 a3 t116 _ A8.out).mono ?_); rintro e w31 ⟨rfl, hb⟩; have n0_ := Aside0.mk (below_step (by repeat (first | (with_reducible first | exact HB.out | apply below_alloc | apply pw_below_drewN | apply below_drew1) | exact HB.out)) hb); clear HB; have HB := n0_; clear n0_; (try clear hb); (try clear hb2); (try clear hk); (try clear hi)) | (go_at_call 18; (with_reducible refine (draymanref15_Delay.calls k a1 a2 a3 t117 _ A9.out).mono ?_); rintro e w32 ⟨rfl, hb⟩; have n0_ := Aside0.mk (below_step (by repeat (first | (with_reducible first | exact HB.out | apply below_alloc | apply pw_below_drewN | apply below_drew1) | exact HB.out)) hb); clear HB; have HB := n0_; clear n0_; (try clear hb); (try clear hb2); (try clear hk); (try clear hi)))
      go_ret
      exact ⟨by first | rfl | (simp [errW_none, errW_some] <;> rfl) | (simp [*, errW_none, errW_some] <;> rfl), by repeat (first | (with_reducible first | exact HB.out | apply below_alloc | apply pw_below_drewN | apply below_drew1) | exact HB.out)⟩
  · rw [if_neg c7] at H
    have c7b0 : (t114 == t115) = false := by simpa using c7
    (try (have c7b1 : decide (t114 = t115) = false := by simpa using c7))
    (try (have c7b2 : (t114 == t115) = false := by simpa using c7))
    (try (have c7b3 : ¬ (t114 = t115) := by simpa using c7))
    clear c7
    obtain rfl := Option.some.inj H
    go_enter Try.func3, Try.ntmps3
    go_wp2_with (first | ((with_reducible refine gate_callee (f := 15) rfl ?_); refine goesL_ (some 12) rfl rfl Try.func15 (by kernel_rfl) rfl #[.int .i64 a0, .int .i64 a1, .int .i64 a2] rfl (by (try simp only [List.map_toArray, List.map_cons, List.map_nil]); first | done | rfl | (simp only [List.length_drop, List.length_take]; rfl)) ?_; (with_reducible refine (back_Fit.calls a0 a1 a2 t114 _ A5.out).mono ?_); rintro e w' ⟨rfl, ⟨nd, rfl⟩⟩; refine ⟨_, rfl, ?_⟩) | ((with_reducible refine gate_callee (f := 16) rfl ?_); refine goesL_ (some 16) rfl rfl Try.func16 (by kernel_rfl) rfl #[.int .i64 a0, .int .i64 a1, .int .i64 a2] rfl (by (try simp only [List.map_toArray, List.map_cons, List.map_nil]); first | done | rfl | (simp only [List.length_drop, List.length_take]; rfl)) ?_; (with_reducible refine (draymanref15_Fit.calls a0 a1 a2 t115 _ A6.out).mono ?_); rintro e w' ⟨rfl, ⟨nd, rfl⟩⟩; refine ⟨_, rfl, ?_⟩))
    go_ret
    exact ⟨by first | rfl | (simp [errW_none, errW_some] <;> rfl) | (simp [*, errW_none, errW_some] <;> rfl), by repeat (first | (with_reducible first | exact HB.out | apply below_alloc | apply pw_below_drewN | apply below_drew1) | exact HB.out)⟩

/-- THE ONE PURE STATEMENT of draymanlaw15_BackTells: yours. -/
def draymanlaw15_BackTells.Pure : Prop := ∀ (a0 : Int) (a1 : Int) (a2 : Int) (a3 : Int), (Lit.int .i64 a0).wf = true → (Lit.int .i64 a1).wf = true → (Lit.int .i64 a2).wf = true → (Lit.int .i64 a3).wf = true → ∃ k, draymanlaw15_BackTells.f k a0 a1 a2 a3 = some true
theorem draymanlaw15_BackTells.walk (P : draymanlaw15_BackTells.Pure) (a0 : Int) (a1 : Int) (a2 : Int) (a3 : Int) (w : World) (w0 : (Lit.int .i64 a0).wf = true) (w1 : (Lit.int .i64 a1).wf = true) (w2 : (Lit.int .i64 a2).wf = true) (w3 : (Lit.int .i64 a3).wf = true) :
    Calls Try.prog 3 #[.int .i64 a0, .int .i64 a1, .int .i64 a2, .int .i64 a3] w fun e w' => e = .returned (.bool true) ∧ Below w.heap.size w w' := by
  obtain ⟨k, h⟩ := P a0 a1 a2 a3 w0 w1 w2 w3
  refine (draymanlaw15_BackTells.calls k a0 a1 a2 a3 true w h).mono ?_
  rintro e w' ⟨rfl, hd⟩
  exact ⟨rfl, hd⟩

/-! ### draymanlaw15_BackGrows: function 4 -/
mutual
def draymanlaw15_BackGrows.j0 : Nat → Int → Int → Int → Bool → Option (Bool)
  | 0, _, _, _, _ => none
  | k + 1, x7, x8, x9, x43 => if x43 = true then (some false) else (draymanlaw15_BackGrows.l0 k x7 x8 x9 1)
def draymanlaw15_BackGrows.l0 : Nat → Int → Int → Int → Int → Option (Bool)
  | 0, _, _, _, _ => none
  | k + 1, x7, x8, x9, x10 => if x10 ≤ 40 then ((back_Delay.f k x9 x8 x10).bind fun t128 => ((back_Delay.f k x9 x8 (wrap64 (x10 + 1))).bind fun t129 => (if t128 < x9 then (some false) else (if t128 > x8 then (some false) else (if t129 < t128 then (some false) else (if t129 = (mn (wrap64 (2 * t128)) x8) then (draymanlaw15_BackGrows.l0 k x7 x8 x9 (wrap64 (x10 + 1))) else (some false))))))) else ((back_Whole.f k x7 x9 x8).bind fun t126 => (if t126 ≥ x8 then (if t126 ≤ (wrap64 ((wrap64 (x7 + 1)) * x8)) then ((draymanlaw15_awake.f k).bind fun t127 => (some t127)) else (some false)) else (some false)))
end
def draymanlaw15_BackGrows.f (k : Nat) (a0 : Int) (a1 : Int) (a2 : Int) : Option (Bool) := if (wrap64 (1 + (Int.tmod (wrap64 (a2)) 32))) = 0 then (none) else ((back_Fit.f (Int.tmod (wrap64 (a0)) 6) (wrap64 (1 + (Int.tmod (wrap64 (a1)) (wrap64 (1 + (Int.tmod (wrap64 (a2)) 32)))))) (wrap64 (1 + (Int.tmod (wrap64 (a2)) 32)))).bind fun t123 => (if t123 = true then ((back_Delay.f k (wrap64 (1 + (Int.tmod (wrap64 (a1)) (wrap64 (1 + (Int.tmod (wrap64 (a2)) 32)))))) (wrap64 (1 + (Int.tmod (wrap64 (a2)) 32))) 1).bind fun t124 => (if t124 = (wrap64 (1 + (Int.tmod (wrap64 (a1)) (wrap64 (1 + (Int.tmod (wrap64 (a2)) 32)))))) then ((back_Delay.f k (wrap64 (1 + (Int.tmod (wrap64 (a1)) (wrap64 (1 + (Int.tmod (wrap64 (a2)) 32)))))) (wrap64 (1 + (Int.tmod (wrap64 (a2)) 32))) 0).bind fun t125 => (draymanlaw15_BackGrows.j0 k (Int.tmod (wrap64 (a0)) 6) (wrap64 (1 + (Int.tmod (wrap64 (a2)) 32))) (wrap64 (1 + (Int.tmod (wrap64 (a1)) (wrap64 (1 + (Int.tmod (wrap64 (a2)) 32)))))) (t125 != 0))) else (draymanlaw15_BackGrows.j0 k (Int.tmod (wrap64 (a0)) 6) (wrap64 (1 + (Int.tmod (wrap64 (a2)) 32))) (wrap64 (1 + (Int.tmod (wrap64 (a1)) (wrap64 (1 + (Int.tmod (wrap64 (a2)) 32)))))) true))) else (draymanlaw15_BackGrows.j0 k (Int.tmod (wrap64 (a0)) 6) (wrap64 (1 + (Int.tmod (wrap64 (a2)) 32))) (wrap64 (1 + (Int.tmod (wrap64 (a1)) (wrap64 (1 + (Int.tmod (wrap64 (a2)) 32)))))) true)))
theorem draymanlaw15_BackGrows.mono_l : ∀ k, (∀ y0 y1 y2 y3, LeO (draymanlaw15_BackGrows.j0 k y0 y1 y2 y3) (draymanlaw15_BackGrows.j0 (k + 1) y0 y1 y2 y3)) ∧ (∀ y0 y1 y2 y3, LeO (draymanlaw15_BackGrows.l0 k y0 y1 y2 y3) (draymanlaw15_BackGrows.l0 (k + 1) y0 y1 y2 y3))
  | 0 => ⟨fun _ _ _ _ r h => by simp [draymanlaw15_BackGrows.j0] at h, fun _ _ _ _ r h => by simp [draymanlaw15_BackGrows.l0] at h⟩
  | k + 1 => by
    obtain ⟨ih0, ih1⟩ := draymanlaw15_BackGrows.mono_l k
    refine ⟨?_, ?_⟩
    · intro y0 y1 y2 y3
      unfold draymanlaw15_BackGrows.j0
      repeat' first
      | (with_reducible exact ih0 _ _ _ _)
      | (with_reducible exact ih1 _ _ _ _)
      | (with_reducible exact back_Delay.mono _ _ _ _)
      | (with_reducible exact back_Whole.mono _ _ _ _)
      | (with_reducible exact draymanlaw15_awake.mono _)
      | (with_reducible exact LeO.refl _)
      | (with_reducible exact LeO.none _)
      | (with_reducible refine LeO.ite ?_ ?_)
      | (with_reducible refine LeO.bind ?_ (fun _ => ?_))
      | exact ih0 _ _ _ _
      | exact ih1 _ _ _ _
      | exact back_Delay.mono _ _ _ _
      | exact back_Whole.mono _ _ _ _
      | exact draymanlaw15_awake.mono _
      | exact LeO.none _
      | refine LeO.ite ?_ ?_
      | refine LeO.bind ?_ (fun _ => ?_)
    · intro y0 y1 y2 y3
      unfold draymanlaw15_BackGrows.l0
      repeat' first
      | (with_reducible exact ih0 _ _ _ _)
      | (with_reducible exact ih1 _ _ _ _)
      | (with_reducible exact back_Delay.mono _ _ _ _)
      | (with_reducible exact back_Whole.mono _ _ _ _)
      | (with_reducible exact draymanlaw15_awake.mono _)
      | (with_reducible exact LeO.refl _)
      | (with_reducible exact LeO.none _)
      | (with_reducible refine LeO.ite ?_ ?_)
      | (with_reducible refine LeO.bind ?_ (fun _ => ?_))
      | exact ih0 _ _ _ _
      | exact ih1 _ _ _ _
      | exact back_Delay.mono _ _ _ _
      | exact back_Whole.mono _ _ _ _
      | exact draymanlaw15_awake.mono _
      | exact LeO.none _
      | refine LeO.ite ?_ ?_
      | refine LeO.bind ?_ (fun _ => ?_)
theorem draymanlaw15_BackGrows.mono : ∀ a0 a1 a2 k, LeO (draymanlaw15_BackGrows.f k a0 a1 a2) (draymanlaw15_BackGrows.f (k + 1) a0 a1 a2) := by
  intro a0 a1 a2 k
  obtain ⟨ih0, ih1⟩ := draymanlaw15_BackGrows.mono_l k
  unfold draymanlaw15_BackGrows.f
  repeat' first
      | (with_reducible exact ih0 _ _ _ _)
      | (with_reducible exact ih1 _ _ _ _)
      | (with_reducible exact back_Delay.mono _ _ _ _)
      | (with_reducible exact back_Whole.mono _ _ _ _)
      | (with_reducible exact draymanlaw15_awake.mono _)
      | (with_reducible exact LeO.refl _)
      | (with_reducible exact LeO.none _)
      | (with_reducible refine LeO.ite ?_ ?_)
      | (with_reducible refine LeO.bind ?_ (fun _ => ?_))
      | exact ih0 _ _ _ _
      | exact ih1 _ _ _ _
      | exact back_Delay.mono _ _ _ _
      | exact back_Whole.mono _ _ _ _
      | exact draymanlaw15_awake.mono _
      | exact LeO.none _
      | refine LeO.ite ?_ ?_
      | refine LeO.bind ?_ (fun _ => ?_)
set_option maxHeartbeats 8000000 in
set_option maxRecDepth 100000 in
theorem draymanlaw15_BackGrows.calls (k : Nat) (a0 : Int) (a1 : Int) (a2 : Int) (r : Bool) (w : World) (h : draymanlaw15_BackGrows.f k a0 a1 a2 = some r) :
    Calls Try.prog 4 #[.int .u8 a0, .int .u8 a1, .int .u8 a2] w fun e w' => e = .returned (.bool r) ∧ Below w.heap.size w w' := by
  have HB := Aside0.mk (Below.refl w.heap.size w)
  have H : (if (wrap64 (1 + (Int.tmod (wrap64 (a2)) 32))) = 0 then (none) else ((back_Fit.f (Int.tmod (wrap64 (a0)) 6) (wrap64 (1 + (Int.tmod (wrap64 (a1)) (wrap64 (1 + (Int.tmod (wrap64 (a2)) 32)))))) (wrap64 (1 + (Int.tmod (wrap64 (a2)) 32)))).bind fun t123 => (if t123 = true then ((back_Delay.f k (wrap64 (1 + (Int.tmod (wrap64 (a1)) (wrap64 (1 + (Int.tmod (wrap64 (a2)) 32)))))) (wrap64 (1 + (Int.tmod (wrap64 (a2)) 32))) 1).bind fun t124 => (if t124 = (wrap64 (1 + (Int.tmod (wrap64 (a1)) (wrap64 (1 + (Int.tmod (wrap64 (a2)) 32)))))) then ((back_Delay.f k (wrap64 (1 + (Int.tmod (wrap64 (a1)) (wrap64 (1 + (Int.tmod (wrap64 (a2)) 32)))))) (wrap64 (1 + (Int.tmod (wrap64 (a2)) 32))) 0).bind fun t125 => (draymanlaw15_BackGrows.j0 k (Int.tmod (wrap64 (a0)) 6) (wrap64 (1 + (Int.tmod (wrap64 (a2)) 32))) (wrap64 (1 + (Int.tmod (wrap64 (a1)) (wrap64 (1 + (Int.tmod (wrap64 (a2)) 32)))))) (t125 != 0))) else (draymanlaw15_BackGrows.j0 k (Int.tmod (wrap64 (a0)) 6) (wrap64 (1 + (Int.tmod (wrap64 (a2)) 32))) (wrap64 (1 + (Int.tmod (wrap64 (a1)) (wrap64 (1 + (Int.tmod (wrap64 (a2)) 32)))))) true))) else (draymanlaw15_BackGrows.j0 k (Int.tmod (wrap64 (a0)) 6) (wrap64 (1 + (Int.tmod (wrap64 (a2)) 32))) (wrap64 (1 + (Int.tmod (wrap64 (a1)) (wrap64 (1 + (Int.tmod (wrap64 (a2)) 32)))))) true)))) = some r := h
  clear h
  by_cases c4 : (wrap64 (1 + (Int.tmod (wrap64 (a2)) 32))) = 0
  · rw [if_pos c4] at H
    exact absurd H (by simp)
  · rw [if_neg c4] at H
    have c4b0 : ((wrap64 (1 + (Int.tmod (wrap64 (a2)) 32))) == 0) = false := beq_eq_false_iff_ne.mpr c4
    have c4b1 : ((wrap64 (1 + (Int.tmod (wrap64 (a2)) 32))) != 0) = true := bne_iff_ne.mpr c4
    have HC5 := Aside0.mk H
    clear H
    go_enter Try.func4, Try.ntmps4
    go_upto_region 4 with (fail)
    go_cut [43] (fun v43 wc => ∃ (kq : Nat) (x43_4 : Bool), v43 = .bool x43_4 ∧ Aside0 (draymanlaw15_BackGrows.j0 kq (Int.tmod (wrap64 (a0)) 6) (wrap64 (1 + (Int.tmod (wrap64 (a2)) 32))) (wrap64 (1 + (Int.tmod (wrap64 (a1)) (wrap64 (1 + (Int.tmod (wrap64 (a2)) 32)))))) x43_4 = some r) ∧ Aside0 (kq ≤ k) ∧ Aside0 (Below w.heap.size w wc))
    case first =>
      have H := HC5.out
      clear HC5
      replace H := Option.bind_eq_some_iff.mp H
      obtain ⟨t123, A60, H⟩ := H
      replace H : (if t123 = true then ((back_Delay.f k (wrap64 (1 + (Int.tmod (wrap64 (a1)) (wrap64 (1 + (Int.tmod (wrap64 (a2)) 32)))))) (wrap64 (1 + (Int.tmod (wrap64 (a2)) 32))) 1).bind fun t124 => (if t124 = (wrap64 (1 + (Int.tmod (wrap64 (a1)) (wrap64 (1 + (Int.tmod (wrap64 (a2)) 32)))))) then ((back_Delay.f k (wrap64 (1 + (Int.tmod (wrap64 (a1)) (wrap64 (1 + (Int.tmod (wrap64 (a2)) 32)))))) (wrap64 (1 + (Int.tmod (wrap64 (a2)) 32))) 0).bind fun t125 => (draymanlaw15_BackGrows.j0 k (Int.tmod (wrap64 (a0)) 6) (wrap64 (1 + (Int.tmod (wrap64 (a2)) 32))) (wrap64 (1 + (Int.tmod (wrap64 (a1)) (wrap64 (1 + (Int.tmod (wrap64 (a2)) 32)))))) (t125 != 0))) else (draymanlaw15_BackGrows.j0 k (Int.tmod (wrap64 (a0)) 6) (wrap64 (1 + (Int.tmod (wrap64 (a2)) 32))) (wrap64 (1 + (Int.tmod (wrap64 (a1)) (wrap64 (1 + (Int.tmod (wrap64 (a2)) 32)))))) true))) else (draymanlaw15_BackGrows.j0 k (Int.tmod (wrap64 (a0)) 6) (wrap64 (1 + (Int.tmod (wrap64 (a2)) 32))) (wrap64 (1 + (Int.tmod (wrap64 (a1)) (wrap64 (1 + (Int.tmod (wrap64 (a2)) 32)))))) true)) = some r := H
      have A6 := Aside0.mk A60
      clear A60
      by_cases c7 : t123 = true
      · subst c7
        have H1 : ((back_Delay.f k (wrap64 (1 + (Int.tmod (wrap64 (a1)) (wrap64 (1 + (Int.tmod (wrap64 (a2)) 32)))))) (wrap64 (1 + (Int.tmod (wrap64 (a2)) 32))) 1).bind fun t124 => (if t124 = (wrap64 (1 + (Int.tmod (wrap64 (a1)) (wrap64 (1 + (Int.tmod (wrap64 (a2)) 32)))))) then ((back_Delay.f k (wrap64 (1 + (Int.tmod (wrap64 (a1)) (wrap64 (1 + (Int.tmod (wrap64 (a2)) 32)))))) (wrap64 (1 + (Int.tmod (wrap64 (a2)) 32))) 0).bind fun t125 => (draymanlaw15_BackGrows.j0 k (Int.tmod (wrap64 (a0)) 6) (wrap64 (1 + (Int.tmod (wrap64 (a2)) 32))) (wrap64 (1 + (Int.tmod (wrap64 (a1)) (wrap64 (1 + (Int.tmod (wrap64 (a2)) 32)))))) (t125 != 0))) else (draymanlaw15_BackGrows.j0 k (Int.tmod (wrap64 (a0)) 6) (wrap64 (1 + (Int.tmod (wrap64 (a2)) 32))) (wrap64 (1 + (Int.tmod (wrap64 (a1)) (wrap64 (1 + (Int.tmod (wrap64 (a2)) 32)))))) true))) = some r := by rw [if_pos rfl] at H; exact H
        clear H
        have H := H1
        clear H1
        replace H := Option.bind_eq_some_iff.mp H
        obtain ⟨t124, A80, H⟩ := H
        replace H : (if t124 = (wrap64 (1 + (Int.tmod (wrap64 (a1)) (wrap64 (1 + (Int.tmod (wrap64 (a2)) 32)))))) then ((back_Delay.f k (wrap64 (1 + (Int.tmod (wrap64 (a1)) (wrap64 (1 + (Int.tmod (wrap64 (a2)) 32)))))) (wrap64 (1 + (Int.tmod (wrap64 (a2)) 32))) 0).bind fun t125 => (draymanlaw15_BackGrows.j0 k (Int.tmod (wrap64 (a0)) 6) (wrap64 (1 + (Int.tmod (wrap64 (a2)) 32))) (wrap64 (1 + (Int.tmod (wrap64 (a1)) (wrap64 (1 + (Int.tmod (wrap64 (a2)) 32)))))) (t125 != 0))) else (draymanlaw15_BackGrows.j0 k (Int.tmod (wrap64 (a0)) 6) (wrap64 (1 + (Int.tmod (wrap64 (a2)) 32))) (wrap64 (1 + (Int.tmod (wrap64 (a1)) (wrap64 (1 + (Int.tmod (wrap64 (a2)) 32)))))) true)) = some r := H
        have A8 := Aside0.mk A80
        clear A80
        by_cases c9 : t124 = (wrap64 (1 + (Int.tmod (wrap64 (a1)) (wrap64 (1 + (Int.tmod (wrap64 (a2)) 32))))))
        · rw [if_pos c9] at H
          have c9b0 : (t124 == (wrap64 (1 + (Int.tmod (wrap64 (a1)) (wrap64 (1 + (Int.tmod (wrap64 (a2)) 32))))))) = true := beq_iff_eq.mpr c9
          have c9b1 : (t124 != (wrap64 (1 + (Int.tmod (wrap64 (a1)) (wrap64 (1 + (Int.tmod (wrap64 (a2)) 32))))))) = false := bne_eq_false_iff_eq.mpr c9
          clear c9
          (first | rw [c9b0] | (simp only [i64_w, i32_w]; rw [c9b0]) | skip)
          replace H := Option.bind_eq_some_iff.mp H
          obtain ⟨t125, A100, H⟩ := H
          replace H : (draymanlaw15_BackGrows.j0 k (Int.tmod (wrap64 (a0)) 6) (wrap64 (1 + (Int.tmod (wrap64 (a2)) 32))) (wrap64 (1 + (Int.tmod (wrap64 (a1)) (wrap64 (1 + (Int.tmod (wrap64 (a2)) 32)))))) (t125 != 0)) = some r := H
          have A10 := Aside0.mk A100
          clear A100
          have H' := Aside0.mk H
          clear H
          go_wp2_with (first | ((with_reducible refine gate_callee (f := 15) rfl ?_); refine goesL_ (some 29) rfl rfl Try.func15 (by kernel_rfl) rfl #[.int .i64 (Int.tmod (wrap64 (a0)) 6), .int .i64 (wrap64 (1 + (Int.tmod (wrap64 (a1)) (wrap64 (1 + (Int.tmod (wrap64 (a2)) 32)))))), .int .i64 (wrap64 (1 + (Int.tmod (wrap64 (a2)) 32)))] rfl (by (try simp only [List.map_toArray, List.map_cons, List.map_nil]); first | done | rfl | (simp only [List.length_drop, List.length_take]; rfl)) ?_; (with_reducible refine (back_Fit.calls (Int.tmod (wrap64 (a0)) 6) (wrap64 (1 + (Int.tmod (wrap64 (a1)) (wrap64 (1 + (Int.tmod (wrap64 (a2)) 32)))))) (wrap64 (1 + (Int.tmod (wrap64 (a2)) 32))) true _ A6.out).mono ?_); rintro e w' ⟨rfl, ⟨nd, rfl⟩⟩; refine ⟨_, rfl, ?_⟩) | (go_at_call 17; (with_reducible refine (back_Delay.calls k (wrap64 (1 + (Int.tmod (wrap64 (a1)) (wrap64 (1 + (Int.tmod (wrap64 (a2)) 32)))))) (wrap64 (1 + (Int.tmod (wrap64 (a2)) 32))) 1 t124 _ A8.out).mono ?_); rintro e w11 ⟨rfl, hb⟩; have n0_ := Aside0.mk (below_step (by repeat (first | (with_reducible first | exact HB.out | apply below_alloc | apply pw_below_drewN | apply below_drew1) | exact HB.out)) hb); clear HB; have HB := n0_; clear n0_; (try clear hb); (try clear hb2); (try clear hk); (try clear hi)) | (go_at_call 17; (with_reducible refine (back_Delay.calls k (wrap64 (1 + (Int.tmod (wrap64 (a1)) (wrap64 (1 + (Int.tmod (wrap64 (a2)) 32)))))) (wrap64 (1 + (Int.tmod (wrap64 (a2)) 32))) 0 t125 _ A10.out).mono ?_); rintro e w12 ⟨rfl, hb⟩; have n0_ := Aside0.mk (below_step (by repeat (first | (with_reducible first | exact HB.out | apply below_alloc | apply pw_below_drewN | apply below_drew1) | exact HB.out)) hb); clear HB; have HB := n0_; clear n0_; (try clear hb); (try clear hb2); (try clear hk); (try clear hi)))
          go_meet
          case rel => exact ⟨_, ((t125 != 0)), (by first | rfl | (simp; done) | (simp [*]; done)), H', ⟨by first | omega | exact Nat.le_refl _⟩, ⟨by repeat (first | (with_reducible first | exact HB.out | apply below_alloc | apply pw_below_drewN | apply below_drew1) | exact HB.out)⟩⟩
        · rw [if_neg c9] at H
          have c9b0 : (t124 == (wrap64 (1 + (Int.tmod (wrap64 (a1)) (wrap64 (1 + (Int.tmod (wrap64 (a2)) 32))))))) = false := beq_eq_false_iff_ne.mpr c9
          have c9b1 : (t124 != (wrap64 (1 + (Int.tmod (wrap64 (a1)) (wrap64 (1 + (Int.tmod (wrap64 (a2)) 32))))))) = true := bne_iff_ne.mpr c9
          (first | rw [c9b0] | (simp only [i64_w, i32_w]; rw [c9b0]) | skip)
          have H' := Aside0.mk H
          clear H
          go_wp2_with (first | ((with_reducible refine gate_callee (f := 15) rfl ?_); refine goesL_ (some 29) rfl rfl Try.func15 (by kernel_rfl) rfl #[.int .i64 (Int.tmod (wrap64 (a0)) 6), .int .i64 (wrap64 (1 + (Int.tmod (wrap64 (a1)) (wrap64 (1 + (Int.tmod (wrap64 (a2)) 32)))))), .int .i64 (wrap64 (1 + (Int.tmod (wrap64 (a2)) 32)))] rfl (by (try simp only [List.map_toArray, List.map_cons, List.map_nil]); first | done | rfl | (simp only [List.length_drop, List.length_take]; rfl)) ?_; (with_reducible refine (back_Fit.calls (Int.tmod (wrap64 (a0)) 6) (wrap64 (1 + (Int.tmod (wrap64 (a1)) (wrap64 (1 + (Int.tmod (wrap64 (a2)) 32)))))) (wrap64 (1 + (Int.tmod (wrap64 (a2)) 32))) true _ A6.out).mono ?_); rintro e w' ⟨rfl, ⟨nd, rfl⟩⟩; refine ⟨_, rfl, ?_⟩) | (go_at_call 17; (with_reducible refine (back_Delay.calls k (wrap64 (1 + (Int.tmod (wrap64 (a1)) (wrap64 (1 + (Int.tmod (wrap64 (a2)) 32)))))) (wrap64 (1 + (Int.tmod (wrap64 (a2)) 32))) 1 t124 _ A8.out).mono ?_); rintro e w13 ⟨rfl, hb⟩; have n0_ := Aside0.mk (below_step (by repeat (first | (with_reducible first | exact HB.out | apply below_alloc | apply pw_below_drewN | apply below_drew1) | exact HB.out)) hb); clear HB; have HB := n0_; clear n0_; (try clear hb); (try clear hb2); (try clear hk); (try clear hi)))
          go_meet
          case rel => exact ⟨_, (true), (by first | rfl | (simp; done) | (simp [*]; done)), H', ⟨by first | omega | exact Nat.le_refl _⟩, ⟨by repeat (first | (with_reducible first | exact HB.out | apply below_alloc | apply pw_below_drewN | apply below_drew1) | exact HB.out)⟩⟩
      · replace c7 := Bool.eq_false_iff.mpr c7
        subst c7
        have H1 : (draymanlaw15_BackGrows.j0 k (Int.tmod (wrap64 (a0)) 6) (wrap64 (1 + (Int.tmod (wrap64 (a2)) 32))) (wrap64 (1 + (Int.tmod (wrap64 (a1)) (wrap64 (1 + (Int.tmod (wrap64 (a2)) 32)))))) true) = some r := by rw [if_neg (show ¬ (false = true) by decide)] at H; exact H
        clear H
        have H := H1
        clear H1
        have H' := Aside0.mk H
        clear H
        go_wp2_with (first | ((with_reducible refine gate_callee (f := 15) rfl ?_); refine goesL_ (some 29) rfl rfl Try.func15 (by kernel_rfl) rfl #[.int .i64 (Int.tmod (wrap64 (a0)) 6), .int .i64 (wrap64 (1 + (Int.tmod (wrap64 (a1)) (wrap64 (1 + (Int.tmod (wrap64 (a2)) 32)))))), .int .i64 (wrap64 (1 + (Int.tmod (wrap64 (a2)) 32)))] rfl (by (try simp only [List.map_toArray, List.map_cons, List.map_nil]); first | done | rfl | (simp only [List.length_drop, List.length_take]; rfl)) ?_; (with_reducible refine (back_Fit.calls (Int.tmod (wrap64 (a0)) 6) (wrap64 (1 + (Int.tmod (wrap64 (a1)) (wrap64 (1 + (Int.tmod (wrap64 (a2)) 32)))))) (wrap64 (1 + (Int.tmod (wrap64 (a2)) 32))) false _ A6.out).mono ?_); rintro e w' ⟨rfl, ⟨nd, rfl⟩⟩; refine ⟨_, rfl, ?_⟩))
        go_meet
        case rel => exact ⟨_, (true), (by first | rfl | (simp; done) | (simp [*]; done)), H', ⟨by first | omega | exact Nat.le_refl _⟩, ⟨by repeat (first | (with_reducible first | exact HB.out | apply below_alloc | apply pw_below_drewN | apply below_drew1) | exact HB.out)⟩⟩
    case rest =>
      clear HC5
      try clear c1
      try clear p2
      try clear c4
      try clear c4b0
      try clear c4b1
      try clear p6
      try clear c7
      try clear c9
      try clear c9b0
      try clear c9b1
      obtain ⟨kq, x43_4, rfl, HA, HJ4, HB⟩ := hcut
      cases kq with
      | zero => exact absurd HA.out (by simp [draymanlaw15_BackGrows.j0])
      | succ kj4 =>
        have H := HA.out
        clear HA
        simp only [draymanlaw15_BackGrows.j0] at H
        by_cases c14 : x43_4 = true
        · subst c14
          have H1 : (some false) = some r := by rw [if_pos rfl] at H; exact H
          clear H
          have H := H1
          clear H1
          obtain rfl := Option.some.inj H
          go_wp2
          go_ret
          exact ⟨by first | rfl | (simp [errW_none, errW_some] <;> rfl) | (simp [*, errW_none, errW_some] <;> rfl), by repeat (first | (with_reducible first | exact HB.out | apply below_alloc | apply pw_below_drewN | apply below_drew1) | exact HB.out)⟩
        · replace c14 := Bool.eq_false_iff.mpr c14
          subst c14
          have H1 : (draymanlaw15_BackGrows.l0 kj4 (Int.tmod (wrap64 (a0)) 6) (wrap64 (1 + (Int.tmod (wrap64 (a2)) 32))) (wrap64 (1 + (Int.tmod (wrap64 (a1)) (wrap64 (1 + (Int.tmod (wrap64 (a2)) 32)))))) 1) = some r := by rw [if_neg (show ¬ (false = true) by decide)] at H; exact H
          clear H
          have H := H1
          clear H1
          have H' := Aside0.mk H
          clear H
          go_wp2
          go_loopg [10] kj4 (fun kq v10 w' => ∃ (x10_2 : Int), v10 = .int .i64 x10_2 ∧ Aside0 (draymanlaw15_BackGrows.l0 kq (Int.tmod (wrap64 (a0)) 6) (wrap64 (1 + (Int.tmod (wrap64 (a2)) 32))) (wrap64 (1 + (Int.tmod (wrap64 (a1)) (wrap64 (1 + (Int.tmod (wrap64 (a2)) 32)))))) x10_2 = some r) ∧ Aside0 (kq ≤ kj4) ∧ Aside0 (Below w.heap.size w w'))
          case atStart => exact ⟨(1), (by first | rfl | (simp; done) | (simp [*]; done)), H', ⟨Nat.le_refl _⟩, ⟨by repeat (first | (with_reducible first | exact HB.out | apply below_alloc | apply pw_below_drewN | apply below_drew1) | exact HB.out)⟩⟩
          case round =>
            clear H'
            try clear c1
            try clear p2
            try clear c4
            try clear c4b0
            try clear c4b1
            try clear p6
            try clear c7
            try clear c9
            try clear c9b0
            try clear c9b1
            try clear c14
            try clear p2
            try clear p6
            obtain ⟨x10_2, rfl, HA, HK2, HB⟩ := hrel
            cases gk with
            | zero => exact absurd HA.out (by simp [draymanlaw15_BackGrows.l0])
            | succ k2 =>
              have H := HA.out
              clear HA
              simp only [draymanlaw15_BackGrows.l0] at H
              by_cases c15 : x10_2 ≤ 40
              · rw [if_pos c15] at H
                have c15b0 : decide (x10_2 ≤ 40) = true := decide_eq_true c15
                clear c15
                replace H := Option.bind_eq_some_iff.mp H
                obtain ⟨t128, A160, H⟩ := H
                replace H : ((back_Delay.f k2 (wrap64 (1 + (Int.tmod (wrap64 (a1)) (wrap64 (1 + (Int.tmod (wrap64 (a2)) 32)))))) (wrap64 (1 + (Int.tmod (wrap64 (a2)) 32))) (wrap64 (x10_2 + 1))).bind fun t129 => (if t128 < (wrap64 (1 + (Int.tmod (wrap64 (a1)) (wrap64 (1 + (Int.tmod (wrap64 (a2)) 32)))))) then (some false) else (if t128 > (wrap64 (1 + (Int.tmod (wrap64 (a2)) 32))) then (some false) else (if t129 < t128 then (some false) else (if t129 = (mn (wrap64 (2 * t128)) (wrap64 (1 + (Int.tmod (wrap64 (a2)) 32)))) then (draymanlaw15_BackGrows.l0 k2 (Int.tmod (wrap64 (a0)) 6) (wrap64 (1 + (Int.tmod (wrap64 (a2)) 32))) (wrap64 (1 + (Int.tmod (wrap64 (a1)) (wrap64 (1 + (Int.tmod (wrap64 (a2)) 32)))))) (wrap64 (x10_2 + 1))) else (some false)))))) = some r := H
                have A16 := Aside0.mk A160
                clear A160
                replace H := Option.bind_eq_some_iff.mp H
                obtain ⟨t129, A170, H⟩ := H
                replace H : (if t128 < (wrap64 (1 + (Int.tmod (wrap64 (a1)) (wrap64 (1 + (Int.tmod (wrap64 (a2)) 32)))))) then (some false) else (if t128 > (wrap64 (1 + (Int.tmod (wrap64 (a2)) 32))) then (some false) else (if t129 < t128 then (some false) else (if t129 = (mn (wrap64 (2 * t128)) (wrap64 (1 + (Int.tmod (wrap64 (a2)) 32)))) then (draymanlaw15_BackGrows.l0 k2 (Int.tmod (wrap64 (a0)) 6) (wrap64 (1 + (Int.tmod (wrap64 (a2)) 32))) (wrap64 (1 + (Int.tmod (wrap64 (a1)) (wrap64 (1 + (Int.tmod (wrap64 (a2)) 32)))))) (wrap64 (x10_2 + 1))) else (some false))))) = some r := H
                have A17 := Aside0.mk A170
                clear A170
                by_cases c18 : t128 < (wrap64 (1 + (Int.tmod (wrap64 (a1)) (wrap64 (1 + (Int.tmod (wrap64 (a2)) 32))))))
                · rw [if_pos c18] at H
                  have c18b0 : decide (t128 < (wrap64 (1 + (Int.tmod (wrap64 (a1)) (wrap64 (1 + (Int.tmod (wrap64 (a2)) 32))))))) = true := decide_eq_true c18
                  clear c18
                  obtain rfl := Option.some.inj H
                  go_wp2_with (first | ((with_reducible refine gate_callee (f := 17) rfl ?_); refine goesL_ (some 51) rfl rfl Try.func17 (by kernel_rfl) rfl #[.int .i64 (wrap64 (1 + (Int.tmod (wrap64 (a1)) (wrap64 (1 + (Int.tmod (wrap64 (a2)) 32)))))), .int .i64 (wrap64 (1 + (Int.tmod (wrap64 (a2)) 32))), .int .i64 x10_2] rfl (by (try simp only [List.map_toArray, List.map_cons, List.map_nil]); first | done | rfl | (simp only [List.length_drop, List.length_take]; rfl)) ?_; (with_reducible refine (back_Delay.calls k2 (wrap64 (1 + (Int.tmod (wrap64 (a1)) (wrap64 (1 + (Int.tmod (wrap64 (a2)) 32)))))) (wrap64 (1 + (Int.tmod (wrap64 (a2)) 32))) x10_2 t128 _ A16.out).mono ?_); rintro e w19 ⟨rfl, hb⟩; refine ⟨_, rfl, ?_⟩; have n0_ := Aside0.mk (below_step (by repeat (first | (with_reducible first | exact HB.out | apply below_alloc | apply pw_below_drewN | apply below_drew1) | exact HB.out)) hb); clear HB; have HB := n0_; clear n0_; (try clear hb); (try clear hb2); (try clear hk); (try clear hi)) | ((with_reducible refine gate_callee (f := 17) rfl ?_); refine goesL_ (some 56) rfl rfl Try.func17 (by kernel_rfl) rfl #[.int .i64 (wrap64 (1 + (Int.tmod (wrap64 (a1)) (wrap64 (1 + (Int.tmod (wrap64 (a2)) 32)))))), .int .i64 (wrap64 (1 + (Int.tmod (wrap64 (a2)) 32))), .int .i64 (wrap64 (x10_2 + 1))] rfl (by (try simp only [List.map_toArray, List.map_cons, List.map_nil]); first | done | rfl | (simp only [List.length_drop, List.length_take]; rfl)) ?_; (with_reducible refine (back_Delay.calls k2 (wrap64 (1 + (Int.tmod (wrap64 (a1)) (wrap64 (1 + (Int.tmod (wrap64 (a2)) 32)))))) (wrap64 (1 + (Int.tmod (wrap64 (a2)) 32))) (wrap64 (x10_2 + 1)) t129 _ A17.out).mono ?_); rintro e w20 ⟨rfl, hb⟩; refine ⟨_, rfl, ?_⟩; have n0_ := Aside0.mk (below_step (by repeat (first | (with_reducible first | exact HB.out | apply below_alloc | apply pw_below_drewN | apply below_drew1) | exact HB.out)) hb); clear HB; have HB := n0_; clear n0_; (try clear hb); (try clear hb2); (try clear hk); (try clear hi)))
                  go_ret
                  exact ⟨by first | rfl | (simp [errW_none, errW_some] <;> rfl) | (simp [*, errW_none, errW_some] <;> rfl), by repeat (first | (with_reducible first | exact HB.out | apply below_alloc | apply pw_below_drewN | apply below_drew1) | exact HB.out)⟩
                · rw [if_neg c18] at H
                  have c18b0 : decide (t128 < (wrap64 (1 + (Int.tmod (wrap64 (a1)) (wrap64 (1 + (Int.tmod (wrap64 (a2)) 32))))))) = false := decide_eq_false c18
                  clear c18
                  by_cases c21 : t128 > (wrap64 (1 + (Int.tmod (wrap64 (a2)) 32)))
                  · rw [if_pos c21] at H
                    have c21b0 : decide ((wrap64 (1 + (Int.tmod (wrap64 (a2)) 32))) < t128) = true := decide_eq_true c21
                    clear c21
                    obtain rfl := Option.some.inj H
                    go_wp2_with (first | ((with_reducible refine gate_callee (f := 17) rfl ?_); refine goesL_ (some 51) rfl rfl Try.func17 (by kernel_rfl) rfl #[.int .i64 (wrap64 (1 + (Int.tmod (wrap64 (a1)) (wrap64 (1 + (Int.tmod (wrap64 (a2)) 32)))))), .int .i64 (wrap64 (1 + (Int.tmod (wrap64 (a2)) 32))), .int .i64 x10_2] rfl (by (try simp only [List.map_toArray, List.map_cons, List.map_nil]); first | done | rfl | (simp only [List.length_drop, List.length_take]; rfl)) ?_; (with_reducible refine (back_Delay.calls k2 (wrap64 (1 + (Int.tmod (wrap64 (a1)) (wrap64 (1 + (Int.tmod (wrap64 (a2)) 32)))))) (wrap64 (1 + (Int.tmod (wrap64 (a2)) 32))) x10_2 t128 _ A16.out).mono ?_); rintro e w22 ⟨rfl, hb⟩; refine ⟨_, rfl, ?_⟩; have n0_ := Aside0.mk (below_step (by repeat (first | (with_reducible first | exact HB.out | apply below_alloc | apply pw_below_drewN | apply below_drew1) | exact HB.out)) hb); clear HB; have HB := n0_; clear n0_; (try clear hb); (try clear hb2); (try clear hk); (try clear hi)) | ((with_reducible refine gate_callee (f := 17) rfl ?_); refine goesL_ (some 56) rfl rfl Try.func17 (by kernel_rfl) rfl #[.int .i64 (wrap64 (1 + (Int.tmod (wrap64 (a1)) (wrap64 (1 + (Int.tmod (wrap64 (a2)) 32)))))), .int .i64 (wrap64 (1 + (Int.tmod (wrap64 (a2)) 32))), .int .i64 (wrap64 (x10_2 + 1))] rfl (by (try simp only [List.map_toArray, List.map_cons, List.map_nil]); first | done | rfl | (simp only [List.length_drop, List.length_take]; rfl)) ?_; (with_reducible refine (back_Delay.calls k2 (wrap64 (1 + (Int.tmod (wrap64 (a1)) (wrap64 (1 + (Int.tmod (wrap64 (a2)) 32)))))) (wrap64 (1 + (Int.tmod (wrap64 (a2)) 32))) (wrap64 (x10_2 + 1)) t129 _ A17.out).mono ?_); rintro e w23 ⟨rfl, hb⟩; refine ⟨_, rfl, ?_⟩; have n0_ := Aside0.mk (below_step (by repeat (first | (with_reducible first | exact HB.out | apply below_alloc | apply pw_below_drewN | apply below_drew1) | exact HB.out)) hb); clear HB; have HB := n0_; clear n0_; (try clear hb); (try clear hb2); (try clear hk); (try clear hi)))
                    go_ret
                    exact ⟨by first | rfl | (simp [errW_none, errW_some] <;> rfl) | (simp [*, errW_none, errW_some] <;> rfl), by repeat (first | (with_reducible first | exact HB.out | apply below_alloc | apply pw_below_drewN | apply below_drew1) | exact HB.out)⟩
                  · rw [if_neg c21] at H
                    have c21b0 : decide ((wrap64 (1 + (Int.tmod (wrap64 (a2)) 32))) < t128) = false := decide_eq_false c21
                    clear c21
                    by_cases c24 : t129 < t128
                    · rw [if_pos c24] at H
                      have c24b0 : decide (t129 < t128) = true := decide_eq_true c24
                      clear c24
                      obtain rfl := Option.some.inj H
                      go_wp2_with (first | ((with_reducible refine gate_callee (f := 17) rfl ?_); refine goesL_ (some 51) rfl rfl Try.func17 (by kernel_rfl) rfl #[.int .i64 (wrap64 (1 + (Int.tmod (wrap64 (a1)) (wrap64 (1 + (Int.tmod (wrap64 (a2)) 32)))))), .int .i64 (wrap64 (1 + (Int.tmod (wrap64 (a2)) 32))), .int .i64 x10_2] rfl (by (try simp only [List.map_toArray, List.map_cons, List.map_nil]); first | done | rfl | (simp only [List.length_drop, List.length_take]; rfl)) ?_; (with_reducible refine (back_Delay.calls k2 (wrap64 (1 + (Int.tmod (wrap64 (a1)) (wrap64 (1 + (Int.tmod (wrap64 (a2)) 32)))))) (wrap64 (1 + (Int.tmod (wrap64 (a2)) 32))) x10_2 t128 _ A16.out).mono ?_); rintro e w25 ⟨rfl, hb⟩; refine ⟨_, rfl, ?_⟩; have n0_ := Aside0.mk (below_step (by repeat (first | (with_reducible first | exact HB.out | apply below_alloc | apply pw_below_drewN | apply below_drew1) | exact HB.out)) hb); clear HB; have HB := n0_; clear n0_; (try clear hb); (try clear hb2); (try clear hk); (try clear hi)) | ((with_reducible refine gate_callee (f := 17) rfl ?_); refine goesL_ (some 56) rfl rfl Try.func17 (by kernel_rfl) rfl #[.int .i64 (wrap64 (1 + (Int.tmod (wrap64 (a1)) (wrap64 (1 + (Int.tmod (wrap64 (a2)) 32)))))), .int .i64 (wrap64 (1 + (Int.tmod (wrap64 (a2)) 32))), .int .i64 (wrap64 (x10_2 + 1))] rfl (by (try simp only [List.map_toArray, List.map_cons, List.map_nil]); first | done | rfl | (simp only [List.length_drop, List.length_take]; rfl)) ?_; (with_reducible refine (back_Delay.calls k2 (wrap64 (1 + (Int.tmod (wrap64 (a1)) (wrap64 (1 + (Int.tmod (wrap64 (a2)) 32)))))) (wrap64 (1 + (Int.tmod (wrap64 (a2)) 32))) (wrap64 (x10_2 + 1)) t129 _ A17.out).mono ?_); rintro e w26 ⟨rfl, hb⟩; refine ⟨_, rfl, ?_⟩; have n0_ := Aside0.mk (below_step (by repeat (first | (with_reducible first | exact HB.out | apply below_alloc | apply pw_below_drewN | apply below_drew1) | exact HB.out)) hb); clear HB; have HB := n0_; clear n0_; (try clear hb); (try clear hb2); (try clear hk); (try clear hi)))
                      go_ret
                      exact ⟨by first | rfl | (simp [errW_none, errW_some] <;> rfl) | (simp [*, errW_none, errW_some] <;> rfl), by repeat (first | (with_reducible first | exact HB.out | apply below_alloc | apply pw_below_drewN | apply below_drew1) | exact HB.out)⟩
                    · rw [if_neg c24] at H
                      have c24b0 : decide (t129 < t128) = false := decide_eq_false c24
                      clear c24
                      obtain ⟨ji27, hji27⟩ : ∃ j_ : Int, (mn (wrap64 (2 * t128)) (wrap64 (1 + (Int.tmod (wrap64 (a2)) 32)))) = j_ := ⟨_, rfl⟩
                      replace H : (if t129 = (ji27) then (draymanlaw15_BackGrows.l0 k2 (Int.tmod (wrap64 (a0)) 6) (wrap64 (1 + (Int.tmod (wrap64 (a2)) 32))) (wrap64 (1 + (Int.tmod (wrap64 (a1)) (wrap64 (1 + (Int.tmod (wrap64 (a2)) 32)))))) (wrap64 (x10_2 + 1))) else (some false)) = some r := by first | (rw [hji27] at H; exact H) | (simp only [hji27] at H ⊢; exact H)
                      (try rw [hji27] at A16)
                      (try rw [hji27] at A17)
                      have hji27_ : (if (wrap64 (1 + (Int.tmod (wrap64 (a2)) 32))) < (wrap64 (2 * t128)) then (wrap64 (1 + (Int.tmod (wrap64 (a2)) 32))) else (wrap64 (2 * t128))) = ji27 := hji27
                      by_cases c28 : t129 = (ji27)
                      · rw [if_pos c28] at H
                        have c28b0 : (t129 == (ji27)) = true := beq_iff_eq.mpr c28
                        have c28b1 : (t129 != (ji27)) = false := bne_eq_false_iff_eq.mpr c28
                        clear c28
                        have H' := Aside0.mk H
                        clear H
                        go_wp2_with (first | ((with_reducible refine gate_callee (f := 17) rfl ?_); refine goesL_ (some 51) rfl rfl Try.func17 (by kernel_rfl) rfl #[.int .i64 (wrap64 (1 + (Int.tmod (wrap64 (a1)) (wrap64 (1 + (Int.tmod (wrap64 (a2)) 32)))))), .int .i64 (wrap64 (1 + (Int.tmod (wrap64 (a2)) 32))), .int .i64 x10_2] rfl (by (try simp only [List.map_toArray, List.map_cons, List.map_nil]); first | done | rfl | (simp only [List.length_drop, List.length_take]; rfl)) ?_; (with_reducible refine (back_Delay.calls k2 (wrap64 (1 + (Int.tmod (wrap64 (a1)) (wrap64 (1 + (Int.tmod (wrap64 (a2)) 32)))))) (wrap64 (1 + (Int.tmod (wrap64 (a2)) 32))) x10_2 t128 _ A16.out).mono ?_); rintro e w29 ⟨rfl, hb⟩; refine ⟨_, rfl, ?_⟩; have n0_ := Aside0.mk (below_step (by repeat (first | (with_reducible first | exact HB.out | apply below_alloc | apply pw_below_drewN | apply below_drew1) | exact HB.out)) hb); clear HB; have HB := n0_; clear n0_; (try clear hb); (try clear hb2); (try clear hk); (try clear hi)) | ((with_reducible refine gate_callee (f := 17) rfl ?_); refine goesL_ (some 56) rfl rfl Try.func17 (by kernel_rfl) rfl #[.int .i64 (wrap64 (1 + (Int.tmod (wrap64 (a1)) (wrap64 (1 + (Int.tmod (wrap64 (a2)) 32)))))), .int .i64 (wrap64 (1 + (Int.tmod (wrap64 (a2)) 32))), .int .i64 (wrap64 (x10_2 + 1))] rfl (by (try simp only [List.map_toArray, List.map_cons, List.map_nil]); first | done | rfl | (simp only [List.length_drop, List.length_take]; rfl)) ?_; (with_reducible refine (back_Delay.calls k2 (wrap64 (1 + (Int.tmod (wrap64 (a1)) (wrap64 (1 + (Int.tmod (wrap64 (a2)) 32)))))) (wrap64 (1 + (Int.tmod (wrap64 (a2)) 32))) (wrap64 (x10_2 + 1)) t129 _ A17.out).mono ?_); rintro e w30 ⟨rfl, hb⟩; refine ⟨_, rfl, ?_⟩; have n0_ := Aside0.mk (below_step (by repeat (first | (with_reducible first | exact HB.out | apply below_alloc | apply pw_below_drewN | apply below_drew1) | exact HB.out)) hb); clear HB; have HB := n0_; clear n0_; (try clear hb); (try clear hb2); (try clear hk); (try clear hi)))
                        go_roundg k2
                        case measure => have := HJ4.out; have := HK2.out; omega
                        case rel => exact ⟨(wrap64 (x10_2 + 1)), (by first | rfl | (simp; done) | (simp [*]; done)), H', ⟨by have := HJ4.out; have := HK2.out; omega⟩, ⟨by repeat (first | (with_reducible first | exact HB.out | apply below_alloc | apply pw_below_drewN | apply below_drew1) | exact HB.out)⟩⟩
                      · rw [if_neg c28] at H
                        have c28b0 : (t129 == (ji27)) = false := beq_eq_false_iff_ne.mpr c28
                        have c28b1 : (t129 != (ji27)) = true := bne_iff_ne.mpr c28
                        obtain rfl := Option.some.inj H
                        go_wp2_with (first | ((with_reducible refine gate_callee (f := 17) rfl ?_); refine goesL_ (some 51) rfl rfl Try.func17 (by kernel_rfl) rfl #[.int .i64 (wrap64 (1 + (Int.tmod (wrap64 (a1)) (wrap64 (1 + (Int.tmod (wrap64 (a2)) 32)))))), .int .i64 (wrap64 (1 + (Int.tmod (wrap64 (a2)) 32))), .int .i64 x10_2] rfl (by (try simp only [List.map_toArray, List.map_cons, List.map_nil]); first | done | rfl | (simp only [List.length_drop, List.length_take]; rfl)) ?_; (with_reducible refine (back_Delay.calls k2 (wrap64 (1 + (Int.tmod (wrap64 (a1)) (wrap64 (1 + (Int.tmod (wrap64 (a2)) 32)))))) (wrap64 (1 + (Int.tmod (wrap64 (a2)) 32))) x10_2 t128 _ A16.out).mono ?_); rintro e w31 ⟨rfl, hb⟩; refine ⟨_, rfl, ?_⟩; have n0_ := Aside0.mk (below_step (by repeat (first | (with_reducible first | exact HB.out | apply below_alloc | apply pw_below_drewN | apply below_drew1) | exact HB.out)) hb); clear HB; have HB := n0_; clear n0_; (try clear hb); (try clear hb2); (try clear hk); (try clear hi)) | ((with_reducible refine gate_callee (f := 17) rfl ?_); refine goesL_ (some 56) rfl rfl Try.func17 (by kernel_rfl) rfl #[.int .i64 (wrap64 (1 + (Int.tmod (wrap64 (a1)) (wrap64 (1 + (Int.tmod (wrap64 (a2)) 32)))))), .int .i64 (wrap64 (1 + (Int.tmod (wrap64 (a2)) 32))), .int .i64 (wrap64 (x10_2 + 1))] rfl (by (try simp only [List.map_toArray, List.map_cons, List.map_nil]); first | done | rfl | (simp only [List.length_drop, List.length_take]; rfl)) ?_; (with_reducible refine (back_Delay.calls k2 (wrap64 (1 + (Int.tmod (wrap64 (a1)) (wrap64 (1 + (Int.tmod (wrap64 (a2)) 32)))))) (wrap64 (1 + (Int.tmod (wrap64 (a2)) 32))) (wrap64 (x10_2 + 1)) t129 _ A17.out).mono ?_); rintro e w32 ⟨rfl, hb⟩; refine ⟨_, rfl, ?_⟩; have n0_ := Aside0.mk (below_step (by repeat (first | (with_reducible first | exact HB.out | apply below_alloc | apply pw_below_drewN | apply below_drew1) | exact HB.out)) hb); clear HB; have HB := n0_; clear n0_; (try clear hb); (try clear hb2); (try clear hk); (try clear hi)))
                        go_ret
                        exact ⟨by first | rfl | (simp [errW_none, errW_some] <;> rfl) | (simp only [← hji27]; first | rfl | (simp [errW_none, errW_some] <;> rfl)) | (simp [*, errW_none, errW_some] <;> rfl), by repeat (first | (with_reducible first | exact HB.out | apply below_alloc | apply pw_below_drewN | apply below_drew1) | exact HB.out)⟩
              · rw [if_neg c15] at H
                have c15b0 : decide (x10_2 ≤ 40) = false := decide_eq_false c15
                clear c15
                replace H := Option.bind_eq_some_iff.mp H
                obtain ⟨t126, A330, H⟩ := H
                replace H : (if t126 ≥ (wrap64 (1 + (Int.tmod (wrap64 (a2)) 32))) then (if t126 ≤ (wrap64 ((wrap64 ((Int.tmod (wrap64 (a0)) 6) + 1)) * (wrap64 (1 + (Int.tmod (wrap64 (a2)) 32))))) then ((draymanlaw15_awake.f k2).bind fun t127 => (some t127)) else (some false)) else (some false)) = some r := H
                have A33 := Aside0.mk A330
                clear A330
                by_cases c34 : t126 ≥ (wrap64 (1 + (Int.tmod (wrap64 (a2)) 32)))
                · rw [if_pos c34] at H
                  have c34b0 : decide ((wrap64 (1 + (Int.tmod (wrap64 (a2)) 32))) ≤ t126) = true := decide_eq_true c34
                  clear c34
                  by_cases c35 : t126 ≤ (wrap64 ((wrap64 ((Int.tmod (wrap64 (a0)) 6) + 1)) * (wrap64 (1 + (Int.tmod (wrap64 (a2)) 32)))))
                  · rw [if_pos c35] at H
                    have c35b0 : decide (t126 ≤ (wrap64 ((wrap64 ((Int.tmod (wrap64 (a0)) 6) + 1)) * (wrap64 (1 + (Int.tmod (wrap64 (a2)) 32)))))) = true := decide_eq_true c35
                    clear c35
                    replace H := Option.bind_eq_some_iff.mp H
                    obtain ⟨t127, A360, H⟩ := H
                    replace H : (some t127) = some r := H
                    have A36 := Aside0.mk A360
                    clear A360
                    obtain rfl := Option.some.inj H
                    go_wp2_with (first | ((with_reducible refine gate_callee (f := 19) rfl ?_); refine goesL_ (some 81) rfl rfl Try.func19 (by kernel_rfl) rfl #[.int .i64 (Int.tmod (wrap64 (a0)) 6), .int .i64 (wrap64 (1 + (Int.tmod (wrap64 (a1)) (wrap64 (1 + (Int.tmod (wrap64 (a2)) 32)))))), .int .i64 (wrap64 (1 + (Int.tmod (wrap64 (a2)) 32)))] rfl (by (try simp only [List.map_toArray, List.map_cons, List.map_nil]); first | done | rfl | (simp only [List.length_drop, List.length_take]; rfl)) ?_; (with_reducible refine (back_Whole.calls k2 (Int.tmod (wrap64 (a0)) 6) (wrap64 (1 + (Int.tmod (wrap64 (a1)) (wrap64 (1 + (Int.tmod (wrap64 (a2)) 32)))))) (wrap64 (1 + (Int.tmod (wrap64 (a2)) 32))) t126 _ A33.out).mono ?_); rintro e w37 ⟨rfl, hb⟩; refine ⟨_, rfl, ?_⟩; have n0_ := Aside0.mk (below_step (by repeat (first | (with_reducible first | exact HB.out | apply below_alloc | apply pw_below_drewN | apply below_drew1) | exact HB.out)) hb); clear HB; have HB := n0_; clear n0_; (try clear hb); (try clear hb2); (try clear hk); (try clear hi)) | (go_at_call 23; (with_reducible refine (draymanlaw15_awake.calls k2  t127 _ A36.out).mono ?_); rintro e w38 ⟨rfl, hb⟩; have n0_ := Aside0.mk (below_step (by repeat (first | (with_reducible first | exact HB.out | apply below_alloc | apply pw_below_drewN | apply below_drew1) | exact HB.out)) hb); clear HB; have HB := n0_; clear n0_; (try clear hb); (try clear hb2); (try clear hk); (try clear hi)))
                    go_ret
                    exact ⟨by first | rfl | (simp [errW_none, errW_some] <;> rfl) | (simp [*, errW_none, errW_some] <;> rfl), by repeat (first | (with_reducible first | exact HB.out | apply below_alloc | apply pw_below_drewN | apply below_drew1) | exact HB.out)⟩
                  · rw [if_neg c35] at H
                    have c35b0 : decide (t126 ≤ (wrap64 ((wrap64 ((Int.tmod (wrap64 (a0)) 6) + 1)) * (wrap64 (1 + (Int.tmod (wrap64 (a2)) 32)))))) = false := decide_eq_false c35
                    clear c35
                    obtain rfl := Option.some.inj H
                    go_wp2_with (first | ((with_reducible refine gate_callee (f := 19) rfl ?_); refine goesL_ (some 81) rfl rfl Try.func19 (by kernel_rfl) rfl #[.int .i64 (Int.tmod (wrap64 (a0)) 6), .int .i64 (wrap64 (1 + (Int.tmod (wrap64 (a1)) (wrap64 (1 + (Int.tmod (wrap64 (a2)) 32)))))), .int .i64 (wrap64 (1 + (Int.tmod (wrap64 (a2)) 32)))] rfl (by (try simp only [List.map_toArray, List.map_cons, List.map_nil]); first | done | rfl | (simp only [List.length_drop, List.length_take]; rfl)) ?_; (with_reducible refine (back_Whole.calls k2 (Int.tmod (wrap64 (a0)) 6) (wrap64 (1 + (Int.tmod (wrap64 (a1)) (wrap64 (1 + (Int.tmod (wrap64 (a2)) 32)))))) (wrap64 (1 + (Int.tmod (wrap64 (a2)) 32))) t126 _ A33.out).mono ?_); rintro e w39 ⟨rfl, hb⟩; refine ⟨_, rfl, ?_⟩; have n0_ := Aside0.mk (below_step (by repeat (first | (with_reducible first | exact HB.out | apply below_alloc | apply pw_below_drewN | apply below_drew1) | exact HB.out)) hb); clear HB; have HB := n0_; clear n0_; (try clear hb); (try clear hb2); (try clear hk); (try clear hi)))
                    go_ret
                    exact ⟨by first | rfl | (simp [errW_none, errW_some] <;> rfl) | (simp [*, errW_none, errW_some] <;> rfl), by repeat (first | (with_reducible first | exact HB.out | apply below_alloc | apply pw_below_drewN | apply below_drew1) | exact HB.out)⟩
                · rw [if_neg c34] at H
                  have c34b0 : decide ((wrap64 (1 + (Int.tmod (wrap64 (a2)) 32))) ≤ t126) = false := decide_eq_false c34
                  clear c34
                  obtain rfl := Option.some.inj H
                  go_wp2_with (first | ((with_reducible refine gate_callee (f := 19) rfl ?_); refine goesL_ (some 81) rfl rfl Try.func19 (by kernel_rfl) rfl #[.int .i64 (Int.tmod (wrap64 (a0)) 6), .int .i64 (wrap64 (1 + (Int.tmod (wrap64 (a1)) (wrap64 (1 + (Int.tmod (wrap64 (a2)) 32)))))), .int .i64 (wrap64 (1 + (Int.tmod (wrap64 (a2)) 32)))] rfl (by (try simp only [List.map_toArray, List.map_cons, List.map_nil]); first | done | rfl | (simp only [List.length_drop, List.length_take]; rfl)) ?_; (with_reducible refine (back_Whole.calls k2 (Int.tmod (wrap64 (a0)) 6) (wrap64 (1 + (Int.tmod (wrap64 (a1)) (wrap64 (1 + (Int.tmod (wrap64 (a2)) 32)))))) (wrap64 (1 + (Int.tmod (wrap64 (a2)) 32))) t126 _ A33.out).mono ?_); rintro e w40 ⟨rfl, hb⟩; refine ⟨_, rfl, ?_⟩; have n0_ := Aside0.mk (below_step (by repeat (first | (with_reducible first | exact HB.out | apply below_alloc | apply pw_below_drewN | apply below_drew1) | exact HB.out)) hb); clear HB; have HB := n0_; clear n0_; (try clear hb); (try clear hb2); (try clear hk); (try clear hi)))
                  go_ret
                  exact ⟨by first | rfl | (simp [errW_none, errW_some] <;> rfl) | (simp [*, errW_none, errW_some] <;> rfl), by repeat (first | (with_reducible first | exact HB.out | apply below_alloc | apply pw_below_drewN | apply below_drew1) | exact HB.out)⟩

/-- THE ONE PURE STATEMENT of draymanlaw15_BackGrows: yours. -/
def draymanlaw15_BackGrows.Pure : Prop := ∀ (a0 : Int) (a1 : Int) (a2 : Int), (Lit.int .u8 a0).wf = true → (Lit.int .u8 a1).wf = true → (Lit.int .u8 a2).wf = true → ∃ k, draymanlaw15_BackGrows.f k a0 a1 a2 = some true
theorem draymanlaw15_BackGrows.walk (P : draymanlaw15_BackGrows.Pure) (a0 : Int) (a1 : Int) (a2 : Int) (w : World) (w0 : (Lit.int .u8 a0).wf = true) (w1 : (Lit.int .u8 a1).wf = true) (w2 : (Lit.int .u8 a2).wf = true) :
    Calls Try.prog 4 #[.int .u8 a0, .int .u8 a1, .int .u8 a2] w fun e w' => e = .returned (.bool true) ∧ Below w.heap.size w w' := by
  obtain ⟨k, h⟩ := P a0 a1 a2 w0 w1 w2
  refine (draymanlaw15_BackGrows.calls k a0 a1 a2 true w h).mono ?_
  rintro e w' ⟨rfl, hd⟩
  exact ⟨rfl, hd⟩

end Go.Proofs.Ytmemlioggcgdmaa.HBack
