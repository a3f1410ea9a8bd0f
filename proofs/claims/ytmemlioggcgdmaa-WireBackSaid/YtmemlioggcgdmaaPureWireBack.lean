/- The plain law of WireBack. No condition but those of the law. -/
import Derived.Test.YtmemlioggcgdmaaE1
import Derived.Test.YtmemlioggcgdmaaPureWireWrites
set_option linter.unusedVariables false
set_option linter.unusedSimpArgs false
namespace Go.Rv.Try
open Go Go.Rv Go.RowKit
variable {α : Type}
theorem badR_size : badR.1.size = 0 := rfl
theorem badR_g : badR.2.1 = false := rfl
theorem rdInt_none {low high : Int} {s : ByteArray} (h : numL s.toList = none) : rdInt low high (s, true, ()) = (0, badR) := by
  unfold rdInt; dsimp only; rw [h]
theorem rdInt_some {low high n : Int} {m : Nat} {s : ByteArray} (h : numL s.toList = some (n, m)) (h1 : low ≤ n) (h2 : n ≤ high) : rdInt low high (s, true, ()) = (n, (s.extract m s.size, true, ())) := by
  unfold rdInt; dsimp only; rw [h]; dsimp only; rw [if_pos ⟨h1, h2⟩]
theorem beqT (l : List UInt8) : (l == l) = true := beq_self_eq_true _
theorem rdDone_bad : rdDone badR = false := rfl
theorem rdDone_nil : rdDone (mkB [], true, ()) = true := rfl
theorem ext_all (s : ByteArray) : s.extract 0 s.size = s := by
  apply L_inj; rw [L_extract, L_size, List.take_length, List.drop_zero]
theorem back2 (s : ByteArray) (hs : s.size ≤ 40) (r r2 : Option α) :
    (wire_Reader_Int (-9223372036854775808) 9223372036854775807 (s, true, ()) fun r29 r30 =>
      wire_Reader_Left r30 fun r31 r32 =>
        cond ((decide ((0 : Int) ≤ (IntKind.i64.wrap ((s.size : Int) - r31)))) && (decide ((IntKind.i64.wrap ((s.size : Int) - r31)) ≤ (s.size : Int))))
          (wire_Reader_Int (-9223372036854775808) 9223372036854775807 ((s.extract 0 (IntKind.i64.wrap ((s.size : Int) - r31)).toNat), true, ()) fun r33 r34 =>
            wire_Reader_Done r34 fun r35 r36 =>
              cond (!(!r35))
                (cond (((decide ((0 : Int) ≤ (IntKind.i64.wrap ((s.size : Int) - r31)))) && (decide ((IntKind.i64.wrap ((s.size : Int) - r31)) ≤ (s.size : Int)))) && ((decide ((0 : Int) ≤ (IntKind.i64.wrap ((s.size : Int) - r31)))) && (decide ((IntKind.i64.wrap ((s.size : Int) - r31)) ≤ (s.size : Int)))))
                  (wire_Int r29 fun r37 =>
                    cond (r37.toList == (s.extract 0 (IntKind.i64.wrap ((s.size : Int) - r31)).toNat).toList) r r2)
                  none)
                r)
          none) = r := by
  have hsz : (s, true, ()).1.size ≤ 4000000000000 := by show s.size ≤ 4000000000000; omega
  rw [rInt_is _ _ _ hsz]
  cases hn : numL s.toList with
  | none =>
    rw [rdInt_none hn]
    dsimp only
    rw [rLeft_is, badR_size]
    have hw : IntKind.i64.wrap ((s.size : Int) - ((0 : Nat) : Int)) = (s.size : Int) := by rw [wrap64 (by omega) (by omega)]; omega
    have hc : (decide ((0 : Int) ≤ (s.size : Int)) && decide ((s.size : Int) ≤ (s.size : Int))) = true := by simp
    rw [hw, hc, cond_true, Int.toNat_natCast, ext_all, rInt_is _ _ _ hsz, rdInt_none hn]
    dsimp only
    rw [rDone_is, rdDone_bad]
    rfl
  | some p =>
    obtain ⟨n, m⟩ := p
    obtain ⟨h1, h2, h3, hok⟩ := numL_le hn
    rw [← L_size] at h3
    rw [rdInt_some hn hok.1 hok.2]
    dsimp only
    rw [rLeft_is]
    have hl : (s.extract m s.size).size = s.size - m := by rw [L_size, L_extract, List.length_drop, List.length_take, ← L_size]; omega
    have hw : IntKind.i64.wrap ((s.size : Int) - (((s.extract m s.size).size : Nat) : Int)) = (m : Int) := by rw [hl, wrap64 (by omega) (by omega)]; omega
    have hc : (decide ((0 : Int) ≤ (m : Int)) && decide ((m : Int) ≤ (s.size : Int))) = true := by simp; omega
    have he : s.extract 0 m = mkB (intL n ++ []) := by
      apply L_inj
      rw [L_extract, List.drop_zero, toL_mkB, List.append_nil, numL_canon hn]
    dsimp only
    rw [hw, hc, cond_true, Int.toNat_natCast, he, rInt_is _ _ _ (by have := intL_len hok; rw [mkB_size, List.length_append]; simp only [List.length_nil]; omega), rdInt_int hok hok.1 hok.2]
    dsimp only
    rw [rDone_is, rdDone_nil, wire_Int_is hok, List.append_nil]
    rw [intB, beqT]
    rfl
theorem intsL_len : ∀ (l : List Int), (∀ x ∈ l, okI x) → (intsL l).length ≤ 9 * l.length
  | [], _ => by simp [intsL]
  | x :: l, h => by
    have h1 := intL_len (h x (by simp))
    have h2 := intsL_len l (fun y hy => h y (by simp [hy]))
    simp only [intsL, List.flatMap_cons, List.length_append, List.length_cons] at h2 ⊢
    omega
theorem il_mem {s : Ints} (hok : ∀ i, i < s.n → okI (s.g i).1) : ∀ x ∈ il s, okI x := by
  intro x hx
  obtain ⟨y, hy, rfl⟩ := List.mem_map.1 hx
  obtain ⟨i, hi, rfl⟩ := List.mem_map.1 hy
  exact hok i (by simpa using hi)
theorem back_loop (kr : Bool → Rdr → Option α) (k0 : ByteArray → Bool → ByteArray → Rdr → Option α) (l : Ints) (hn : l.n ≤ 12) (hok : ∀ i, i < l.n → okI (l.g i).1) (t : ByteArray) (b : Bool) (s : ByteArray) (T : List UInt8) (hT : T.length ≤ 1000) : ∀ (m j N : Nat), j + m = l.n → m < N →
    draymanlaw03_WireBack_l0_run draymanlaw03_awake wire_Ints wire_Flag wire_Text wire_Reader_Int wire_Reader_Flag wire_Reader_Text wire_Reader_Done wire_Reader_Left wire_Int kr k0 N l t b s (j : Int) (mkB (intsL ((il l).drop j) ++ T), true, ()) = k0 t b s (mkB T, true, ()) := by
  intro m
  induction m with
  | zero =>
    intro j N hj hN
    obtain ⟨N, rfl⟩ : ∃ M, N = M + 1 := ⟨N - 1, by omega⟩
    have : ¬ ((j : Int) < (l.n : Int)) := by omega
    rw [draymanlaw03_WireBack_l0_run]; unfold draymanlaw03_WireBack_l0_step
    rw [ltF this, cond_false, il_end l (show l.n ≤ j by omega)]
    rfl
  | succ m ih =>
    intro j N hj hN
    obtain ⟨N, rfl⟩ : ∃ M, N = M + 1 := ⟨N - 1, by omega⟩
    have h1 : (j : Int) < (l.n : Int) := by omega
    have hk := hok j (by omega)
    have hlen : (mkB (intsL ((il l).drop j) ++ T)).size ≤ 4000000000000 := by
      have := intsL_len ((il l).drop j) (fun x hx => il_mem hok x (List.mem_of_mem_drop hx))
      have h2 : ((il l).drop j).length ≤ 12 := by rw [List.length_drop, il_length]; omega
      rw [mkB_size, List.length_append]; omega
    have hd : intsL ((il l).drop j) ++ T = intL (l.g j).1 ++ (intsL ((il l).drop (j + 1)) ++ T) := by
      rw [il_drop l (show j < l.n by omega)]
      simp only [intsL, List.flatMap_cons, List.append_assoc]
    have hr := ih (j + 1) N (by omega) (by omega)
    have hne : ∀ n : Int, (n != n) = false := fun n => by simp
    rw [draymanlaw03_WireBack_l0_run]; unfold draymanlaw03_WireBack_l0_step
    rw [ltT h1, cond_true, nn, Bool.and_self, Bool.and_self, cond_true, rInt_is _ _ _ hlen, hd, rdInt_int hk hk.1 hk.2, toNatC]
    dsimp only
    rw [hne, cond_false, wrap_succ (by omega), hr]
theorem back_main (l : Ints) (t : ByteArray) (b : Bool) (s : ByteArray) (hok : ∀ i, i < l.n → okI (l.g i).1) (k : Bool → Option Unit) : draymanlaw03_WireBack l t b s k = k true := by
  unfold draymanlaw03_WireBack draymanlaw03_WireBack_g
  by_cases h1 : (l.n : Int) > 12
  · rw [decide_eq_true h1, Bool.not_true, cond_false, awake_is]
  rw [decide_eq_false h1, Bool.not_false, cond_true]
  by_cases h2 : (t.size : Int) > 200
  · rw [decide_eq_true h2, Bool.not_true, cond_false, awake_is]
  rw [decide_eq_false h2, Bool.not_false, cond_true]
  by_cases h3 : (s.size : Int) > 40
  · rw [decide_eq_true h3, cond_true, awake_is]
  rw [decide_eq_false h3, cond_false, wire_Ints_is l (by omega) hok, flag_is]
  have hil := intsL_len (il l) (il_mem hok)
  rw [il_length] at hil
  have hts : t.size ≤ 4000000000000 := by omega
  have hi9 := intB_size (n := (t.size : Int)) (by unfold okI; omega)
  have hF : (mkB [if b = true then (1 : UInt8) else 0]).size = 1 := by rw [mkB_size]; rfl
  have hI : (intsB (il l)).size ≤ 108 := by rw [intsB, mkB_size]; omega
  have hT : (textB t).size ≤ 209 := by rw [textB, size_app]; omega
  rw [decide_eq_true (by rw [mx64, hF]; omega), cond_true, wire_Text_is hts, decide_eq_true (by rw [mx64, size_app, hF]; omega), cond_true]
  have hB : (intsB (il l) ++ mkB [if b = true then (1 : UInt8) else 0]) ++ textB t = mkB (intsL (il l) ++ ((if b = true then (1 : UInt8) else 0) :: (intL t.toList.length ++ t.toList ++ []))) := by
    apply L_inj
    rw [L_app, L_app, textB, L_app, intsB, intB, toL_mkB, toL_mkB, toL_mkB, toL_mkB, L_size, List.append_nil, List.append_assoc]
    rfl
  rw [hB]
  have hlen : ((if b = true then (1 : UInt8) else 0) :: (intL t.toList.length ++ t.toList ++ [])).length ≤ 1000 := by
    rw [List.length_cons, List.append_nil, List.length_append, ← L_size]
    rw [intB, mkB_size] at hi9
    omega
  have loop := fun kr k0 => back_loop (α := Unit) kr k0 l (by omega) hok t b s _ hlen l.n 0 1000 (by omega) (by omega)
  rw [show ((0 : Nat) : Int) = 0 from rfl, List.drop_zero] at loop
  rw [loop]
  have hbb : ∀ n : Bool, (n == n) = true := fun n => beq_self_eq_true _
  rw [rFlag_is, rdFlag_flag]
  dsimp only
  have hrest : (mkB (intL t.toList.length ++ t.toList ++ [])).size ≤ 4000000000000 := by
    rw [List.length_cons] at hlen
    rw [mkB_size]; omega
  rw [hbb, Bool.not_true, Bool.not_false, cond_true, rText_is _ _ hrest, rdText_text (by rw [← L_size]; omega) (by rw [← L_size]; omega)]
  dsimp only
  rw [mkB_L, beqT, Bool.not_true, Bool.not_false, cond_true, rDone_is, rdDone_nil, Bool.not_true, cond_false]
  have := back2 s (by omega) (k true) (k false)
  rw [show (fun r38 => k r38) = k from rfl, awake_is]
  exact this
theorem WireBack_true (x0 : Tup (.sl (.int .i64 (.nil)) (.nil))) (x1 : Tup (.str (.nil))) (x2 : Tup (.bool (.nil))) (x3 : Tup (.str (.nil))) (o0 : OkT (.sl (.int .i64 (.nil)) (.nil)) x0) (o1 : OkT (.str (.nil)) x1) (o2 : OkT (.bool (.nil)) x2) (o3 : OkT (.str (.nil)) x3) (k : Bool → Option Unit) : draymanlaw03_WireBack x0.1 x1.1 x2.1 x3.1 k = k true := by
  obtain ⟨l, ⟨⟩⟩ := x0
  obtain ⟨t, ⟨⟩⟩ := x1
  obtain ⟨b, ⟨⟩⟩ := x2
  obtain ⟨s, ⟨⟩⟩ := x3
  have hok : ∀ i, i < l.n → okI (l.g i).1 := fun i hi => wf_ok (o0.1.2.2 i hi).1
  exact back_main l t b s hok k
end Go.Rv.Try
