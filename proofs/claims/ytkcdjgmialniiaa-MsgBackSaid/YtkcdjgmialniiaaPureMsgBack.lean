/- The law MsgBack, in plain words: true for every input. -/
import Derived.Test.YtkcdjgmialniiaaE1
import Derived.Test.YtkcdjgmialniiaaPureMsgLib3
set_option linter.unusedVariables false
set_option linter.unusedSimpArgs false
namespace Go.Rv.Try
open Go Go.Rv Go.RowKit
variable {α : Type}
theorem envL_len {x : Env} (h : okV x) : 2 ≤ (envL x []).length ∧ (envL x []).length ≤ 100 := by
  obtain ⟨h1, h2, h3⟩ := h
  have l1 := intL_len h1; have l2 := entL_len h2; have l3 := repL_len h3
  have l4 := intL_one (show 0 < (1 : Int) ∧ (1 : Int) < 128 by omega)
  unfold envL
  cases x.2.1 <;> simp only [List.length_append, List.length_cons, if_true, Bool.false_eq_true, if_false] <;> omega
theorem put_took {s : ByteArray} (h : (takeS s).2 = 0) : okV (takeS s).1 ∧ putS (takeS s).1 = (s, 0) := by
  obtain ⟨h1, h2, h3⟩ := take_stood h
  refine ⟨h1, ?_⟩
  unfold putS
  rw [h2, if_pos rfl, ← h3]
theorem back_one (x : Env) (hx : okV x) (k : Bool → Option α) :
    (msg_Put x fun r20 r21 =>
      (cond (r21 != 0)
        (cond (r20.toList == (⟨#[]⟩ : ByteArray).toList)
          (msg_Fit x fun r22 =>
            (cond (!r22)
              (k true)
              (k false)))
          (k false))
        (cond (r20.toList == (⟨#[]⟩ : ByteArray).toList)
          (k false)
          (msg_Take r20 fun r24 r25 =>
            (cond (Nat.ble ((r20).size + ((⟨#[0]⟩ : ByteArray)).size) 9223372036854775807)
              (msg_Take (r20 ++ (⟨#[0]⟩ : ByteArray)) fun r26 r27 =>
                (cond ((decide ((0 : Int) ≤ (IntKind.i64.wrap ((r20.size : Int) - 1)))) && (decide ((IntKind.i64.wrap ((r20.size : Int) - 1)) ≤ (r20.size : Int))))
                  (msg_Take (r20.extract 0 (IntKind.i64.wrap ((r20.size : Int) - 1)).toNat) fun r28 r29 =>
                    (cond (r25 == 0)
                      (cond (decide (r24 = x))
                        (cond (r27 == 7)
                          (cond (r29 == 7)
                            (k true)
                            (k false))
                          (k false))
                        (k false))
                      (k false)))
                  none))
              none))))) = k true := by
  rw [Put_is hx]
  unfold putS
  cases hf : fitEnv x with
  | false =>
    show cond (((⟨#[]⟩ : ByteArray)).toList == (⟨#[]⟩ : ByteArray).toList) (msg_Fit x _) _ = _
    rw [beq_self_eq_true, cond_true, MFit_is, hf]
    rfl
  | true =>
    obtain ⟨hl1, hl2⟩ := envL_len hx
    simp only [if_true]
    rw [bneF rfl, cond_false, show (⟨#[]⟩ : ByteArray) = mkB [] from rfl, L_beq, decide_eq_false, cond_false, mkB_size, Take_is (by rw [mkB_size]; omega), take_put hx hf, if_pos rfl]
    · have e0 : (⟨#[0]⟩ : ByteArray) = mkB [0] := rfl
      rw [e0, mkB_size, bleT (by simp only [List.length_cons, List.length_nil]; omega), cond_true, mkB_app]
      have happ : envL x [] ++ [0] = envL x [0] := by
        unfold envL entL repL
        cases x.2.1 <;> simp only [if_true, Bool.false_eq_true, if_false, List.append_assoc, List.cons_append, List.nil_append, List.append_nil]
      rw [Take_is (by rw [mkB_size, List.length_append]; simp only [List.length_cons, List.length_nil]; omega), happ, take_put hx hf, if_neg (by decide)]
      rw [wrap64 (by omega) (by omega)]
      have hc : (decide ((0 : Int) ≤ ((envL x []).length : Int) - 1) && decide (((envL x []).length : Int) - 1 ≤ ((envL x []).length : Int))) = true := by simp; omega
      rw [hc, cond_true]
      have hsz : ((mkB (envL x [])).extract 0 (((envL x []).length : Int) - 1).toNat).size ≤ 4000000000000 := Nat.le_trans (ext_size _ _ _) (by rw [mkB_size]; omega)
      rw [Take_is hsz]
      have hlast : takeS ((mkB (envL x [])).extract 0 (((envL x []).length : Int) - 1).toNat) = (zV, 7) := by
        generalize hs : (mkB (envL x [])).extract 0 (((envL x []).length : Int) - 1).toNat = s
        by_cases h0 : (takeS s).2 = 0
        · exfalso
          obtain ⟨o1, o2, o3⟩ := take_stood h0
          generalize takeS s = p at o1 o2 o3
          have hsl : s.toList = (envL x []).take ((envL x []).length - 1) := by
            rw [← hs, L_extract, toL_mkB, List.drop_zero]
            congr 1; omega
          have hs2 : s.toList = envL p.1 [] := by rw [o3, toL_mkB]
          have hx2 : envL x [] = envL p.1 ((envL x []).drop ((envL x []).length - 1)) := by
            have e := List.take_append_drop ((envL x []).length - 1) (envL x [])
            have e2 : envL p.1 [] ++ (envL x []).drop ((envL x []).length - 1) = envL p.1 ((envL x []).drop ((envL x []).length - 1)) := by
              generalize (envL x []).drop ((envL x []).length - 1) = t
              unfold envL entL repL
              cases p.1.2.1 <;> simp only [if_true, Bool.false_eq_true, if_false, List.append_assoc, List.cons_append, List.nil_append, List.append_nil]
            rw [← hsl, hs2, e2] at e
            exact e.symm
          have t1 := take_put hx hf []
          rw [if_pos rfl, hx2, take_put o1 o2, if_neg] at t1
          · cases (congrArg Prod.snd t1)
          · intro e
            have := congrArg List.length e
            rw [List.length_drop, List.length_nil] at this
            omega
        · unfold takeS tellS at h0 ⊢
          split
          · rename_i hh; rw [if_pos hh] at h0; exact absurd rfl h0
          · rfl
      rw [hlast]
      simp only [beq_self_eq_true, cond_true, decide_true]
    · intro e
      have := congrArg ByteArray.size e
      rw [mkB_size, mkB_size] at this
      simp only [List.length_nil] at this
      omega
theorem back_raw (x : Env) (hx : okV x) (k : Bool → Option α) :
    (msg_Put x fun r20 r21 =>
      (cond (r21 != 0)
        (cond (r20.toList == (⟨#[]⟩ : ByteArray).toList)
          (msg_Fit x fun r22 =>
            (cond (!r22)
              (draymanlaw23_awake fun r23 =>
                (k r23))
              (k false)))
          (k false))
        (cond (r20.toList == (⟨#[]⟩ : ByteArray).toList)
          (k false)
          (msg_Take r20 fun r24 r25 =>
            (cond (Nat.ble ((r20).size + ((⟨#[0]⟩ : ByteArray)).size) 9223372036854775807)
              (msg_Take (r20 ++ (⟨#[0]⟩ : ByteArray)) fun r26 r27 =>
                (cond ((decide ((0 : Int) ≤ (IntKind.i64.wrap ((r20.size : Int) - 1)))) && (decide ((IntKind.i64.wrap ((r20.size : Int) - 1)) ≤ (r20.size : Int))))
                  (msg_Take (r20.extract 0 (IntKind.i64.wrap ((r20.size : Int) - 1)).toNat) fun r28 r29 =>
                    (cond (r25 == 0)
                      (cond ((r24.1 == x.1) && ((r24.2.1 == x.2.1) && ((r24.2.2.1 == x.2.2.1) && (((r24.2.2.2.1 == x.2.2.2.1) && ((r24.2.2.2.2.1 == x.2.2.2.2.1) && ((r24.2.2.2.2.2.1 == x.2.2.2.2.2.1) && ((r24.2.2.2.2.2.2.1 == x.2.2.2.2.2.2.1) && ((r24.2.2.2.2.2.2.2.1 == x.2.2.2.2.2.2.2.1) && ((r24.2.2.2.2.2.2.2.2.1 == x.2.2.2.2.2.2.2.2.1) && ((r24.2.2.2.2.2.2.2.2.2.1 == x.2.2.2.2.2.2.2.2.2.1) && true))))))) && (((r24.2.2.2.2.2.2.2.2.2.2.1 == x.2.2.2.2.2.2.2.2.2.2.1) && ((r24.2.2.2.2.2.2.2.2.2.2.2.1 == x.2.2.2.2.2.2.2.2.2.2.2.1) && ((r24.2.2.2.2.2.2.2.2.2.2.2.2.1 == x.2.2.2.2.2.2.2.2.2.2.2.2.1) && ((r24.2.2.2.2.2.2.2.2.2.2.2.2.2.1 == x.2.2.2.2.2.2.2.2.2.2.2.2.2.1) && ((r24.2.2.2.2.2.2.2.2.2.2.2.2.2.2.1 == x.2.2.2.2.2.2.2.2.2.2.2.2.2.2.1) && ((r24.2.2.2.2.2.2.2.2.2.2.2.2.2.2.2.1 == x.2.2.2.2.2.2.2.2.2.2.2.2.2.2.2.1) && ((r24.2.2.2.2.2.2.2.2.2.2.2.2.2.2.2.2.1 == x.2.2.2.2.2.2.2.2.2.2.2.2.2.2.2.2.1) && true))))))) && true)))))
                        (cond (r27 == 7)
                          (cond (r29 == 7)
                            (draymanlaw23_awake fun r30 =>
                              (k r30))
                            (k false))
                          (k false))
                        (k false))
                      (k false)))
                  none))
              none))))) = k true := by
  simp only [awake23_is]
  simp only [env_beq]
  exact back_one x hx k
theorem tail_is {e : Ent} {r : Rep} (he : okE e) (hr : okR r) (k : Bool → Option α) (K : Option α) :
    (msg_PutEntry e fun r10 =>
      (msg_PutReply r fun r11 =>
        (msg_TakeEntry (r10, true, ()) fun r12 r13 =>
          (cond (!(!((r12.1 == e.1) && ((r12.2.1 == e.2.1) && ((r12.2.2.1 == e.2.2.1) && ((r12.2.2.2.1 == e.2.2.2.1) && ((r12.2.2.2.2.1 == e.2.2.2.2.1) && ((r12.2.2.2.2.2.1 == e.2.2.2.2.2.1) && ((r12.2.2.2.2.2.2.1 == e.2.2.2.2.2.2.1) && true)))))))))
            (wire_Reader_Done r13 fun r14 r15 =>
              (cond (!(!r14))
                (msg_TakeReply (r11, true, ()) fun r16 r17 =>
                  (cond (!(!((r16.1 == r.1) && ((r16.2.1 == r.2.1) && ((r16.2.2.1 == r.2.2.1) && ((r16.2.2.2.1 == r.2.2.2.1) && ((r16.2.2.2.2.1 == r.2.2.2.2.1) && ((r16.2.2.2.2.2.1 == r.2.2.2.2.2.1) && ((r16.2.2.2.2.2.2.1 == r.2.2.2.2.2.2.1) && true)))))))))
                    (wire_Reader_Done r17 fun r18 r19 =>
                      (cond (!r18)
                        (k false)
                        K))
                    (k false)))
                (k false)))
            (k false))))) = K := by
  have le := entL_len he
  have lr := repL_len hr
  have hE : SzR (mkB (entL e []), true, ()) := by show (mkB (entL e [])).size ≤ _; rw [mkB_size]; omega
  have hR : SzR (mkB (repL r []), true, ()) := by show (mkB (repL r [])).size ≤ _; rw [mkB_size]; omega
  simp only [ent_beq, rep_beq]
  have cc : ∀ {b : Bool} {x y : Option α}, b = true → cond (!(!b)) x y = x := fun h => by rw [h]; rfl
  rw [PutEntry_is he, PutReply_is hr, TakeEntry_is hE, rdEnt_put he, cc (decide_eq_true rfl), rDone_is, cc (show rdDone (mkB [], true, ()) = true from rfl), TakeReply_is hR, rdRep_put hr, cc (decide_eq_true rfl), rDone_is]
  rfl
theorem MsgBack_core (x : Env) (e : Ent) (r : Rep) (s : ByteArray) (hx : okV x) (he : okE e) (hr : okR r) (k : Bool → Option Unit) : draymanlaw23_MsgBack x e r s k = k true := by
  unfold draymanlaw23_MsgBack draymanlaw23_MsgBack_g
  by_cases h : (s.size : Int) > 200
  · rw [cT h, awake23_is]
  · have hs : s.size ≤ 4000000000000 := by omega
    rw [cF h, Take_is hs]
    by_cases h0 : (takeS s).2 = 0
    · obtain ⟨o1, o2⟩ := put_took h0
      rw [beqT h0, cond_true, Put_is o1, o2, bneF rfl, Bool.not_false, cond_true, beq_self_eq_true, Bool.not_true, cond_false]
      exact (tail_is he hr k _).trans (back_raw x hx k)
    · rw [beqF h0, cond_false]
      exact (tail_is he hr k _).trans (back_raw x hx k)
theorem MsgBack_true (x0 : Tup (.int .i64 (.bool (.int .i64 (.int .i64 (.int .i64 (.int .i64 (.bool (.int .i64 (.int .i64 (.bool (.int .i64 (.int .i64 (.int .i64 (.int .i64 (.bool (.int .i64 (.int .i64 (.nil))))))))))))))))))) (x1 : Tup (.int .i64 (.int .i64 (.int .i64 (.bool (.int .i64 (.int .i64 (.bool (.nil))))))))) (x2 : Tup (.int .i64 (.int .i64 (.int .i64 (.int .i64 (.bool (.int .i64 (.int .i64 (.nil))))))))) (x3 : Tup (.str (.nil))) (o0 : OkT (.int .i64 (.bool (.int .i64 (.int .i64 (.int .i64 (.int .i64 (.bool (.int .i64 (.int .i64 (.bool (.int .i64 (.int .i64 (.int .i64 (.int .i64 (.bool (.int .i64 (.int .i64 (.nil)))))))))))))))))) x0) (o1 : OkT (.int .i64 (.int .i64 (.int .i64 (.bool (.int .i64 (.int .i64 (.bool (.nil)))))))) x1) (o2 : OkT (.int .i64 (.int .i64 (.int .i64 (.int .i64 (.bool (.int .i64 (.int .i64 (.nil)))))))) x2) (o3 : OkT (.str (.nil)) x3) (k : Bool → Option Unit) : draymanlaw23_MsgBack x0 x1 x2 x3.1 k = k true := by
  obtain ⟨v1, v3, v4, v5, v6, v8, v9, v11, v12, v13, v14, v16, v17, _⟩ := o0
  obtain ⟨e1, e2, e3, e5, e6, _⟩ := o1
  obtain ⟨r1, r2, r3, r4, r6, r7, _⟩ := o2
  exact MsgBack_core x0 x1 x2 x3.1 ⟨wf_ok v1, ⟨wf_ok v4, wf_ok v5, wf_ok v6, wf_ok v8, wf_ok v9⟩, wf_ok v11, wf_ok v12, wf_ok v13, wf_ok v14, wf_ok v16, wf_ok v17⟩ ⟨wf_ok e1, wf_ok e2, wf_ok e3, wf_ok e5, wf_ok e6⟩ ⟨wf_ok r1, wf_ok r2, wf_ok r3, wf_ok r4, wf_ok r6, wf_ok r7⟩ k
end Go.Rv.Try
