/- The law MsgPuts, in plain words: true for every input. -/
import Derived.Test.YtkcdjgmialniiaaE1
import Derived.Test.YtkcdjgmialniiaaPureMsgLib3
set_option linter.unusedVariables false
set_option linter.unusedSimpArgs false
namespace Go.Rv.Try
open Go Go.Rv Go.RowKit
theorem MsgPuts_core (x : Env) (e : Ent) (r : Rep) (hx : okV x) (he : okE e) (hr : okR r) (k : Bool → Option Unit) : draymanlaw23_MsgPuts x e r k = k true := by
  unfold draymanlaw23_MsgPuts draymanlaw23_MsgPuts_g
  rw [Put_is hx, ref_Put_is hx, MFit_is, ref_MFit_is, beq_self_eq_true, cond_true, FitReply_is, ref_FitReply_is, beq_self_eq_true, cond_true, PutEntry_is he, ref_PutEntry_is he, beq_self_eq_true, cond_true, PutReply_is hr, ref_PutReply_is hr, beq_self_eq_true, cond_true, beq_self_eq_true, cond_true, beq_self_eq_true, cond_true, awake23_is]
theorem MsgPuts_true (x0 : Tup (.int .i64 (.bool (.int .i64 (.int .i64 (.int .i64 (.int .i64 (.bool (.int .i64 (.int .i64 (.bool (.int .i64 (.int .i64 (.int .i64 (.int .i64 (.bool (.int .i64 (.int .i64 (.nil))))))))))))))))))) (x1 : Tup (.int .i64 (.int .i64 (.int .i64 (.bool (.int .i64 (.int .i64 (.bool (.nil))))))))) (x2 : Tup (.int .i64 (.int .i64 (.int .i64 (.int .i64 (.bool (.int .i64 (.int .i64 (.nil))))))))) (o0 : OkT (.int .i64 (.bool (.int .i64 (.int .i64 (.int .i64 (.int .i64 (.bool (.int .i64 (.int .i64 (.bool (.int .i64 (.int .i64 (.int .i64 (.int .i64 (.bool (.int .i64 (.int .i64 (.nil)))))))))))))))))) x0) (o1 : OkT (.int .i64 (.int .i64 (.int .i64 (.bool (.int .i64 (.int .i64 (.bool (.nil)))))))) x1) (o2 : OkT (.int .i64 (.int .i64 (.int .i64 (.int .i64 (.bool (.int .i64 (.int .i64 (.nil)))))))) x2) (k : Bool → Option Unit) : draymanlaw23_MsgPuts x0 x1 x2 k = k true := by
  obtain ⟨v1, v3, v4, v5, v6, v8, v9, v11, v12, v13, v14, v16, v17, _⟩ := o0
  obtain ⟨e1, e2, e3, e5, e6, _⟩ := o1
  obtain ⟨r1, r2, r3, r4, r6, r7, _⟩ := o2
  exact MsgPuts_core x0 x1 x2 ⟨wf_ok v1, ⟨wf_ok v4, wf_ok v5, wf_ok v6, wf_ok v8, wf_ok v9⟩, wf_ok v11, wf_ok v12, wf_ok v13, wf_ok v14, wf_ok v16, wf_ok v17⟩ ⟨wf_ok e1, wf_ok e2, wf_ok e3, wf_ok e5, wf_ok e6⟩ ⟨wf_ok r1, wf_ok r2, wf_ok r3, wf_ok r4, wf_ok r6, wf_ok r7⟩ k
end Go.Rv.Try
