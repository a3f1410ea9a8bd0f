/- The law MsgTakes, in plain words: true for every input. -/
import Derived.Test.YtkcdjgmialniiaaE1
import Derived.Test.YtkcdjgmialniiaaPureMsgLib3
set_option linter.unusedVariables false
set_option linter.unusedSimpArgs false
namespace Go.Rv.Try
open Go Go.Rv Go.RowKit
theorem MsgTakes_core (s : ByteArray) (k : Bool → Option Unit) : draymanlaw23_MsgTakes s k = k true := by
  unfold draymanlaw23_MsgTakes draymanlaw23_MsgTakes_g
  by_cases h : (s.size : Int) > 200
  · rw [cT h, awake23_is]
  · have hs : s.size ≤ 4000000000000 := by omega
    have h0 : SzR (s, true, ()) := hs
    rw [cF h, Take_is hs, ref_Take_is hs, env_beq, decide_eq_true rfl, cond_true, beq_self_eq_true, cond_true, show ((s, false, ()) : Rdr) = flip (s, true, ()) from rfl, TakeEntry_is h0, ref_TakeEntry_is h0, ent_beq, decide_eq_true rfl, cond_true, rLeft_is, ref_rLeft_is, beq_self_eq_true, cond_true, rDone_is, ref_Done_is, beq_self_eq_true, cond_true, TakeReply_is h0, ref_TakeReply_is h0, rep_beq, decide_eq_true rfl, cond_true, rLeft_is, ref_rLeft_is, beq_self_eq_true, cond_true, rDone_is, ref_Done_is, beq_self_eq_true, cond_true, awake23_is]
theorem MsgTakes_true (x0 : Tup (.str (.nil))) (o0 : OkT (.str (.nil)) x0) (k : Bool → Option Unit) : draymanlaw23_MsgTakes x0.1 k = k true := MsgTakes_core x0.1 k
end Go.Rv.Try
