/- The plain law of WireReads. No condition but those of the law. -/
import Derived.Test.YtmemlioggcgdmaaE1
import Derived.Test.YtmemlioggcgdmaaPureWireWrites
set_option linter.unusedVariables false
set_option linter.unusedSimpArgs false
namespace Go.Rv.Try
open Go Go.Rv Go.RowKit
variable {α : Type}
abbrev Asks := Seq (Int × Int × Int × Unit)
theorem reads_loop (kr : Bool → Rdr → Rdr → Option α) (k0 : Rdr → Rdr → Option α) (s : Asks) (hn : s.n ≤ 900) (hk0 : ∀ x, k0 x (flip x) = kr true x (flip x)) (r : Option α) (hk : ∀ x y, kr true x y = r) : ∀ (m j N : Nat) (x : Rdr), j + m = s.n → m < N → x.1.size ≤ 300 →
    draymanlaw03_WireReads_l0_run draymanlaw03_awake wire_Reader_Int draymanref03_Reader_Int wire_Reader_Left draymanref03_Reader_Left wire_Reader_Done draymanref03_Reader_Done wire_Reader_Flag draymanref03_Reader_Flag wire_Reader_Text draymanref03_Reader_Text wire_Reader_List draymanref03_Reader_List kr k0 N s (j : Int) x (flip x) = r := by
  intro m
  induction m with
  | zero =>
    intro j N x hj hN hx
    obtain ⟨N, rfl⟩ : ∃ M, N = M + 1 := ⟨N - 1, by omega⟩
    have : ¬ ((j : Int) < (s.n : Int)) := by omega
    rw [draymanlaw03_WireReads_l0_run]; unfold draymanlaw03_WireReads_l0_step
    rw [ltF this, cond_false, hk0, hk]
  | succ m ih =>
    intro j N x hj hN hx
    obtain ⟨N, rfl⟩ : ∃ M, N = M + 1 := ⟨N - 1, by omega⟩
    have h1 : (j : Int) < (s.n : Int) := by omega
    have hz : x.1.size ≤ 4000000000000 := by omega
    have hbI : ∀ n : Int, (n == n) = true := fun n => beq_self_eq_true _
    have hbB : ∀ n : Bool, (n == n) = true := fun n => beq_self_eq_true _
    have hbL : ∀ n : List UInt8, (n == n) = true := fun n => beq_self_eq_true _
    have hne : ∀ n : Int, (n != n) = false := fun n => by simp
    rw [draymanlaw03_WireReads_l0_run]; unfold draymanlaw03_WireReads_l0_step
    rw [ltT h1, cond_true]
    simp only [inb (show j < s.n by omega), toNatC, cond_true, nn, ltT h1, Bool.and_self]
    have hw := wrap_succ (show j < 9223372036854775807 by omega)
    cases h0 : ((s.g j).1 == 0) with
    | true =>
      rw [cond_true, rInt_is _ _ _ hz, ref_rInt_is _ _ _ hz, hbI, Bool.not_true, Bool.not_false, cond_true, rLeft_is, ref_rLeft_is, hne, Bool.not_false, cond_true, rDone_is, ref_rDone_is, hbB, Bool.not_true, cond_false, hw]
      exact ih (j + 1) N _ (by omega) (by omega) (Nat.le_trans (rdInt_size _ _ _) hx)
    | false =>
      rw [cond_false]
      cases h2 : ((s.g j).1 == 1) with
      | true =>
        rw [cond_true, rFlag_is, ref_rFlag_is, hbB, Bool.not_true, Bool.not_false, cond_true, rLeft_is, ref_rLeft_is, hne, Bool.not_false, cond_true, rDone_is, ref_rDone_is, hbB, Bool.not_true, cond_false, hw]
        exact ih (j + 1) N _ (by omega) (by omega) (Nat.le_trans (rdFlag_size _) hx)
      | false =>
        rw [cond_false]
        cases h3 : ((s.g j).1 == 2) with
        | true =>
          rw [cond_true, rText_is _ _ hz, ref_rText_is _ _ hz, hbL, Bool.not_true, Bool.not_false, cond_true, rLeft_is, ref_rLeft_is, hne, Bool.not_false, cond_true, rDone_is, ref_rDone_is, hbB, Bool.not_true, cond_false, hw]
          exact ih (j + 1) N _ (by omega) (by omega) (Nat.le_trans (rdText_size _ _) hx)
        | false =>
          rw [cond_false, rList_is _ _ hz, ref_rList_is _ _ hz, hbI, Bool.not_true, Bool.not_false, cond_true, rLeft_is, ref_rLeft_is, hne, Bool.not_false, cond_true, rDone_is, ref_rDone_is, hbB, Bool.not_true, cond_false, hw]
          exact ih (j + 1) N _ (by omega) (by omega) (Nat.le_trans (rdList_size _ _) hx)
theorem WireReads_true (x0 : Tup (.str (.nil))) (x1 : Tup (.sl (.int .i64 (.int .i64 (.int .i64 (.nil)))) (.nil))) (o0 : OkT (.str (.nil)) x0) (o1 : OkT (.sl (.int .i64 (.int .i64 (.int .i64 (.nil)))) (.nil)) x1) (k : Bool → Option Unit) : draymanlaw03_WireReads x0.1 x1.1 k = k true := by
  obtain ⟨s, ⟨⟩⟩ := x0
  obtain ⟨l, ⟨⟩⟩ := x1
  show draymanlaw03_WireReads s l k = k true
  unfold draymanlaw03_WireReads draymanlaw03_WireReads_g
  by_cases h1 : (s.size : Int) > 300
  · rw [decide_eq_true h1, Bool.not_true, cond_false]; simp only [awake_is]
  rw [decide_eq_false h1, Bool.not_false, cond_true]
  by_cases h2 : (l.n : Int) > 20
  · rw [decide_eq_true h2, cond_true, awake_is]
  rw [decide_eq_false h2, cond_false]
  have := reads_loop (α := Unit) (fun x56 x57 x58 => k x56) (fun x59 x60 => draymanlaw03_awake fun r61 => k r61) l (by omega) (fun x => awake_is _) (k true) (fun _ _ => rfl) l.n 0 1000 (s, true, ()) (by omega) (by omega) (by show s.size ≤ 300; omega)
  rw [show ((0 : Nat) : Int) = 0 from rfl] at this
  exact this
end Go.Rv.Try
