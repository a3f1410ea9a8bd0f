/- What the library's builder of texts does: the look whether it was copied, and its text; no conditions. Written by a program (hooks.py). -/
import Derived.Test.YtkcdjgmialniiaaProg
import Derived.Test.YtkcdjgmialniiaaRvP
import Derived.Test.YtkcdjgmialniiaaFx
import Derived.Shelf.RegionOpenPlain
import Derived.Lib.Strings
import Derived.Lib.Slices
import Derived.Lib.Walk
import Derived.Lib.Builder
import Derived.Lib.UnsafeStr
import Derived.Lib.MakeNoZero
import Derived.WalkKit
import Derived.Laws.Externs
import Derived.Laws.IdiomCopy
import Derived.Laws.BitsLemmas
namespace Go.Rv.Try
open Go Go.Rv Go.RowKit Go.Proofs
set_option linter.unusedVariables false

theorem bld_size : (Go.Proofs.Try.prog.info? 165).map (·.size) = some 2 := by kernel_rfl
theorem bld_lies : liesAt Go.Proofs.Try.prog Go.Proofs.Try.prog.depth 165 (2 / Go.Proofs.Try.prog.cellsOf 165) 0 165 1 = true := by kernel_rfl
theorem byte_cells : Go.Proofs.Try.prog.cellsOf 5 = 1 := by kernel_rfl

set_option maxHeartbeats 1000000 in
set_option maxRecDepth 100000 in
theorem cc_used (b : Nat) (w : World) (h0 : w.cell? ⟨b, 0, none⟩ = some (.pointer (some ⟨b, 0, none⟩))) :
    Calls Go.Proofs.Try.prog 144 #[.pointer (some ⟨b, 0, none⟩)] w fun e w' => e = .returned (.tuple #[]) ∧ w' = w := by
  obtain ⟨j, hj, _⟩ := Option.map_eq_some_iff.1 bld_size
  go_enter Try.func144, Try.ntmps144
  go_wp2
  rw [Lib.run_neq_ptr_same w _ Try.underlying162 hj]
  go_wp2
  go_end0
  exact ⟨rfl, rfl⟩

set_option maxHeartbeats 1000000 in
set_option maxRecDepth 100000 in
theorem cc_fresh (b : Nat) (w : World) (h0 : w.cell? ⟨b, 0, none⟩ = some (.pointer none)) (hsh : w.shape? b = some (165, 2)) (hfz : w.frozen? ⟨b, 0, none⟩ = false) :
    Calls Go.Proofs.Try.prog 144 #[.pointer (some ⟨b, 0, none⟩)] w fun e w' => e = .returned (.tuple #[]) ∧ w' = w.setCell ⟨b, 0, none⟩ (.pointer (some ⟨b, 0, none⟩)) := by
  obtain ⟨j, hj, hjs⟩ := Option.map_eq_some_iff.1 bld_size
  go_enter Try.func144, Try.ntmps144
  go_wp2
  rw [Lib.run_to_unsafe w ⟨b, 0, none⟩ Try.underlying162 Try.underlying184 hj (by rw [hjs]; decide) hsh (Nat.zero_lt_succ 1)]
  simp only [Result.andThen]
  rw [Oper.upon_value]
  go_wp2
  rw [run_callFunc_extern Try.func149 (by kernel_rfl) (by kernel_rfl) (by kernel_rfl) (e := Extern.AbiNoEscape.same) (by kernel_rfl)]
  rw [Lib.run_noEscape]
  simp only [Result.andThen]
  rw [Oper.upon_value]
  go_wp2
  rw [Lib.run_from_unsafe w ⟨b, 0, none⟩ Try.underlying184 Try.underlying162 hj hsh bld_lies]
  simp only [Result.andThen]
  rw [Oper.upon_value]
  go_wp2
  go_end0
  exact ⟨rfl, rfl⟩

theorem cc_ok : CCOK Go.Proofs.Try.prog 144 165 := by
  intro w k x y hk hx
  rcases hx with rfl | rfl
  · refine (cc_fresh k w (by rw [Lib.cell_of_heap hk]; rfl) (by simp [World.shape?, hk]) (Lib.frozen_of_heap hk 0)).mono ?_
    rintro e w' ⟨rfl, rfl⟩
    have e := setCell_eq_setRow w k 0 #[.pointer none, y] 165 (0, 0) (.pointer (some ⟨k, 0, none⟩)) hk
    rw [e]
    refine ⟨_, rfl, .inr rfl, ?_, fun q hq => ?_, ?_, rfl, rfl, rfl⟩
    · exact setRow_heap w k _ _ _ _ hk
    · exact setRow_other w k q _ (fun e => hq e)
    · simp
  · refine (cc_used k w (by rw [Lib.cell_of_heap hk]; rfl)).mono ?_
    rintro e w' ⟨rfl, rfl⟩
    exact ⟨_, rfl, .inr rfl, hk, fun _ _ => rfl, rfl, rfl, rfl, rfl⟩

theorem toL_bytes (s : ByteArray) (j : Nat) (x : UInt8) (h : s.data.toList[j]? = some x) : byteAt s j = x.toNat := by
  simp only [byteAt, Int.toNat_natCast, h, Option.getD_some]

set_option maxHeartbeats 2000000 in
set_option maxRecDepth 100000 in
theorem bs_any (w : World) (k : Nat) (x : Value) (A : Option Addr) (n cap : Nat) (s : ByteArray) (W' : World) (hk : w.heap[k]? = some (.cells #[x, .slice A n cap] 165 (0, 0))) (hn : n = s.size) (q : Option Addr)
    (hSD : (Builtin.unsafeSliceData_ #[163] 181 #[.slice A n cap]).run Go.Proofs.Try.prog w.drew = .ok (.pointer q) w.drew)
    (hUS : (Builtin.unsafeString_ #[181, 3] 9 #[.pointer q, .int .i64 (n : Int)]).run Go.Proofs.Try.prog w.drew = .ok (.string s) W') :
    Calls Go.Proofs.Try.prog 131 #[.pointer (some ⟨k, 0, none⟩)] w fun e w' => e = .returned (.string s) ∧ w' = W' := by
  have c1 : w.drew.cell? ⟨k, 1, none⟩ = some (.slice A n cap) := by
    have : w.drew.heap[k]? = some (.cells #[x, .slice A n cap] 165 (0, 0)) := hk
    rw [Lib.cell_of_heap this]; rfl
  clear hn
  go_enter Try.func131, Try.ntmps131
  go_wp2
  go_region
  all_goals (go_wp2; go_ret; exact ⟨rfl, rfl⟩)

theorem bs_ok : BSOK Go.Proofs.Try.prog 131 165 5 := by
  intro w k x A n cap s hk hform
  rcases hform with ⟨rfl, rfl, rfl, rfl⟩ | ⟨b, xs, fz, rfl, rfl, hb, hsz, hcap, hpos, hcell⟩
  · refine (bs_any w k x none 0 0 ByteArray.empty w.drew hk rfl none (Lib.run_unsafeSliceData_nil _ _ _ _ _) (Lib.run_unsafeString_none _ _ _ _ _)).mono ?_
    rintro e w' ⟨rfl, rfl⟩
    exact ⟨rfl, fun q _ => rfl, fun b xs fz hb => by (cases hb), rfl, rfl, rfl, rfl⟩
  · have hSD := Lib.run_unsafeSliceData_row (P := Go.Proofs.Try.prog) w.drew #[163] 181 ⟨b, 0, none⟩ s.size cap (by omega)
    by_cases h0 : s.size = 0
    · have hs : s = ByteArray.empty := by
        cases s
        rename_i d
        have hd : d = #[] := Array.eq_empty_of_size_eq_zero h0
        subst hd
        rfl
      subst hs
      refine (bs_any w k x _ _ cap ByteArray.empty w.drew hk rfl _ hSD (Lib.run_unsafeString_none _ _ _ _ _)).mono ?_
      rintro e w' ⟨rfl, rfl⟩
      exact ⟨rfl, fun q _ => rfl, fun b' xs' fz' hb' h2 => ⟨fz', h2⟩, rfl, rfl, rfl, rfl⟩
    · have hl : s.data.toList.length = s.size := Array.length_toList
      have hUS := Lib.run_unsafeString_row (P := Go.Proofs.Try.prog) w.drew 181 3 9 5 Try.underlying181 byte_cells b xs.size (by have hb' : w.drew.heap[b]? = some (.cells xs 5 fz) := hb; simp [World.shape?, hb']) s.data.toList (by intro e; rw [e] at hl; exact h0 hl.symm) (by omega) (by omega) (by
        intro j x hx
        have hj : j < s.size := by rw [← hl]; exact (List.getElem?_eq_some_iff.1 hx).1
        have hb' : w.drew.heap[b]? = some (.cells xs 5 fz) := hb
        rw [addp, Lib.cell_of_heap hb', Nat.zero_add, hcell j hj, toL_bytes s j x hx])
      rw [hl] at hUS
      refine (bs_any w k x _ _ cap s _ hk rfl _ hSD hUS).mono ?_
      rintro e w' ⟨rfl, rfl⟩
      have hB := Lib.below_freeze (B := b) (Below.drew (Below.refl b w)) (p := ⟨b, 0, none⟩) (Nat.le_refl _) s.size
      refine ⟨rfl, fun q hne => ?_, fun b' xs' fz' hb' h2 => ?_, ?_, ?_, ?_, ?_⟩
      · unfold World.freeze
        split
        · rfl
        · have := hne b rfl
          simp only [Array.getElem?_modify, if_neg (Ne.symm this)]
          rfl
      · cases hb'
        rw [hb] at h2
        cases h2
        unfold World.freeze
        split
        · exact ⟨_, hb⟩
        · simp only [Array.getElem?_modify, if_true]
          rw [show w.drew.heap[b]? = some (.cells xs 5 fz) from hb]
          exact ⟨_, rfl⟩
      · unfold World.freeze
        split
        · rfl
        · simp only [Array.size_modify]
          rfl
      · exact hB.os
      · exact hB.tape
      · exact hB.output

def hooks : FuncId → Option Hook := fun f => if Nat.beq f 144 then some (.cc 165) else if Nat.beq f 131 then some (.bstr 165 5) else none
theorem hooks_ok : HooksOK Go.Proofs.Try.prog hooks := by
  intro f h e
  unfold hooks at e
  split at e
  · rename_i hf
    cases e
    have : f = 144 := Nat.eq_of_beq_eq_true hf
    subst this
    exact cc_ok
  · split at e
    · rename_i hf
      cases e
      have : f = 131 := Nat.eq_of_beq_eq_true hf
      subst this
      exact bs_ok
    · cases e
end Go.Rv.Try
