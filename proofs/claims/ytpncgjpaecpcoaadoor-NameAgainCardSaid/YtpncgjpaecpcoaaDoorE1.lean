/- What the functions of the program compute, each with the proof that its code computes it. Written by a program (rvp2.py). -/
import Derived.Test.YtpncgjpaecpcoaaDoorProg
import Derived.Test.YtpncgjpaecpcoaaDoorRvP
import Derived.Test.YtpncgjpaecpcoaaDoorFx
import Derived.Test.YtpncgjpaecpcoaaDoorUtf8
import Derived.Test.YtpncgjpaecpcoaaDoorHooks
import Derived.Test.YtpncgjpaecpcoaaDoorE0

set_option linter.unusedVariables false
set_option maxRecDepth 100000
set_option maxHeartbeats 4000000
namespace Go.Rv.Tryd
open Go Go.Rv Go.RowKit
noncomputable section

-- drayman/draymanref02.Find

abbrev draymanref02_Find_T (α : Type) : Type := (Seq (ByteArray × Unit)) → ByteArray → (Int → Bool → Option α) → Option α

noncomputable def draymanref02_Find_l0_step {α : Type} (k0 : (Seq (ByteArray × Unit)) → (ByteArray) → (Int) → Option α) (rec : (Seq (ByteArray × Unit)) → (ByteArray) → (Int) → Option α) (l3 : Seq (ByteArray × Unit)) (s4 : ByteArray) (i5 : Int) : Option α :=
  (cond (decide (i5 < (l3.n : Int)))
    (cond ((decide ((0 : Int) ≤ i5)) && (decide (i5 < (l3.n : Int))))
      (cond (Op.bytesLess (l3.g i5.toNat).1.toList s4.toList)
        (rec l3 s4 (IntKind.i64.wrap (i5 + 1)))
        (k0 l3 s4 i5))
      none)
    (k0 l3 s4 i5))

noncomputable def draymanref02_Find_l0_run {α : Type} (k0 : (Seq (ByteArray × Unit)) → (ByteArray) → (Int) → Option α) : Nat → (Seq (ByteArray × Unit)) → (ByteArray) → (Int) → Option α
  | 0, _, _, _ => none
  | n + 1, l3, s4, i5 => draymanref02_Find_l0_step k0 (fun l3 s4 i5 => draymanref02_Find_l0_run k0 n l3 s4 i5) l3 s4 i5

noncomputable def draymanref02_Find {α : Type} (l1 : Seq (ByteArray × Unit)) (s2 : ByteArray) (k : Int → Bool → Option α) : Option α :=
  (draymanref02_Find_l0_run
    (fun x6 x7 x8 =>
      (cond (decide (x8 < (x6.n : Int)))
        (cond (((decide ((0 : Int) ≤ x8)) && (decide (x8 < (x6.n : Int)))) && ((decide ((0 : Int) ≤ x8)) && (decide (x8 < (x6.n : Int)))))
          (k x8 ((x6.g x8.toNat).1.toList == x7.toList))
          none)
        (k x8 false)))
    1000 l1 s2 0)

noncomputable def draymanref02_Find_sp {α : Type} (draymanref02_Find : draymanref02_Find_T α) : FunSpec α := ⟨18, [.sl (.str (.nil)), .str], [], fun ds k => draymanref02_Find (hdQ (.str (.nil)) ds) (hdS ds.tail) (fun r1 r2 => k (enc dep (.tup [.int .i64, .bool]) [.i r1, .b r2]).1 [])⟩

noncomputable def draymanref02_Find_spec {α : Type} : FunSpec α := draymanref02_Find_sp draymanref02_Find

noncomputable def draymanref02_Find_C {α : Type} : List (FunSpec α) := []

noncomputable def draymanref02_Find_q : FuncId → Bool := fun f => false

noncomputable def draymanref02_Find_inl : FuncId → Bool := fun f => false

noncomputable def draymanref02_Find_ann : FuncId → AnnT := fun f p => if f = 18 then (if p = [false, true, true] then ⟨[0, 1, 6], [], [0, 1, 6], [4, 5], 0, [], []⟩ else ⟨[], [], [], [], 0, [], []⟩) else ⟨[], [], [], [], 0, [], []⟩

noncomputable def draymanref02_Find_l0_t : List Sh := [.sl (.str (.nil)), .str, .dead, .dead, .dead, .dead, .int .i64, .dead, .dead, .dead, .dead, .dead, .dead, .dead, .dead, .dead, .dead, .dead, .dead, .dead, .dead, .dead, .dead, .dead, .dead, .dead, .dead, .dead, .dead, .dead, .dead, .dead, .dead, .dead]
noncomputable def draymanref02_Find_l0_s : List (List Sh) := []
noncomputable def draymanref02_Find_l0_h : List BSh := []

noncomputable def draymanref02_Find_l0_spec {α : Type} : LoopSpec α := ⟨6, 18, [false, true, true], draymanref02_Find_l0_t, draymanref02_Find_l0_s, draymanref02_Find_l0_h, fun ds k => draymanref02_Find_l0_run (fun y1 y2 y3 => k (.exit 0) (encSt [.sl (.str (.nil)), .str, .dead, .dead, .dead, .dead, .int .i64, .dead, .dead, .dead, .dead, .dead, .dead, .dead, .dead, .dead, .dead, .dead, .dead, .dead, .dead, .dead, .dead, .dead, .dead, .dead, .dead, .dead, .dead, .dead, .dead, .dead, .dead, .dead] [] [] [.q (.str (.nil)) y1, .s y2, .i y3])) 1000 (hdQ (.str (.nil)) ds) (hdS ds.tail) (hdI ds.tail.tail)⟩

noncomputable def draymanref02_Find_loops {α : Type} : List (LoopSpec α) := [draymanref02_Find_l0_spec]

noncomputable def draymanref02_Find_l0_ev {α : Type} (n : Nat) (st : St) (k : X → St → Option α) : Option α := loopN (evCode Go.Proofs.Tryd.prog (callD Go.Proofs.Tryd.prog (envOf (draymanref02_Find_C) draymanref02_Find_q draymanref02_Find_inl 1000 draymanref02_Find_ann false (draymanref02_Find_loops) (fun _ => none)) 6) (((envOf (draymanref02_Find_C) draymanref02_Find_q draymanref02_Find_inl 1000 draymanref02_Find_ann false (draymanref02_Find_loops) (fun _ => none)) : Env α).L 6 18) 1000 (draymanref02_Find_ann 18) (false :: [false, true, true]) (loopC Go.Proofs.Tryd.prog 18 [false, true, true])) ((draymanref02_Find_ann 18 [false, true, true]).head 0) ((draymanref02_Find_ann 18 [false, true, true]).leave 0) n st k

theorem draymanref02_Find_l0_eq {α : Type} : ∀ (n : Nat) (l3 : Seq (ByteArray × Unit)) (s4 : ByteArray) (i5 : Int) (k : X → St → Option α), draymanref02_Find_l0_ev n (encSt draymanref02_Find_l0_t draymanref02_Find_l0_s draymanref02_Find_l0_h [.q (.str (.nil)) l3, .s s4, .i i5]) k = draymanref02_Find_l0_run (fun y1 y2 y3 => k (.exit 0) (encSt [.sl (.str (.nil)), .str, .dead, .dead, .dead, .dead, .int .i64, .dead, .dead, .dead, .dead, .dead, .dead, .dead, .dead, .dead, .dead, .dead, .dead, .dead, .dead, .dead, .dead, .dead, .dead, .dead, .dead, .dead, .dead, .dead, .dead, .dead, .dead, .dead] [] [] [.q (.str (.nil)) y1, .s y2, .i y3])) n l3 s4 i5 := by
  intro n
  induction n with
  | zero => intros; kernel_rfl
  | succ n ih =>
    intro l3 s4 i5 k
    have e : (fun (l3 : Seq (ByteArray × Unit)) (s4 : ByteArray) (i5 : Int) => draymanref02_Find_l0_ev n (encSt draymanref02_Find_l0_t draymanref02_Find_l0_s draymanref02_Find_l0_h [.q (.str (.nil)) l3, .s s4, .i i5]) k) = (fun (l3 : Seq (ByteArray × Unit)) (s4 : ByteArray) (i5 : Int) => draymanref02_Find_l0_run (fun y1 y2 y3 => k (.exit 0) (encSt [.sl (.str (.nil)), .str, .dead, .dead, .dead, .dead, .int .i64, .dead, .dead, .dead, .dead, .dead, .dead, .dead, .dead, .dead, .dead, .dead, .dead, .dead, .dead, .dead, .dead, .dead, .dead, .dead, .dead, .dead, .dead, .dead, .dead, .dead, .dead, .dead] [] [] [.q (.str (.nil)) y1, .s y2, .i y3])) n l3 s4 i5) := by
      funext l3 s4 i5
      exact ih l3 s4 i5 k
    have h1 : draymanref02_Find_l0_ev (n + 1) (encSt draymanref02_Find_l0_t draymanref02_Find_l0_s draymanref02_Find_l0_h [.q (.str (.nil)) l3, .s s4, .i i5]) k = draymanref02_Find_l0_step (fun y1 y2 y3 => k (.exit 0) (encSt [.sl (.str (.nil)), .str, .dead, .dead, .dead, .dead, .int .i64, .dead, .dead, .dead, .dead, .dead, .dead, .dead, .dead, .dead, .dead, .dead, .dead, .dead, .dead, .dead, .dead, .dead, .dead, .dead, .dead, .dead, .dead, .dead, .dead, .dead, .dead, .dead] [] [] [.q (.str (.nil)) y1, .s y2, .i y3])) (fun (l3 : Seq (ByteArray × Unit)) (s4 : ByteArray) (i5 : Int) => draymanref02_Find_l0_ev n (encSt draymanref02_Find_l0_t draymanref02_Find_l0_s draymanref02_Find_l0_h [.q (.str (.nil)) l3, .s s4, .i i5]) k) l3 s4 i5 := by kernel_rfl
    have h2 := congrArg (fun r => draymanref02_Find_l0_step (fun y1 y2 y3 => k (.exit 0) (encSt [.sl (.str (.nil)), .str, .dead, .dead, .dead, .dead, .int .i64, .dead, .dead, .dead, .dead, .dead, .dead, .dead, .dead, .dead, .dead, .dead, .dead, .dead, .dead, .dead, .dead, .dead, .dead, .dead, .dead, .dead, .dead, .dead, .dead, .dead, .dead, .dead] [] [] [.q (.str (.nil)) y1, .s y2, .i y3])) r l3 s4 i5) e
    have h3 : draymanref02_Find_l0_step (fun y1 y2 y3 => k (.exit 0) (encSt [.sl (.str (.nil)), .str, .dead, .dead, .dead, .dead, .int .i64, .dead, .dead, .dead, .dead, .dead, .dead, .dead, .dead, .dead, .dead, .dead, .dead, .dead, .dead, .dead, .dead, .dead, .dead, .dead, .dead, .dead, .dead, .dead, .dead, .dead, .dead, .dead] [] [] [.q (.str (.nil)) y1, .s y2, .i y3])) (fun (l3 : Seq (ByteArray × Unit)) (s4 : ByteArray) (i5 : Int) => draymanref02_Find_l0_run (fun y1 y2 y3 => k (.exit 0) (encSt [.sl (.str (.nil)), .str, .dead, .dead, .dead, .dead, .int .i64, .dead, .dead, .dead, .dead, .dead, .dead, .dead, .dead, .dead, .dead, .dead, .dead, .dead, .dead, .dead, .dead, .dead, .dead, .dead, .dead, .dead, .dead, .dead, .dead, .dead, .dead, .dead] [] [] [.q (.str (.nil)) y1, .s y2, .i y3])) n l3 s4 i5) l3 s4 i5 = draymanref02_Find_l0_run (fun y1 y2 y3 => k (.exit 0) (encSt [.sl (.str (.nil)), .str, .dead, .dead, .dead, .dead, .int .i64, .dead, .dead, .dead, .dead, .dead, .dead, .dead, .dead, .dead, .dead, .dead, .dead, .dead, .dead, .dead, .dead, .dead, .dead, .dead, .dead, .dead, .dead, .dead, .dead, .dead, .dead, .dead] [] [] [.q (.str (.nil)) y1, .s y2, .i y3])) (n + 1) l3 s4 i5 := by kernel_rfl
    exact h1.trans (h2.trans h3)

theorem draymanref02_Find_l0_ok {α : Type} : (draymanref02_Find_l0_spec : LoopSpec α).ok Go.Proofs.Tryd.prog (envOf (draymanref02_Find_C) draymanref02_Find_q draymanref02_Find_inl 1000 draymanref02_Find_ann false (draymanref02_Find_loops) (fun _ => none)) := by
  intro ds k
  have h1 : draymanref02_Find_l0_ev 1000 (encSt draymanref02_Find_l0_t draymanref02_Find_l0_s draymanref02_Find_l0_h ds) k = draymanref02_Find_l0_ev 1000 (encSt draymanref02_Find_l0_t draymanref02_Find_l0_s draymanref02_Find_l0_h [.q (.str (.nil)) (hdQ (.str (.nil)) ds), .s (hdS ds.tail), .i (hdI ds.tail.tail)]) k := by kernel_rfl
  have h2 := draymanref02_Find_l0_eq 1000 (hdQ (.str (.nil)) ds) (hdS ds.tail) (hdI ds.tail.tail) k
  exact h1.trans h2

theorem draymanref02_Find_ev {α : Type} : EvOk (α := α) Go.Proofs.Tryd.prog (envOf (draymanref02_Find_C) draymanref02_Find_q draymanref02_Find_inl 1000 draymanref02_Find_ann false (draymanref02_Find_loops) (fun _ => none)) 6 (draymanref02_Find_sp (draymanref02_Find)) := by intro ds k; kernel_rfl

theorem draymanref02_Find_ok {α : Type} : (draymanref02_Find_spec : FunSpec α).ok Go.Proofs.Tryd.prog :=
  FunSpec.ok_of (sp := draymanref02_Find_spec) (C := draymanref02_Find_C) (q := draymanref02_Find_q) (inl := draymanref02_Find_inl) (N := 1000) (ann := draymanref02_Find_ann) (fr := false) (D := 6) (l := (draymanref02_Find_loops)) (hk := (fun _ => none)) okNil (lokCons (draymanref02_Find_l0_ok) lokNil) noHooks (draymanref02_Find_ev)

end
end Go.Rv.Tryd
