/- What the functions of the program compute, each with the proof that its code computes it. Written by a program (rvp2.py). -/
import Derived.Test.YtkcdjgmialniiaaProg
import Derived.Test.YtkcdjgmialniiaaRvP
import Derived.Test.YtkcdjgmialniiaaFx
import Derived.Test.YtkcdjgmialniiaaHooks
import Derived.Test.YtkcdjgmialniiaaE0

set_option linter.unusedVariables false
set_option maxRecDepth 100000
set_option maxHeartbeats 4000000
namespace Go.Rv.Try
open Go Go.Rv Go.RowKit
noncomputable section

-- drayman/draymanref03.Int

abbrev draymanref03_Int_T (α : Type) : Type := Int → (ByteArray → Option α) → Option α

noncomputable def draymanref03_Int_l0_step {α : Type} (draymanref03_place : draymanref03_place_T α) (k0 : (ByteArray) → (Int) → Option α) (rec : (Int) → (ByteArray) → (Int) → Option α) (p3 : Int) (s4 : ByteArray) (x5 : Int) : Option α :=
  (cond (decide (p3 > 0))
    (cond (Nat.ble (((bytesT 1 (fun _ => ((IntKind.u8.wrap (Int.tmod p3 256)), ())))).size + (s4).size) 9223372036854775807)
      (rec (IntKind.u64.wrap (Int.tdiv p3 256)) ((bytesT 1 (fun _ => ((IntKind.u8.wrap (Int.tmod p3 256)), ()))) ++ s4) (IntKind.i64.wrap (x5 + 1)))
      none)
    (k0 s4 x5))

noncomputable def draymanref03_Int_l0_run {α : Type} (draymanref03_place : draymanref03_place_T α) (k0 : (ByteArray) → (Int) → Option α) : Nat → (Int) → (ByteArray) → (Int) → Option α
  | 0, _, _, _ => none
  | n + 1, p3, s4, x5 => draymanref03_Int_l0_step draymanref03_place k0 (fun p3 s4 x5 => draymanref03_Int_l0_run draymanref03_place k0 n p3 s4 x5) p3 s4 x5

noncomputable def draymanref03_Int_g {α : Type} (draymanref03_place : draymanref03_place_T α) (n1 : Int) (k : ByteArray → Option α) : Option α :=
  (draymanref03_place n1 fun r2 =>
    (draymanref03_Int_l0_run draymanref03_place
      (fun x6 x7 =>
        (cond (Nat.ble (((bytesT 1 (fun _ => ((IntKind.u8.wrap x7), ())))).size + (x6).size) 9223372036854775807)
          (k ((bytesT 1 (fun _ => ((IntKind.u8.wrap x7), ()))) ++ x6))
          none))
      1000 r2 (⟨#[]⟩ : ByteArray) 0))

noncomputable def draymanref03_Int {α : Type} : draymanref03_Int_T α := draymanref03_Int_g draymanref03_place

noncomputable def draymanref03_Int_sp {α : Type} (draymanref03_Int : draymanref03_Int_T α) : FunSpec α := ⟨100, [.int .i64], [], fun ds k => draymanref03_Int (hdI ds) (fun r1 => k (enc dep (.str) [.s r1]).1 [])⟩

noncomputable def draymanref03_Int_spec {α : Type} : FunSpec α := draymanref03_Int_sp draymanref03_Int

noncomputable def draymanref03_Int_C {α : Type} (draymanref03_place : draymanref03_place_T α) : List (FunSpec α) := [draymanref03_place_sp draymanref03_place]

noncomputable def draymanref03_Int_q : FuncId → Bool := fun f => Nat.beq f 132

noncomputable def draymanref03_Int_inl : FuncId → Bool := fun f => false

noncomputable def draymanref03_Int_ann : FuncId → AnnT := fun f p => if f = 100 then (if p = [false, true, true, true] then ⟨[3, 4, 5], [], [4, 5], [2], 0, [], [], none⟩ else ⟨[], [], [], [], 0, [], [], none⟩) else ⟨[], [], [], [], 0, [], [], none⟩

noncomputable def draymanref03_Int_l0_t : List Sh := [.dead, .dead, .dead, .int .u64, .str, .int .i64, .dead, .dead, .dead, .dead, .dead, .dead, .dead, .dead, .dead, .dead, .dead, .dead, .dead, .dead, .dead, .dead, .dead, .dead, .dead, .dead, .dead]
noncomputable def draymanref03_Int_l0_s : List (List Sh) := []
noncomputable def draymanref03_Int_l0_h : List BSh := []

noncomputable def draymanref03_Int_l0_spec {α : Type} (draymanref03_place : draymanref03_place_T α) : LoopSpec α := ⟨6, 100, [false, true, true, true], draymanref03_Int_l0_t, draymanref03_Int_l0_s, draymanref03_Int_l0_h, fun ds k => draymanref03_Int_l0_run draymanref03_place (fun y1 y2 => k (.exit 0) (encSt [.dead, .dead, .dead, .dead, .str, .int .i64, .dead, .dead, .dead, .dead, .dead, .dead, .dead, .dead, .dead, .dead, .dead, .dead, .dead, .dead, .dead, .dead, .dead, .dead, .dead, .dead, .dead] [] [] [.s y1, .i y2])) 1000 (hdI ds) (hdS ds.tail) (hdI ds.tail.tail)⟩

noncomputable def draymanref03_Int_loops {α : Type} (draymanref03_place : draymanref03_place_T α) : List (LoopSpec α) := [draymanref03_Int_l0_spec draymanref03_place]

noncomputable def draymanref03_Int_l0_ev {α : Type} (draymanref03_place : draymanref03_place_T α) (n : Nat) (st : St) (k : X → St → Option α) : Option α := loopN (evCode Go.Proofs.Try.prog (callD Go.Proofs.Try.prog (envOf (draymanref03_Int_C draymanref03_place) draymanref03_Int_q draymanref03_Int_inl 1000 draymanref03_Int_ann false (draymanref03_Int_loops draymanref03_place) (fun _ => none)) 6) (((envOf (draymanref03_Int_C draymanref03_place) draymanref03_Int_q draymanref03_Int_inl 1000 draymanref03_Int_ann false (draymanref03_Int_loops draymanref03_place) (fun _ => none)) : Env α).L 6 100) 1000 (draymanref03_Int_ann 100) (false :: [false, true, true, true]) (loopC Go.Proofs.Try.prog 100 [false, true, true, true])) ((draymanref03_Int_ann 100 [false, true, true, true]).head 0) ((draymanref03_Int_ann 100 [false, true, true, true]).leave 0) n st k

theorem draymanref03_Int_l0_eq {α : Type} (draymanref03_place : draymanref03_place_T α) : ∀ (n : Nat) (p3 : Int) (s4 : ByteArray) (x5 : Int) (k : X → St → Option α), draymanref03_Int_l0_ev draymanref03_place n (encSt draymanref03_Int_l0_t draymanref03_Int_l0_s draymanref03_Int_l0_h [.i p3, .s s4, .i x5]) k = draymanref03_Int_l0_run draymanref03_place (fun y1 y2 => k (.exit 0) (encSt [.dead, .dead, .dead, .dead, .str, .int .i64, .dead, .dead, .dead, .dead, .dead, .dead, .dead, .dead, .dead, .dead, .dead, .dead, .dead, .dead, .dead, .dead, .dead, .dead, .dead, .dead, .dead] [] [] [.s y1, .i y2])) n p3 s4 x5 := by
  intro n
  induction n with
  | zero => intros; kernel_rfl
  | succ n ih =>
    intro p3 s4 x5 k
    have e : (fun (p3 : Int) (s4 : ByteArray) (x5 : Int) => draymanref03_Int_l0_ev draymanref03_place n (encSt draymanref03_Int_l0_t draymanref03_Int_l0_s draymanref03_Int_l0_h [.i p3, .s s4, .i x5]) k) = (fun (p3 : Int) (s4 : ByteArray) (x5 : Int) => draymanref03_Int_l0_run draymanref03_place (fun y1 y2 => k (.exit 0) (encSt [.dead, .dead, .dead, .dead, .str, .int .i64, .dead, .dead, .dead, .dead, .dead, .dead, .dead, .dead, .dead, .dead, .dead, .dead, .dead, .dead, .dead, .dead, .dead, .dead, .dead, .dead, .dead] [] [] [.s y1, .i y2])) n p3 s4 x5) := by
      funext p3 s4 x5
      exact ih p3 s4 x5 k
    have h1 : draymanref03_Int_l0_ev draymanref03_place (n + 1) (encSt draymanref03_Int_l0_t draymanref03_Int_l0_s draymanref03_Int_l0_h [.i p3, .s s4, .i x5]) k = draymanref03_Int_l0_step draymanref03_place (fun y1 y2 => k (.exit 0) (encSt [.dead, .dead, .dead, .dead, .str, .int .i64, .dead, .dead, .dead, .dead, .dead, .dead, .dead, .dead, .dead, .dead, .dead, .dead, .dead, .dead, .dead, .dead, .dead, .dead, .dead, .dead, .dead] [] [] [.s y1, .i y2])) (fun (p3 : Int) (s4 : ByteArray) (x5 : Int) => draymanref03_Int_l0_ev draymanref03_place n (encSt draymanref03_Int_l0_t draymanref03_Int_l0_s draymanref03_Int_l0_h [.i p3, .s s4, .i x5]) k) p3 s4 x5 := by kernel_rfl
    have h2 := congrArg (fun r => draymanref03_Int_l0_step draymanref03_place (fun y1 y2 => k (.exit 0) (encSt [.dead, .dead, .dead, .dead, .str, .int .i64, .dead, .dead, .dead, .dead, .dead, .dead, .dead, .dead, .dead, .dead, .dead, .dead, .dead, .dead, .dead, .dead, .dead, .dead, .dead, .dead, .dead] [] [] [.s y1, .i y2])) r p3 s4 x5) e
    have h3 : draymanref03_Int_l0_step draymanref03_place (fun y1 y2 => k (.exit 0) (encSt [.dead, .dead, .dead, .dead, .str, .int .i64, .dead, .dead, .dead, .dead, .dead, .dead, .dead, .dead, .dead, .dead, .dead, .dead, .dead, .dead, .dead, .dead, .dead, .dead, .dead, .dead, .dead] [] [] [.s y1, .i y2])) (fun (p3 : Int) (s4 : ByteArray) (x5 : Int) => draymanref03_Int_l0_run draymanref03_place (fun y1 y2 => k (.exit 0) (encSt [.dead, .dead, .dead, .dead, .str, .int .i64, .dead, .dead, .dead, .dead, .dead, .dead, .dead, .dead, .dead, .dead, .dead, .dead, .dead, .dead, .dead, .dead, .dead, .dead, .dead, .dead, .dead] [] [] [.s y1, .i y2])) n p3 s4 x5) p3 s4 x5 = draymanref03_Int_l0_run draymanref03_place (fun y1 y2 => k (.exit 0) (encSt [.dead, .dead, .dead, .dead, .str, .int .i64, .dead, .dead, .dead, .dead, .dead, .dead, .dead, .dead, .dead, .dead, .dead, .dead, .dead, .dead, .dead, .dead, .dead, .dead, .dead, .dead, .dead] [] [] [.s y1, .i y2])) (n + 1) p3 s4 x5 := by kernel_rfl
    exact h1.trans (h2.trans h3)

theorem draymanref03_Int_l0_ok {α : Type} (draymanref03_place : draymanref03_place_T α) : (draymanref03_Int_l0_spec draymanref03_place : LoopSpec α).ok Go.Proofs.Try.prog (envOf (draymanref03_Int_C draymanref03_place) draymanref03_Int_q draymanref03_Int_inl 1000 draymanref03_Int_ann false (draymanref03_Int_loops draymanref03_place) (fun _ => none)) := by
  intro ds k
  have h1 : draymanref03_Int_l0_ev draymanref03_place 1000 (encSt draymanref03_Int_l0_t draymanref03_Int_l0_s draymanref03_Int_l0_h ds) k = draymanref03_Int_l0_ev draymanref03_place 1000 (encSt draymanref03_Int_l0_t draymanref03_Int_l0_s draymanref03_Int_l0_h [.i (hdI ds), .s (hdS ds.tail), .i (hdI ds.tail.tail)]) k := by kernel_rfl
  have h2 := draymanref03_Int_l0_eq draymanref03_place 1000 (hdI ds) (hdS ds.tail) (hdI ds.tail.tail) k
  exact h1.trans h2

theorem draymanref03_Int_ev {α : Type} (draymanref03_place : draymanref03_place_T α) : EvOk (α := α) Go.Proofs.Try.prog (envOf (draymanref03_Int_C draymanref03_place) draymanref03_Int_q draymanref03_Int_inl 1000 draymanref03_Int_ann false (draymanref03_Int_loops draymanref03_place) (fun _ => none)) 6 (draymanref03_Int_sp (draymanref03_Int_g draymanref03_place)) := by intro ds k; kernel_rfl

theorem draymanref03_Int_ok {α : Type} : (draymanref03_Int_spec : FunSpec α).ok Go.Proofs.Try.prog :=
  FunSpec.ok_of (sp := draymanref03_Int_spec) (C := draymanref03_Int_C draymanref03_place) (q := draymanref03_Int_q) (inl := draymanref03_Int_inl) (N := 1000) (ann := draymanref03_Int_ann) (fr := false) (D := 6) (l := (draymanref03_Int_loops draymanref03_place)) (hk := (fun _ => none)) (okCons draymanref03_place_ok okNil) (lokCons (draymanref03_Int_l0_ok draymanref03_place) lokNil) noHooks (draymanref03_Int_ev draymanref03_place)

end
end Go.Rv.Try

set_option linter.unusedVariables false
set_option maxRecDepth 100000
set_option maxHeartbeats 4000000
namespace Go.Rv.Try
open Go Go.Rv Go.RowKit
noncomputable section

-- drayman/draymanref03.Flag

abbrev draymanref03_Flag_T (α : Type) : Type := Bool → (ByteArray → Option α) → Option α

noncomputable def draymanref03_Flag {α : Type} (b1 : Bool) (k : ByteArray → Option α) : Option α :=
  (cond b1
    (k (⟨#[1]⟩ : ByteArray))
    (k (⟨#[0]⟩ : ByteArray)))

noncomputable def draymanref03_Flag_sp {α : Type} (draymanref03_Flag : draymanref03_Flag_T α) : FunSpec α := ⟨101, [.bool], [], fun ds k => draymanref03_Flag (hdB ds) (fun r1 => k (enc dep (.str) [.s r1]).1 [])⟩

noncomputable def draymanref03_Flag_spec {α : Type} : FunSpec α := draymanref03_Flag_sp draymanref03_Flag

noncomputable def draymanref03_Flag_C {α : Type} : List (FunSpec α) := []

noncomputable def draymanref03_Flag_q : FuncId → Bool := fun f => false

noncomputable def draymanref03_Flag_inl : FuncId → Bool := fun f => false

noncomputable def draymanref03_Flag_ann : FuncId → AnnT := fun f p => ⟨[], [], [], [], 0, [], [], none⟩

noncomputable def draymanref03_Flag_loops {α : Type} : List (LoopSpec α) := []

theorem draymanref03_Flag_ev {α : Type} : EvOk (α := α) Go.Proofs.Try.prog (envOf (draymanref03_Flag_C) draymanref03_Flag_q draymanref03_Flag_inl 1000 draymanref03_Flag_ann false (draymanref03_Flag_loops) (fun _ => none)) 6 (draymanref03_Flag_sp (draymanref03_Flag)) := by intro ds k; kernel_rfl

theorem draymanref03_Flag_ok {α : Type} : (draymanref03_Flag_spec : FunSpec α).ok Go.Proofs.Try.prog :=
  FunSpec.ok_of (sp := draymanref03_Flag_spec) (C := draymanref03_Flag_C) (q := draymanref03_Flag_q) (inl := draymanref03_Flag_inl) (N := 1000) (ann := draymanref03_Flag_ann) (fr := false) (D := 6) (l := (draymanref03_Flag_loops)) (hk := (fun _ => none)) okNil lokNil noHooks (draymanref03_Flag_ev)

end
end Go.Rv.Try

set_option linter.unusedVariables false
set_option maxRecDepth 100000
set_option maxHeartbeats 4000000
namespace Go.Rv.Try
open Go Go.Rv Go.RowKit
noncomputable section

-- drayman/draymanref03.Ints

abbrev draymanref03_Ints_T (α : Type) : Type := (Seq (Int × Unit)) → (ByteArray → Option α) → Option α

noncomputable def draymanref03_Ints_l0_step {α : Type} (draymanref03_Int : draymanref03_Int_T α) (k0 : (ByteArray) → Option α) (rec : (Seq (Int × Unit)) → (ByteArray) → (Int) → Option α) (l2 : Seq (Int × Unit)) (s3 : ByteArray) (i4 : Int) : Option α :=
  (cond (decide (i4 < (l2.n : Int)))
    (cond ((decide ((0 : Int) ≤ i4)) && (decide (i4 < (l2.n : Int))))
      (draymanref03_Int ((l2.g i4.toNat).1) fun r5 =>
        (cond (Nat.ble ((s3).size + (r5).size) 9223372036854775807)
          (rec l2 (s3 ++ r5) (IntKind.i64.wrap (i4 + 1)))
          none))
      none)
    (k0 s3))

noncomputable def draymanref03_Ints_l0_run {α : Type} (draymanref03_Int : draymanref03_Int_T α) (k0 : (ByteArray) → Option α) : Nat → (Seq (Int × Unit)) → (ByteArray) → (Int) → Option α
  | 0, _, _, _ => none
  | n + 1, l2, s3, i4 => draymanref03_Ints_l0_step draymanref03_Int k0 (fun l2 s3 i4 => draymanref03_Ints_l0_run draymanref03_Int k0 n l2 s3 i4) l2 s3 i4

noncomputable def draymanref03_Ints_g {α : Type} (draymanref03_Int : draymanref03_Int_T α) (l1 : Seq (Int × Unit)) (k : ByteArray → Option α) : Option α :=
  (draymanref03_Ints_l0_run draymanref03_Int
    (fun x6 =>
      (k x6))
    1000 l1 (⟨#[]⟩ : ByteArray) 0)

noncomputable def draymanref03_Ints {α : Type} : draymanref03_Ints_T α := draymanref03_Ints_g draymanref03_Int

noncomputable def draymanref03_Ints_sp {α : Type} (draymanref03_Ints : draymanref03_Ints_T α) : FunSpec α := ⟨105, [.sl (.int .i64 (.nil))], [], fun ds k => draymanref03_Ints (hdQ (.int .i64 (.nil)) ds) (fun r1 => k (enc dep (.str) [.s r1]).1 [])⟩

noncomputable def draymanref03_Ints_spec {α : Type} : FunSpec α := draymanref03_Ints_sp draymanref03_Ints

noncomputable def draymanref03_Ints_C {α : Type} (draymanref03_Int : draymanref03_Int_T α) : List (FunSpec α) := [draymanref03_Int_sp draymanref03_Int]

noncomputable def draymanref03_Ints_q : FuncId → Bool := fun f => Nat.beq f 100

noncomputable def draymanref03_Ints_inl : FuncId → Bool := fun f => false

noncomputable def draymanref03_Ints_ann : FuncId → AnnT := fun f p => if f = 105 then (if p = [true, false, true, true] then ⟨[0, 3, 4], [], [3], [2], 0, [], [], none⟩ else ⟨[], [], [], [], 0, [], [], none⟩) else ⟨[], [], [], [], 0, [], [], none⟩

noncomputable def draymanref03_Ints_l0_t : List Sh := [.sl (.int .i64 (.nil)), .dead, .dead, .str, .int .i64, .dead, .dead, .dead, .dead, .dead, .dead, .dead, .dead, .dead, .dead, .dead, .dead, .dead, .dead]
noncomputable def draymanref03_Ints_l0_s : List (List Sh) := []
noncomputable def draymanref03_Ints_l0_h : List BSh := []

noncomputable def draymanref03_Ints_l0_spec {α : Type} (draymanref03_Int : draymanref03_Int_T α) : LoopSpec α := ⟨6, 105, [true, false, true, true], draymanref03_Ints_l0_t, draymanref03_Ints_l0_s, draymanref03_Ints_l0_h, fun ds k => draymanref03_Ints_l0_run draymanref03_Int (fun y1 => k (.exit 0) (encSt [.dead, .dead, .dead, .str, .dead, .dead, .dead, .dead, .dead, .dead, .dead, .dead, .dead, .dead, .dead, .dead, .dead, .dead, .dead] [] [] [.s y1])) 1000 (hdQ (.int .i64 (.nil)) ds) (hdS ds.tail) (hdI ds.tail.tail)⟩

noncomputable def draymanref03_Ints_loops {α : Type} (draymanref03_Int : draymanref03_Int_T α) : List (LoopSpec α) := [draymanref03_Ints_l0_spec draymanref03_Int]

noncomputable def draymanref03_Ints_l0_ev {α : Type} (draymanref03_Int : draymanref03_Int_T α) (n : Nat) (st : St) (k : X → St → Option α) : Option α := loopN (evCode Go.Proofs.Try.prog (callD Go.Proofs.Try.prog (envOf (draymanref03_Ints_C draymanref03_Int) draymanref03_Ints_q draymanref03_Ints_inl 1000 draymanref03_Ints_ann false (draymanref03_Ints_loops draymanref03_Int) (fun _ => none)) 6) (((envOf (draymanref03_Ints_C draymanref03_Int) draymanref03_Ints_q draymanref03_Ints_inl 1000 draymanref03_Ints_ann false (draymanref03_Ints_loops draymanref03_Int) (fun _ => none)) : Env α).L 6 105) 1000 (draymanref03_Ints_ann 105) (false :: [true, false, true, true]) (loopC Go.Proofs.Try.prog 105 [true, false, true, true])) ((draymanref03_Ints_ann 105 [true, false, true, true]).head 0) ((draymanref03_Ints_ann 105 [true, false, true, true]).leave 0) n st k

theorem draymanref03_Ints_l0_eq {α : Type} (draymanref03_Int : draymanref03_Int_T α) : ∀ (n : Nat) (l2 : Seq (Int × Unit)) (s3 : ByteArray) (i4 : Int) (k : X → St → Option α), draymanref03_Ints_l0_ev draymanref03_Int n (encSt draymanref03_Ints_l0_t draymanref03_Ints_l0_s draymanref03_Ints_l0_h [.q (.int .i64 (.nil)) l2, .s s3, .i i4]) k = draymanref03_Ints_l0_run draymanref03_Int (fun y1 => k (.exit 0) (encSt [.dead, .dead, .dead, .str, .dead, .dead, .dead, .dead, .dead, .dead, .dead, .dead, .dead, .dead, .dead, .dead, .dead, .dead, .dead] [] [] [.s y1])) n l2 s3 i4 := by
  intro n
  induction n with
  | zero => intros; kernel_rfl
  | succ n ih =>
    intro l2 s3 i4 k
    have e : (fun (l2 : Seq (Int × Unit)) (s3 : ByteArray) (i4 : Int) => draymanref03_Ints_l0_ev draymanref03_Int n (encSt draymanref03_Ints_l0_t draymanref03_Ints_l0_s draymanref03_Ints_l0_h [.q (.int .i64 (.nil)) l2, .s s3, .i i4]) k) = (fun (l2 : Seq (Int × Unit)) (s3 : ByteArray) (i4 : Int) => draymanref03_Ints_l0_run draymanref03_Int (fun y1 => k (.exit 0) (encSt [.dead, .dead, .dead, .str, .dead, .dead, .dead, .dead, .dead, .dead, .dead, .dead, .dead, .dead, .dead, .dead, .dead, .dead, .dead] [] [] [.s y1])) n l2 s3 i4) := by
      funext l2 s3 i4
      exact ih l2 s3 i4 k
    have h1 : draymanref03_Ints_l0_ev draymanref03_Int (n + 1) (encSt draymanref03_Ints_l0_t draymanref03_Ints_l0_s draymanref03_Ints_l0_h [.q (.int .i64 (.nil)) l2, .s s3, .i i4]) k = draymanref03_Ints_l0_step draymanref03_Int (fun y1 => k (.exit 0) (encSt [.dead, .dead, .dead, .str, .dead, .dead, .dead, .dead, .dead, .dead, .dead, .dead, .dead, .dead, .dead, .dead, .dead, .dead, .dead] [] [] [.s y1])) (fun (l2 : Seq (Int × Unit)) (s3 : ByteArray) (i4 : Int) => draymanref03_Ints_l0_ev draymanref03_Int n (encSt draymanref03_Ints_l0_t draymanref03_Ints_l0_s draymanref03_Ints_l0_h [.q (.int .i64 (.nil)) l2, .s s3, .i i4]) k) l2 s3 i4 := by kernel_rfl
    have h2 := congrArg (fun r => draymanref03_Ints_l0_step draymanref03_Int (fun y1 => k (.exit 0) (encSt [.dead, .dead, .dead, .str, .dead, .dead, .dead, .dead, .dead, .dead, .dead, .dead, .dead, .dead, .dead, .dead, .dead, .dead, .dead] [] [] [.s y1])) r l2 s3 i4) e
    have h3 : draymanref03_Ints_l0_step draymanref03_Int (fun y1 => k (.exit 0) (encSt [.dead, .dead, .dead, .str, .dead, .dead, .dead, .dead, .dead, .dead, .dead, .dead, .dead, .dead, .dead, .dead, .dead, .dead, .dead] [] [] [.s y1])) (fun (l2 : Seq (Int × Unit)) (s3 : ByteArray) (i4 : Int) => draymanref03_Ints_l0_run draymanref03_Int (fun y1 => k (.exit 0) (encSt [.dead, .dead, .dead, .str, .dead, .dead, .dead, .dead, .dead, .dead, .dead, .dead, .dead, .dead, .dead, .dead, .dead, .dead, .dead] [] [] [.s y1])) n l2 s3 i4) l2 s3 i4 = draymanref03_Ints_l0_run draymanref03_Int (fun y1 => k (.exit 0) (encSt [.dead, .dead, .dead, .str, .dead, .dead, .dead, .dead, .dead, .dead, .dead, .dead, .dead, .dead, .dead, .dead, .dead, .dead, .dead] [] [] [.s y1])) (n + 1) l2 s3 i4 := by kernel_rfl
    exact h1.trans (h2.trans h3)

theorem draymanref03_Ints_l0_ok {α : Type} (draymanref03_Int : draymanref03_Int_T α) : (draymanref03_Ints_l0_spec draymanref03_Int : LoopSpec α).ok Go.Proofs.Try.prog (envOf (draymanref03_Ints_C draymanref03_Int) draymanref03_Ints_q draymanref03_Ints_inl 1000 draymanref03_Ints_ann false (draymanref03_Ints_loops draymanref03_Int) (fun _ => none)) := by
  intro ds k
  have h1 : draymanref03_Ints_l0_ev draymanref03_Int 1000 (encSt draymanref03_Ints_l0_t draymanref03_Ints_l0_s draymanref03_Ints_l0_h ds) k = draymanref03_Ints_l0_ev draymanref03_Int 1000 (encSt draymanref03_Ints_l0_t draymanref03_Ints_l0_s draymanref03_Ints_l0_h [.q (.int .i64 (.nil)) (hdQ (.int .i64 (.nil)) ds), .s (hdS ds.tail), .i (hdI ds.tail.tail)]) k := by kernel_rfl
  have h2 := draymanref03_Ints_l0_eq draymanref03_Int 1000 (hdQ (.int .i64 (.nil)) ds) (hdS ds.tail) (hdI ds.tail.tail) k
  exact h1.trans h2

theorem draymanref03_Ints_ev {α : Type} (draymanref03_Int : draymanref03_Int_T α) : EvOk (α := α) Go.Proofs.Try.prog (envOf (draymanref03_Ints_C draymanref03_Int) draymanref03_Ints_q draymanref03_Ints_inl 1000 draymanref03_Ints_ann false (draymanref03_Ints_loops draymanref03_Int) (fun _ => none)) 6 (draymanref03_Ints_sp (draymanref03_Ints_g draymanref03_Int)) := by intro ds k; kernel_rfl

theorem draymanref03_Ints_ok {α : Type} : (draymanref03_Ints_spec : FunSpec α).ok Go.Proofs.Try.prog :=
  FunSpec.ok_of (sp := draymanref03_Ints_spec) (C := draymanref03_Ints_C draymanref03_Int) (q := draymanref03_Ints_q) (inl := draymanref03_Ints_inl) (N := 1000) (ann := draymanref03_Ints_ann) (fr := false) (D := 6) (l := (draymanref03_Ints_loops draymanref03_Int)) (hk := (fun _ => none)) (okCons draymanref03_Int_ok okNil) (lokCons (draymanref03_Ints_l0_ok draymanref03_Int) lokNil) noHooks (draymanref03_Ints_ev draymanref03_Int)

end
end Go.Rv.Try

set_option linter.unusedVariables false
set_option maxRecDepth 100000
set_option maxHeartbeats 4000000
namespace Go.Rv.Try
open Go Go.Rv Go.RowKit
noncomputable section

-- (*drayman/draymanref03.Reader).fails

abbrev draymanref03_Reader_fails_T (α : Type) : Type := (ByteArray × Bool × Unit) → ((ByteArray × Bool × Unit) → Option α) → Option α

noncomputable def draymanref03_Reader_fails {α : Type} (x1 : ByteArray × Bool × Unit) (k : (ByteArray × Bool × Unit) → Option α) : Option α :=
  (k ((⟨#[]⟩ : ByteArray), true, ()))

noncomputable def draymanref03_Reader_fails_sp {α : Type} (draymanref03_Reader_fails : draymanref03_Reader_fails_T α) : FunSpec α := ⟨138, [.ref 0 0], [.box [.str, .bool]], fun ds k => draymanref03_Reader_fails (hdS ds, hdB ds.tail, ()) (fun r1 => k (enc dep (.tup []) []).1 (encBs [.box [.str, .bool]] [.s r1.1, .b r1.2.1]).1)⟩

noncomputable def draymanref03_Reader_fails_spec {α : Type} : FunSpec α := draymanref03_Reader_fails_sp draymanref03_Reader_fails

noncomputable def draymanref03_Reader_fails_C {α : Type} : List (FunSpec α) := []

noncomputable def draymanref03_Reader_fails_q : FuncId → Bool := fun f => false

noncomputable def draymanref03_Reader_fails_inl : FuncId → Bool := fun f => false

noncomputable def draymanref03_Reader_fails_ann : FuncId → AnnT := fun f p => ⟨[], [], [], [], 0, [], [], none⟩

noncomputable def draymanref03_Reader_fails_loops {α : Type} : List (LoopSpec α) := []

theorem draymanref03_Reader_fails_ev {α : Type} : EvOk (α := α) Go.Proofs.Try.prog (envOf (draymanref03_Reader_fails_C) draymanref03_Reader_fails_q draymanref03_Reader_fails_inl 1000 draymanref03_Reader_fails_ann false (draymanref03_Reader_fails_loops) (fun _ => none)) 6 (draymanref03_Reader_fails_sp (draymanref03_Reader_fails)) := by intro ds k; kernel_rfl

theorem draymanref03_Reader_fails_ok {α : Type} : (draymanref03_Reader_fails_spec : FunSpec α).ok Go.Proofs.Try.prog :=
  FunSpec.ok_of (sp := draymanref03_Reader_fails_spec) (C := draymanref03_Reader_fails_C) (q := draymanref03_Reader_fails_q) (inl := draymanref03_Reader_fails_inl) (N := 1000) (ann := draymanref03_Reader_fails_ann) (fr := false) (D := 6) (l := (draymanref03_Reader_fails_loops)) (hk := (fun _ => none)) okNil lokNil noHooks (draymanref03_Reader_fails_ev)

end
end Go.Rv.Try

set_option linter.unusedVariables false
set_option maxRecDepth 100000
set_option maxHeartbeats 4000000
namespace Go.Rv.Try
open Go Go.Rv Go.RowKit
noncomputable section

-- (*drayman/draymanref03.Reader).Int

abbrev draymanref03_Reader_Int_T (α : Type) : Type := Int → Int → (ByteArray × Bool × Unit) → (Int → (ByteArray × Bool × Unit) → Option α) → Option α

noncomputable def draymanref03_Reader_Int_l0_step {α : Type} (draymanref03_Reader_fails : draymanref03_Reader_fails_T α) (k0 : (Int) → (Int) → (Int) → (Int) → (ByteArray × Bool × Unit) → Option α) (rec : (Int) → (Int) → (Int) → (Int) → (Int) → (ByteArray × Bool × Unit) → Option α) (x8 : Int) (x9 : Int) (x10 : Int) (x11 : Int) (x12 : Int) (x13 : ByteArray × Bool × Unit) : Option α :=
  (cond (decide (x12 < x10))
    (cond ((decide ((0 : Int) ≤ x12)) && (decide (x12 < (x13.1.size : Int))))
      (rec x8 x9 x10 (IntKind.u64.wrap ((IntKind.u64.wrap (x11 * 256)) + (IntKind.u64.wrap (byteAt x13.1 x12)))) (IntKind.i64.wrap (x12 + 1)) x13)
      none)
    (k0 x8 x9 x10 x11 x13))

noncomputable def draymanref03_Reader_Int_l0_run {α : Type} (draymanref03_Reader_fails : draymanref03_Reader_fails_T α) (k0 : (Int) → (Int) → (Int) → (Int) → (ByteArray × Bool × Unit) → Option α) : Nat → (Int) → (Int) → (Int) → (Int) → (Int) → (ByteArray × Bool × Unit) → Option α
  | 0, _, _, _, _, _, _ => none
  | n + 1, x8, x9, x10, x11, x12, x13 => draymanref03_Reader_Int_l0_step draymanref03_Reader_fails k0 (fun x8 x9 x10 x11 x12 x13 => draymanref03_Reader_Int_l0_run draymanref03_Reader_fails k0 n x8 x9 x10 x11 x12 x13) x8 x9 x10 x11 x12 x13

noncomputable def draymanref03_Reader_Int_g {α : Type} (draymanref03_Reader_fails : draymanref03_Reader_fails_T α) (x1 : Int) (x2 : Int) (x3 : ByteArray × Bool × Unit) (k : Int → (ByteArray × Bool × Unit) → Option α) : Option α :=
  (joinD
    (fun ds => (fun (x4 : Int) (x5 : Int) (x6 : ByteArray × Bool × Unit) =>
      (cond (decide ((0 : Int) < (x6.1.size : Int)))
        (draymanref03_Reader_Int_l0_run draymanref03_Reader_fails
          (fun x14 x15 x16 x17 x18 =>
            (cond ((Int.tmod x17 2) == 1)
              (cond (!(decide ((IntKind.i64.wrap ((IntKind.i64.wrap (0 - (IntKind.i64.wrap (IntKind.u64.wrap (Int.tdiv x17 2))))) - 1)) < x14)))
                (cond (decide ((IntKind.i64.wrap ((IntKind.i64.wrap (0 - (IntKind.i64.wrap (IntKind.u64.wrap (Int.tdiv x17 2))))) - 1)) > x15))
                  (draymanref03_Reader_fails x18 fun r19 =>
                    (k 0 r19))
                  (cond ((decide ((0 : Int) ≤ x16)) && (decide (x16 ≤ (x18.1.size : Int))))
                    (k (IntKind.i64.wrap ((IntKind.i64.wrap (0 - (IntKind.i64.wrap (IntKind.u64.wrap (Int.tdiv x17 2))))) - 1)) ((x18.1.extract x16.toNat x18.1.size), x18.2.1, ()))
                    none))
                (draymanref03_Reader_fails x18 fun r20 =>
                  (k 0 r20)))
              (cond (!(decide ((IntKind.i64.wrap (IntKind.u64.wrap (Int.tdiv x17 2))) < x14)))
                (cond (decide ((IntKind.i64.wrap (IntKind.u64.wrap (Int.tdiv x17 2))) > x15))
                  (draymanref03_Reader_fails x18 fun r21 =>
                    (k 0 r21))
                  (cond ((decide ((0 : Int) ≤ x16)) && (decide (x16 ≤ (x18.1.size : Int))))
                    (k (IntKind.i64.wrap (IntKind.u64.wrap (Int.tdiv x17 2))) ((x18.1.extract x16.toNat x18.1.size), x18.2.1, ()))
                    none))
                (draymanref03_Reader_fails x18 fun r22 =>
                  (k 0 r22)))))
          1000 x4 x5 (IntKind.i64.wrap (1 + (IntKind.i64.wrap (byteAt x6.1 0)))) 0 1 x6)
        none))
      (hdI ds) (hdI ds.tail) (hdS ds.tail.tail, hdB ds.tail.tail.tail, ()))
    (fun j7 =>
      (cond (!x3.2.1)
        (cond (!((x3.1.size : Int) == 0))
          (cond (decide ((0 : Int) < (x3.1.size : Int)))
            (cond (!(decide ((byteAt x3.1 0) > 8)))
              (cond (decide ((0 : Int) < (x3.1.size : Int)))
                (cond (!(decide ((x3.1.size : Int) < (IntKind.i64.wrap (1 + (IntKind.i64.wrap (byteAt x3.1 0)))))))
                  (cond (decide ((0 : Int) < (x3.1.size : Int)))
                    (cond (decide ((byteAt x3.1 0) > 0))
                      (cond (decide ((1 : Int) < (x3.1.size : Int)))
                        (cond ((byteAt x3.1 1) == 0)
                          (draymanref03_Reader_fails x3 fun r23 =>
                            (k 0 r23))
                          (j7 [.i x1, .i x2, .s x3.1, .b x3.2.1]))
                        none)
                      (j7 [.i x1, .i x2, .s x3.1, .b x3.2.1]))
                    none)
                  (draymanref03_Reader_fails x3 fun r24 =>
                    (k 0 r24)))
                none)
              (draymanref03_Reader_fails x3 fun r25 =>
                (k 0 r25)))
            none)
          (draymanref03_Reader_fails x3 fun r26 =>
            (k 0 r26)))
        (draymanref03_Reader_fails x3 fun r27 =>
          (k 0 r27)))))

noncomputable def draymanref03_Reader_Int {α : Type} : draymanref03_Reader_Int_T α := draymanref03_Reader_Int_g draymanref03_Reader_fails

noncomputable def draymanref03_Reader_Int_sp {α : Type} (draymanref03_Reader_Int : draymanref03_Reader_Int_T α) : FunSpec α := ⟨137, [.ref 0 0, .int .i64, .int .i64], [.box [.str, .bool]], fun ds k => draymanref03_Reader_Int (hdI ds) (hdI ds.tail) (hdS ds.tail.tail, hdB ds.tail.tail.tail, ()) (fun r1 r2 => k (enc dep (.int .i64) [.i r1]).1 (encBs [.box [.str, .bool]] [.s r2.1, .b r2.2.1]).1)⟩

noncomputable def draymanref03_Reader_Int_spec {α : Type} : FunSpec α := draymanref03_Reader_Int_sp draymanref03_Reader_Int

noncomputable def draymanref03_Reader_Int_C {α : Type} (draymanref03_Reader_fails : draymanref03_Reader_fails_T α) : List (FunSpec α) := [draymanref03_Reader_fails_sp draymanref03_Reader_fails]

noncomputable def draymanref03_Reader_Int_q : FuncId → Bool := fun f => Nat.beq f 138

noncomputable def draymanref03_Reader_Int_inl : FuncId → Bool := fun f => false

noncomputable def draymanref03_Reader_Int_ann : FuncId → AnnT := fun f p => if f = 137 then (if p = [true] then ⟨[0, 1, 2], [], [], [], 0, [], [], some ([.ref 0 0, .int .i64, .int .i64, .dead, .dead, .dead, .dead, .dead, .dead, .dead, .dead, .dead, .dead, .dead, .dead, .dead, .dead, .dead, .dead, .dead, .dead, .dead, .dead, .dead, .dead, .dead, .dead, .dead, .dead, .dead, .dead, .dead, .dead, .dead, .dead, .dead, .dead, .dead, .dead, .dead, .dead, .dead, .dead, .dead, .dead, .dead, .dead, .dead, .dead, .dead, .dead, .dead, .dead, .dead, .dead, .dead, .dead, .dead, .dead, .dead, .dead, .dead, .dead, .dead, .dead, .dead, .dead, .dead, .dead, .dead, .dead, .dead, .dead, .dead, .dead, .dead, .dead, .dead, .dead, .dead, .dead, .dead, .dead, .dead, .dead, .dead, .dead, .dead, .dead, .dead, .dead, .dead, .dead, .dead, .dead, .dead, .dead, .dead, .dead, .dead, .dead, .dead, .dead, .dead, .dead, .dead, .dead, .dead, .dead, .dead, .dead, .dead, .dead, .dead, .dead], [], [.box [.str, .bool]])⟩ else if p = [true, false, true, true, true, true] then ⟨[0, 1, 2, 7, 8, 9], [], [0, 1, 2, 7, 8], [6], 0, [], [], none⟩ else ⟨[], [], [], [], 0, [], [], none⟩) else ⟨[], [], [], [], 0, [], [], none⟩

noncomputable def draymanref03_Reader_Int_l0_t : List Sh := [.ref 0 0, .int .i64, .int .i64, .dead, .dead, .dead, .dead, .int .i64, .int .u64, .int .i64, .dead, .dead, .dead, .dead, .dead, .dead, .dead, .dead, .dead, .dead, .dead, .dead, .dead, .dead, .dead, .dead, .dead, .dead, .dead, .dead, .dead, .dead, .dead, .dead, .dead, .dead, .dead, .dead, .dead, .dead, .dead, .dead, .dead, .dead, .dead, .dead, .dead, .dead, .dead, .dead, .dead, .dead, .dead, .dead, .dead, .dead, .dead, .dead, .dead, .dead, .dead, .dead, .dead, .dead, .dead, .dead, .dead, .dead, .dead, .dead, .dead, .dead, .dead, .dead, .dead, .dead, .dead, .dead, .dead, .dead, .dead, .dead, .dead, .dead, .dead, .dead, .dead, .dead, .dead, .dead, .dead, .dead, .dead, .dead, .dead, .dead, .dead, .dead, .dead, .dead, .dead, .dead, .dead, .dead, .dead, .dead, .dead, .dead, .dead, .dead, .dead, .dead, .dead, .dead, .dead]
noncomputable def draymanref03_Reader_Int_l0_s : List (List Sh) := []
noncomputable def draymanref03_Reader_Int_l0_h : List BSh := [.box [.str, .bool]]

noncomputable def draymanref03_Reader_Int_l0_spec {α : Type} (draymanref03_Reader_fails : draymanref03_Reader_fails_T α) : LoopSpec α := ⟨6, 137, [true, false, true, true, true, true], draymanref03_Reader_Int_l0_t, draymanref03_Reader_Int_l0_s, draymanref03_Reader_Int_l0_h, fun ds k => draymanref03_Reader_Int_l0_run draymanref03_Reader_fails (fun y1 y2 y3 y4 y5 => k (.exit 0) (encSt [.ref 0 0, .int .i64, .int .i64, .dead, .dead, .dead, .dead, .int .i64, .int .u64, .dead, .dead, .dead, .dead, .dead, .dead, .dead, .dead, .dead, .dead, .dead, .dead, .dead, .dead, .dead, .dead, .dead, .dead, .dead, .dead, .dead, .dead, .dead, .dead, .dead, .dead, .dead, .dead, .dead, .dead, .dead, .dead, .dead, .dead, .dead, .dead, .dead, .dead, .dead, .dead, .dead, .dead, .dead, .dead, .dead, .dead, .dead, .dead, .dead, .dead, .dead, .dead, .dead, .dead, .dead, .dead, .dead, .dead, .dead, .dead, .dead, .dead, .dead, .dead, .dead, .dead, .dead, .dead, .dead, .dead, .dead, .dead, .dead, .dead, .dead, .dead, .dead, .dead, .dead, .dead, .dead, .dead, .dead, .dead, .dead, .dead, .dead, .dead, .dead, .dead, .dead, .dead, .dead, .dead, .dead, .dead, .dead, .dead, .dead, .dead, .dead, .dead, .dead, .dead, .dead, .dead] [] [.box [.str, .bool]] [.i y1, .i y2, .i y3, .i y4, .s y5.1, .b y5.2.1])) 1000 (hdI ds) (hdI ds.tail) (hdI ds.tail.tail) (hdI ds.tail.tail.tail) (hdI ds.tail.tail.tail.tail) (hdS ds.tail.tail.tail.tail.tail, hdB ds.tail.tail.tail.tail.tail.tail, ())⟩

noncomputable def draymanref03_Reader_Int_loops {α : Type} (draymanref03_Reader_fails : draymanref03_Reader_fails_T α) : List (LoopSpec α) := [draymanref03_Reader_Int_l0_spec draymanref03_Reader_fails]

noncomputable def draymanref03_Reader_Int_l0_ev {α : Type} (draymanref03_Reader_fails : draymanref03_Reader_fails_T α) (n : Nat) (st : St) (k : X → St → Option α) : Option α := loopN (evCode Go.Proofs.Try.prog (callD Go.Proofs.Try.prog (envOf (draymanref03_Reader_Int_C draymanref03_Reader_fails) draymanref03_Reader_Int_q draymanref03_Reader_Int_inl 1000 draymanref03_Reader_Int_ann false (draymanref03_Reader_Int_loops draymanref03_Reader_fails) (fun _ => none)) 6) (((envOf (draymanref03_Reader_Int_C draymanref03_Reader_fails) draymanref03_Reader_Int_q draymanref03_Reader_Int_inl 1000 draymanref03_Reader_Int_ann false (draymanref03_Reader_Int_loops draymanref03_Reader_fails) (fun _ => none)) : Env α).L 6 137) 1000 (draymanref03_Reader_Int_ann 137) (false :: [true, false, true, true, true, true]) (loopC Go.Proofs.Try.prog 137 [true, false, true, true, true, true])) ((draymanref03_Reader_Int_ann 137 [true, false, true, true, true, true]).head 1) ((draymanref03_Reader_Int_ann 137 [true, false, true, true, true, true]).leave 1) n st k

theorem draymanref03_Reader_Int_l0_eq {α : Type} (draymanref03_Reader_fails : draymanref03_Reader_fails_T α) : ∀ (n : Nat) (x8 : Int) (x9 : Int) (x10 : Int) (x11 : Int) (x12 : Int) (x13 : ByteArray × Bool × Unit) (k : X → St → Option α), draymanref03_Reader_Int_l0_ev draymanref03_Reader_fails n (encSt draymanref03_Reader_Int_l0_t draymanref03_Reader_Int_l0_s draymanref03_Reader_Int_l0_h [.i x8, .i x9, .i x10, .i x11, .i x12, .s x13.1, .b x13.2.1]) k = draymanref03_Reader_Int_l0_run draymanref03_Reader_fails (fun y1 y2 y3 y4 y5 => k (.exit 0) (encSt [.ref 0 0, .int .i64, .int .i64, .dead, .dead, .dead, .dead, .int .i64, .int .u64, .dead, .dead, .dead, .dead, .dead, .dead, .dead, .dead, .dead, .dead, .dead, .dead, .dead, .dead, .dead, .dead, .dead, .dead, .dead, .dead, .dead, .dead, .dead, .dead, .dead, .dead, .dead, .dead, .dead, .dead, .dead, .dead, .dead, .dead, .dead, .dead, .dead, .dead, .dead, .dead, .dead, .dead, .dead, .dead, .dead, .dead, .dead, .dead, .dead, .dead, .dead, .dead, .dead, .dead, .dead, .dead, .dead, .dead, .dead, .dead, .dead, .dead, .dead, .dead, .dead, .dead, .dead, .dead, .dead, .dead, .dead, .dead, .dead, .dead, .dead, .dead, .dead, .dead, .dead, .dead, .dead, .dead, .dead, .dead, .dead, .dead, .dead, .dead, .dead, .dead, .dead, .dead, .dead, .dead, .dead, .dead, .dead, .dead, .dead, .dead, .dead, .dead, .dead, .dead, .dead, .dead] [] [.box [.str, .bool]] [.i y1, .i y2, .i y3, .i y4, .s y5.1, .b y5.2.1])) n x8 x9 x10 x11 x12 x13 := by
  intro n
  induction n with
  | zero => intros; kernel_rfl
  | succ n ih =>
    intro x8 x9 x10 x11 x12 x13 k
    have e : (fun (x8 : Int) (x9 : Int) (x10 : Int) (x11 : Int) (x12 : Int) (x13 : ByteArray × Bool × Unit) => draymanref03_Reader_Int_l0_ev draymanref03_Reader_fails n (encSt draymanref03_Reader_Int_l0_t draymanref03_Reader_Int_l0_s draymanref03_Reader_Int_l0_h [.i x8, .i x9, .i x10, .i x11, .i x12, .s x13.1, .b x13.2.1]) k) = (fun (x8 : Int) (x9 : Int) (x10 : Int) (x11 : Int) (x12 : Int) (x13 : ByteArray × Bool × Unit) => draymanref03_Reader_Int_l0_run draymanref03_Reader_fails (fun y1 y2 y3 y4 y5 => k (.exit 0) (encSt [.ref 0 0, .int .i64, .int .i64, .dead, .dead, .dead, .dead, .int .i64, .int .u64, .dead, .dead, .dead, .dead, .dead, .dead, .dead, .dead, .dead, .dead, .dead, .dead, .dead, .dead, .dead, .dead, .dead, .dead, .dead, .dead, .dead, .dead, .dead, .dead, .dead, .dead, .dead, .dead, .dead, .dead, .dead, .dead, .dead, .dead, .dead, .dead, .dead, .dead, .dead, .dead, .dead, .dead, .dead, .dead, .dead, .dead, .dead, .dead, .dead, .dead, .dead, .dead, .dead, .dead, .dead, .dead, .dead, .dead, .dead, .dead, .dead, .dead, .dead, .dead, .dead, .dead, .dead, .dead, .dead, .dead, .dead, .dead, .dead, .dead, .dead, .dead, .dead, .dead, .dead, .dead, .dead, .dead, .dead, .dead, .dead, .dead, .dead, .dead, .dead, .dead, .dead, .dead, .dead, .dead, .dead, .dead, .dead, .dead, .dead, .dead, .dead, .dead, .dead, .dead, .dead, .dead] [] [.box [.str, .bool]] [.i y1, .i y2, .i y3, .i y4, .s y5.1, .b y5.2.1])) n x8 x9 x10 x11 x12 x13) := by
      funext x8 x9 x10 x11 x12 x13
      exact ih x8 x9 x10 x11 x12 x13 k
    have h1 : draymanref03_Reader_Int_l0_ev draymanref03_Reader_fails (n + 1) (encSt draymanref03_Reader_Int_l0_t draymanref03_Reader_Int_l0_s draymanref03_Reader_Int_l0_h [.i x8, .i x9, .i x10, .i x11, .i x12, .s x13.1, .b x13.2.1]) k = draymanref03_Reader_Int_l0_step draymanref03_Reader_fails (fun y1 y2 y3 y4 y5 => k (.exit 0) (encSt [.ref 0 0, .int .i64, .int .i64, .dead, .dead, .dead, .dead, .int .i64, .int .u64, .dead, .dead, .dead, .dead, .dead, .dead, .dead, .dead, .dead, .dead, .dead, .dead, .dead, .dead, .dead, .dead, .dead, .dead, .dead, .dead, .dead, .dead, .dead, .dead, .dead, .dead, .dead, .dead, .dead, .dead, .dead, .dead, .dead, .dead, .dead, .dead, .dead, .dead, .dead, .dead, .dead, .dead, .dead, .dead, .dead, .dead, .dead, .dead, .dead, .dead, .dead, .dead, .dead, .dead, .dead, .dead, .dead, .dead, .dead, .dead, .dead, .dead, .dead, .dead, .dead, .dead, .dead, .dead, .dead, .dead, .dead, .dead, .dead, .dead, .dead, .dead, .dead, .dead, .dead, .dead, .dead, .dead, .dead, .dead, .dead, .dead, .dead, .dead, .dead, .dead, .dead, .dead, .dead, .dead, .dead, .dead, .dead, .dead, .dead, .dead, .dead, .dead, .dead, .dead, .dead, .dead] [] [.box [.str, .bool]] [.i y1, .i y2, .i y3, .i y4, .s y5.1, .b y5.2.1])) (fun (x8 : Int) (x9 : Int) (x10 : Int) (x11 : Int) (x12 : Int) (x13 : ByteArray × Bool × Unit) => draymanref03_Reader_Int_l0_ev draymanref03_Reader_fails n (encSt draymanref03_Reader_Int_l0_t draymanref03_Reader_Int_l0_s draymanref03_Reader_Int_l0_h [.i x8, .i x9, .i x10, .i x11, .i x12, .s x13.1, .b x13.2.1]) k) x8 x9 x10 x11 x12 x13 := by kernel_rfl
    have h2 := congrArg (fun r => draymanref03_Reader_Int_l0_step draymanref03_Reader_fails (fun y1 y2 y3 y4 y5 => k (.exit 0) (encSt [.ref 0 0, .int .i64, .int .i64, .dead, .dead, .dead, .dead, .int .i64, .int .u64, .dead, .dead, .dead, .dead, .dead, .dead, .dead, .dead, .dead, .dead, .dead, .dead, .dead, .dead, .dead, .dead, .dead, .dead, .dead, .dead, .dead, .dead, .dead, .dead, .dead, .dead, .dead, .dead, .dead, .dead, .dead, .dead, .dead, .dead, .dead, .dead, .dead, .dead, .dead, .dead, .dead, .dead, .dead, .dead, .dead, .dead, .dead, .dead, .dead, .dead, .dead, .dead, .dead, .dead, .dead, .dead, .dead, .dead, .dead, .dead, .dead, .dead, .dead, .dead, .dead, .dead, .dead, .dead, .dead, .dead, .dead, .dead, .dead, .dead, .dead, .dead, .dead, .dead, .dead, .dead, .dead, .dead, .dead, .dead, .dead, .dead, .dead, .dead, .dead, .dead, .dead, .dead, .dead, .dead, .dead, .dead, .dead, .dead, .dead, .dead, .dead, .dead, .dead, .dead, .dead, .dead] [] [.box [.str, .bool]] [.i y1, .i y2, .i y3, .i y4, .s y5.1, .b y5.2.1])) r x8 x9 x10 x11 x12 x13) e
    have h3 : draymanref03_Reader_Int_l0_step draymanref03_Reader_fails (fun y1 y2 y3 y4 y5 => k (.exit 0) (encSt [.ref 0 0, .int .i64, .int .i64, .dead, .dead, .dead, .dead, .int .i64, .int .u64, .dead, .dead, .dead, .dead, .dead, .dead, .dead, .dead, .dead, .dead, .dead, .dead, .dead, .dead, .dead, .dead, .dead, .dead, .dead, .dead, .dead, .dead, .dead, .dead, .dead, .dead, .dead, .dead, .dead, .dead, .dead, .dead, .dead, .dead, .dead, .dead, .dead, .dead, .dead, .dead, .dead, .dead, .dead, .dead, .dead, .dead, .dead, .dead, .dead, .dead, .dead, .dead, .dead, .dead, .dead, .dead, .dead, .dead, .dead, .dead, .dead, .dead, .dead, .dead, .dead, .dead, .dead, .dead, .dead, .dead, .dead, .dead, .dead, .dead, .dead, .dead, .dead, .dead, .dead, .dead, .dead, .dead, .dead, .dead, .dead, .dead, .dead, .dead, .dead, .dead, .dead, .dead, .dead, .dead, .dead, .dead, .dead, .dead, .dead, .dead, .dead, .dead, .dead, .dead, .dead, .dead] [] [.box [.str, .bool]] [.i y1, .i y2, .i y3, .i y4, .s y5.1, .b y5.2.1])) (fun (x8 : Int) (x9 : Int) (x10 : Int) (x11 : Int) (x12 : Int) (x13 : ByteArray × Bool × Unit) => draymanref03_Reader_Int_l0_run draymanref03_Reader_fails (fun y1 y2 y3 y4 y5 => k (.exit 0) (encSt [.ref 0 0, .int .i64, .int .i64, .dead, .dead, .dead, .dead, .int .i64, .int .u64, .dead, .dead, .dead, .dead, .dead, .dead, .dead, .dead, .dead, .dead, .dead, .dead, .dead, .dead, .dead, .dead, .dead, .dead, .dead, .dead, .dead, .dead, .dead, .dead, .dead, .dead, .dead, .dead, .dead, .dead, .dead, .dead, .dead, .dead, .dead, .dead, .dead, .dead, .dead, .dead, .dead, .dead, .dead, .dead, .dead, .dead, .dead, .dead, .dead, .dead, .dead, .dead, .dead, .dead, .dead, .dead, .dead, .dead, .dead, .dead, .dead, .dead, .dead, .dead, .dead, .dead, .dead, .dead, .dead, .dead, .dead, .dead, .dead, .dead, .dead, .dead, .dead, .dead, .dead, .dead, .dead, .dead, .dead, .dead, .dead, .dead, .dead, .dead, .dead, .dead, .dead, .dead, .dead, .dead, .dead, .dead, .dead, .dead, .dead, .dead, .dead, .dead, .dead, .dead, .dead, .dead] [] [.box [.str, .bool]] [.i y1, .i y2, .i y3, .i y4, .s y5.1, .b y5.2.1])) n x8 x9 x10 x11 x12 x13) x8 x9 x10 x11 x12 x13 = draymanref03_Reader_Int_l0_run draymanref03_Reader_fails (fun y1 y2 y3 y4 y5 => k (.exit 0) (encSt [.ref 0 0, .int .i64, .int .i64, .dead, .dead, .dead, .dead, .int .i64, .int .u64, .dead, .dead, .dead, .dead, .dead, .dead, .dead, .dead, .dead, .dead, .dead, .dead, .dead, .dead, .dead, .dead, .dead, .dead, .dead, .dead, .dead, .dead, .dead, .dead, .dead, .dead, .dead, .dead, .dead, .dead, .dead, .dead, .dead, .dead, .dead, .dead, .dead, .dead, .dead, .dead, .dead, .dead, .dead, .dead, .dead, .dead, .dead, .dead, .dead, .dead, .dead, .dead, .dead, .dead, .dead, .dead, .dead, .dead, .dead, .dead, .dead, .dead, .dead, .dead, .dead, .dead, .dead, .dead, .dead, .dead, .dead, .dead, .dead, .dead, .dead, .dead, .dead, .dead, .dead, .dead, .dead, .dead, .dead, .dead, .dead, .dead, .dead, .dead, .dead, .dead, .dead, .dead, .dead, .dead, .dead, .dead, .dead, .dead, .dead, .dead, .dead, .dead, .dead, .dead, .dead, .dead] [] [.box [.str, .bool]] [.i y1, .i y2, .i y3, .i y4, .s y5.1, .b y5.2.1])) (n + 1) x8 x9 x10 x11 x12 x13 := by kernel_rfl
    exact h1.trans (h2.trans h3)

theorem draymanref03_Reader_Int_l0_ok {α : Type} (draymanref03_Reader_fails : draymanref03_Reader_fails_T α) : (draymanref03_Reader_Int_l0_spec draymanref03_Reader_fails : LoopSpec α).ok Go.Proofs.Try.prog (envOf (draymanref03_Reader_Int_C draymanref03_Reader_fails) draymanref03_Reader_Int_q draymanref03_Reader_Int_inl 1000 draymanref03_Reader_Int_ann false (draymanref03_Reader_Int_loops draymanref03_Reader_fails) (fun _ => none)) := by
  intro ds k
  have h1 : draymanref03_Reader_Int_l0_ev draymanref03_Reader_fails 1000 (encSt draymanref03_Reader_Int_l0_t draymanref03_Reader_Int_l0_s draymanref03_Reader_Int_l0_h ds) k = draymanref03_Reader_Int_l0_ev draymanref03_Reader_fails 1000 (encSt draymanref03_Reader_Int_l0_t draymanref03_Reader_Int_l0_s draymanref03_Reader_Int_l0_h [.i (hdI ds), .i (hdI ds.tail), .i (hdI ds.tail.tail), .i (hdI ds.tail.tail.tail), .i (hdI ds.tail.tail.tail.tail), .s ((hdS ds.tail.tail.tail.tail.tail, hdB ds.tail.tail.tail.tail.tail.tail, ()).1), .b ((hdS ds.tail.tail.tail.tail.tail, hdB ds.tail.tail.tail.tail.tail.tail, ()).2.1)]) k := by kernel_rfl
  have h2 := draymanref03_Reader_Int_l0_eq draymanref03_Reader_fails 1000 (hdI ds) (hdI ds.tail) (hdI ds.tail.tail) (hdI ds.tail.tail.tail) (hdI ds.tail.tail.tail.tail) (hdS ds.tail.tail.tail.tail.tail, hdB ds.tail.tail.tail.tail.tail.tail, ()) k
  exact h1.trans h2

theorem draymanref03_Reader_Int_ev {α : Type} (draymanref03_Reader_fails : draymanref03_Reader_fails_T α) : EvOk (α := α) Go.Proofs.Try.prog (envOf (draymanref03_Reader_Int_C draymanref03_Reader_fails) draymanref03_Reader_Int_q draymanref03_Reader_Int_inl 1000 draymanref03_Reader_Int_ann false (draymanref03_Reader_Int_loops draymanref03_Reader_fails) (fun _ => none)) 6 (draymanref03_Reader_Int_sp (draymanref03_Reader_Int_g draymanref03_Reader_fails)) := by intro ds k; kernel_rfl

theorem draymanref03_Reader_Int_ok {α : Type} : (draymanref03_Reader_Int_spec : FunSpec α).ok Go.Proofs.Try.prog :=
  FunSpec.ok_of (sp := draymanref03_Reader_Int_spec) (C := draymanref03_Reader_Int_C draymanref03_Reader_fails) (q := draymanref03_Reader_Int_q) (inl := draymanref03_Reader_Int_inl) (N := 1000) (ann := draymanref03_Reader_Int_ann) (fr := false) (D := 6) (l := (draymanref03_Reader_Int_loops draymanref03_Reader_fails)) (hk := (fun _ => none)) (okCons draymanref03_Reader_fails_ok okNil) (lokCons (draymanref03_Reader_Int_l0_ok draymanref03_Reader_fails) lokNil) noHooks (draymanref03_Reader_Int_ev draymanref03_Reader_fails)

end
end Go.Rv.Try

set_option linter.unusedVariables false
set_option maxRecDepth 100000
set_option maxHeartbeats 4000000
namespace Go.Rv.Try
open Go Go.Rv Go.RowKit
noncomputable section

-- (*drayman/draymanref03.Reader).Flag

abbrev draymanref03_Reader_Flag_T (α : Type) : Type := (ByteArray × Bool × Unit) → (Bool → (ByteArray × Bool × Unit) → Option α) → Option α

noncomputable def draymanref03_Reader_Flag_g {α : Type} (draymanref03_Reader_fails : draymanref03_Reader_fails_T α) (x1 : ByteArray × Bool × Unit) (k : Bool → (ByteArray × Bool × Unit) → Option α) : Option α :=
  (cond (!x1.2.1)
    (cond (!((x1.1.size : Int) == 0))
      (cond (decide ((0 : Int) < (x1.1.size : Int)))
        (cond (decide ((byteAt x1.1 0) > 1))
          (draymanref03_Reader_fails x1 fun r2 =>
            (k false r2))
          (cond (decide ((0 : Int) < (x1.1.size : Int)))
            (cond (decide ((1 : Int) ≤ (x1.1.size : Int)))
              (k ((byteAt x1.1 0) == 1) ((x1.1.extract 1 x1.1.size), x1.2.1, ()))
              none)
            none))
        none)
      (draymanref03_Reader_fails x1 fun r3 =>
        (k false r3)))
    (draymanref03_Reader_fails x1 fun r4 =>
      (k false r4)))

noncomputable def draymanref03_Reader_Flag {α : Type} : draymanref03_Reader_Flag_T α := draymanref03_Reader_Flag_g draymanref03_Reader_fails

noncomputable def draymanref03_Reader_Flag_sp {α : Type} (draymanref03_Reader_Flag : draymanref03_Reader_Flag_T α) : FunSpec α := ⟨110, [.ref 0 0], [.box [.str, .bool]], fun ds k => draymanref03_Reader_Flag (hdS ds, hdB ds.tail, ()) (fun r1 r2 => k (enc dep (.bool) [.b r1]).1 (encBs [.box [.str, .bool]] [.s r2.1, .b r2.2.1]).1)⟩

noncomputable def draymanref03_Reader_Flag_spec {α : Type} : FunSpec α := draymanref03_Reader_Flag_sp draymanref03_Reader_Flag

noncomputable def draymanref03_Reader_Flag_C {α : Type} (draymanref03_Reader_fails : draymanref03_Reader_fails_T α) : List (FunSpec α) := [draymanref03_Reader_fails_sp draymanref03_Reader_fails]

noncomputable def draymanref03_Reader_Flag_q : FuncId → Bool := fun f => Nat.beq f 138

noncomputable def draymanref03_Reader_Flag_inl : FuncId → Bool := fun f => false

noncomputable def draymanref03_Reader_Flag_ann : FuncId → AnnT := fun f p => ⟨[], [], [], [], 0, [], [], none⟩

noncomputable def draymanref03_Reader_Flag_loops {α : Type} (draymanref03_Reader_fails : draymanref03_Reader_fails_T α) : List (LoopSpec α) := []

theorem draymanref03_Reader_Flag_ev {α : Type} (draymanref03_Reader_fails : draymanref03_Reader_fails_T α) : EvOk (α := α) Go.Proofs.Try.prog (envOf (draymanref03_Reader_Flag_C draymanref03_Reader_fails) draymanref03_Reader_Flag_q draymanref03_Reader_Flag_inl 1000 draymanref03_Reader_Flag_ann false (draymanref03_Reader_Flag_loops draymanref03_Reader_fails) (fun _ => none)) 6 (draymanref03_Reader_Flag_sp (draymanref03_Reader_Flag_g draymanref03_Reader_fails)) := by intro ds k; kernel_rfl

theorem draymanref03_Reader_Flag_ok {α : Type} : (draymanref03_Reader_Flag_spec : FunSpec α).ok Go.Proofs.Try.prog :=
  FunSpec.ok_of (sp := draymanref03_Reader_Flag_spec) (C := draymanref03_Reader_Flag_C draymanref03_Reader_fails) (q := draymanref03_Reader_Flag_q) (inl := draymanref03_Reader_Flag_inl) (N := 1000) (ann := draymanref03_Reader_Flag_ann) (fr := false) (D := 6) (l := (draymanref03_Reader_Flag_loops draymanref03_Reader_fails)) (hk := (fun _ => none)) (okCons draymanref03_Reader_fails_ok okNil) lokNil noHooks (draymanref03_Reader_Flag_ev draymanref03_Reader_fails)

end
end Go.Rv.Try

set_option linter.unusedVariables false
set_option maxRecDepth 100000
set_option maxHeartbeats 4000000
namespace Go.Rv.Try
open Go Go.Rv Go.RowKit
noncomputable section

-- (*drayman/draymanref03.Reader).Done

abbrev draymanref03_Reader_Done_T (α : Type) : Type := (ByteArray × Bool × Unit) → (Bool → (ByteArray × Bool × Unit) → Option α) → Option α

noncomputable def draymanref03_Reader_Done {α : Type} (x1 : ByteArray × Bool × Unit) (k : Bool → (ByteArray × Bool × Unit) → Option α) : Option α :=
  (cond (!x1.2.1)
    (k ((x1.1.size : Int) == 0) x1)
    (k false x1))

noncomputable def draymanref03_Reader_Done_sp {α : Type} (draymanref03_Reader_Done : draymanref03_Reader_Done_T α) : FunSpec α := ⟨66, [.ref 0 0], [.box [.str, .bool]], fun ds k => draymanref03_Reader_Done (hdS ds, hdB ds.tail, ()) (fun r1 r2 => k (enc dep (.bool) [.b r1]).1 (encBs [.box [.str, .bool]] [.s r2.1, .b r2.2.1]).1)⟩

noncomputable def draymanref03_Reader_Done_spec {α : Type} : FunSpec α := draymanref03_Reader_Done_sp draymanref03_Reader_Done

noncomputable def draymanref03_Reader_Done_C {α : Type} : List (FunSpec α) := []

noncomputable def draymanref03_Reader_Done_q : FuncId → Bool := fun f => false

noncomputable def draymanref03_Reader_Done_inl : FuncId → Bool := fun f => false

noncomputable def draymanref03_Reader_Done_ann : FuncId → AnnT := fun f p => ⟨[], [], [], [], 0, [], [], none⟩

noncomputable def draymanref03_Reader_Done_loops {α : Type} : List (LoopSpec α) := []

theorem draymanref03_Reader_Done_ev {α : Type} : EvOk (α := α) Go.Proofs.Try.prog (envOf (draymanref03_Reader_Done_C) draymanref03_Reader_Done_q draymanref03_Reader_Done_inl 1000 draymanref03_Reader_Done_ann false (draymanref03_Reader_Done_loops) (fun _ => none)) 6 (draymanref03_Reader_Done_sp (draymanref03_Reader_Done)) := by intro ds k; kernel_rfl

theorem draymanref03_Reader_Done_ok {α : Type} : (draymanref03_Reader_Done_spec : FunSpec α).ok Go.Proofs.Try.prog :=
  FunSpec.ok_of (sp := draymanref03_Reader_Done_spec) (C := draymanref03_Reader_Done_C) (q := draymanref03_Reader_Done_q) (inl := draymanref03_Reader_Done_inl) (N := 1000) (ann := draymanref03_Reader_Done_ann) (fr := false) (D := 6) (l := (draymanref03_Reader_Done_loops)) (hk := (fun _ => none)) okNil lokNil noHooks (draymanref03_Reader_Done_ev)

end
end Go.Rv.Try

set_option linter.unusedVariables false
set_option maxRecDepth 100000
set_option maxHeartbeats 4000000
namespace Go.Rv.Try
open Go Go.Rv Go.RowKit
noncomputable section

-- (*drayman/draymanref03.Reader).Left

abbrev draymanref03_Reader_Left_T (α : Type) : Type := (ByteArray × Bool × Unit) → (Int → (ByteArray × Bool × Unit) → Option α) → Option α

noncomputable def draymanref03_Reader_Left {α : Type} (x1 : ByteArray × Bool × Unit) (k : Int → (ByteArray × Bool × Unit) → Option α) : Option α :=
  (k (x1.1.size : Int) x1)

noncomputable def draymanref03_Reader_Left_sp {α : Type} (draymanref03_Reader_Left : draymanref03_Reader_Left_T α) : FunSpec α := ⟨64, [.ref 0 0], [.box [.str, .bool]], fun ds k => draymanref03_Reader_Left (hdS ds, hdB ds.tail, ()) (fun r1 r2 => k (enc dep (.int .i64) [.i r1]).1 (encBs [.box [.str, .bool]] [.s r2.1, .b r2.2.1]).1)⟩

noncomputable def draymanref03_Reader_Left_spec {α : Type} : FunSpec α := draymanref03_Reader_Left_sp draymanref03_Reader_Left

noncomputable def draymanref03_Reader_Left_C {α : Type} : List (FunSpec α) := []

noncomputable def draymanref03_Reader_Left_q : FuncId → Bool := fun f => false

noncomputable def draymanref03_Reader_Left_inl : FuncId → Bool := fun f => false

noncomputable def draymanref03_Reader_Left_ann : FuncId → AnnT := fun f p => ⟨[], [], [], [], 0, [], [], none⟩

noncomputable def draymanref03_Reader_Left_loops {α : Type} : List (LoopSpec α) := []

theorem draymanref03_Reader_Left_ev {α : Type} : EvOk (α := α) Go.Proofs.Try.prog (envOf (draymanref03_Reader_Left_C) draymanref03_Reader_Left_q draymanref03_Reader_Left_inl 1000 draymanref03_Reader_Left_ann false (draymanref03_Reader_Left_loops) (fun _ => none)) 6 (draymanref03_Reader_Left_sp (draymanref03_Reader_Left)) := by intro ds k; kernel_rfl

theorem draymanref03_Reader_Left_ok {α : Type} : (draymanref03_Reader_Left_spec : FunSpec α).ok Go.Proofs.Try.prog :=
  FunSpec.ok_of (sp := draymanref03_Reader_Left_spec) (C := draymanref03_Reader_Left_C) (q := draymanref03_Reader_Left_q) (inl := draymanref03_Reader_Left_inl) (N := 1000) (ann := draymanref03_Reader_Left_ann) (fr := false) (D := 6) (l := (draymanref03_Reader_Left_loops)) (hk := (fun _ => none)) okNil lokNil noHooks (draymanref03_Reader_Left_ev)

end
end Go.Rv.Try

set_option linter.unusedVariables false
set_option maxRecDepth 100000
set_option maxHeartbeats 4000000
namespace Go.Rv.Try
open Go Go.Rv Go.RowKit
noncomputable section

-- drayman/draymanref17.Service

abbrev draymanref17_Service_T (α : Type) : Type := Int → (Int → Option α) → Option α

noncomputable def draymanref17_Service {α : Type} (op1 : Int) (k : Int → Option α) : Option α :=
  (cond (op1 == 2)
    (cond (op1 == 2)
      (k 1)
      (cond (op1 == 4)
        (k 2)
        (k 0)))
    (cond (op1 == 6)
      (k 1)
      (cond (op1 == 4)
        (k 2)
        (k 0))))

noncomputable def draymanref17_Service_sp {α : Type} (draymanref17_Service : draymanref17_Service_T α) : FunSpec α := ⟨87, [.int .i64], [], fun ds k => draymanref17_Service (hdI ds) (fun r1 => k (enc dep (.int .i64) [.i r1]).1 [])⟩

noncomputable def draymanref17_Service_spec {α : Type} : FunSpec α := draymanref17_Service_sp draymanref17_Service

noncomputable def draymanref17_Service_C {α : Type} : List (FunSpec α) := []

noncomputable def draymanref17_Service_q : FuncId → Bool := fun f => false

noncomputable def draymanref17_Service_inl : FuncId → Bool := fun f => false

noncomputable def draymanref17_Service_ann : FuncId → AnnT := fun f p => ⟨[], [], [], [], 0, [], [], none⟩

noncomputable def draymanref17_Service_loops {α : Type} : List (LoopSpec α) := []

theorem draymanref17_Service_ev {α : Type} : EvOk (α := α) Go.Proofs.Try.prog (envOf (draymanref17_Service_C) draymanref17_Service_q draymanref17_Service_inl 1000 draymanref17_Service_ann false (draymanref17_Service_loops) (fun _ => none)) 6 (draymanref17_Service_sp (draymanref17_Service)) := by intro ds k; kernel_rfl

theorem draymanref17_Service_ok {α : Type} : (draymanref17_Service_spec : FunSpec α).ok Go.Proofs.Try.prog :=
  FunSpec.ok_of (sp := draymanref17_Service_spec) (C := draymanref17_Service_C) (q := draymanref17_Service_q) (inl := draymanref17_Service_inl) (N := 1000) (ann := draymanref17_Service_ann) (fr := false) (D := 6) (l := (draymanref17_Service_loops)) (hk := (fun _ => none)) okNil lokNil noHooks (draymanref17_Service_ev)

end
end Go.Rv.Try

set_option linter.unusedVariables false
set_option maxRecDepth 100000
set_option maxHeartbeats 4000000
namespace Go.Rv.Try
open Go Go.Rv Go.RowKit
noncomputable section

-- drayman/draymanref01.Fit

abbrev draymanref01_Fit_T (α : Type) : Type := Int → (Bool → Option α) → Option α

noncomputable def draymanref01_Fit {α : Type} (n1 : Int) (k : Bool → Option α) : Option α :=
  (cond (decide (n1 ≥ 0))
    (k (decide (n1 ≤ 1099511627776)))
    (k false))

noncomputable def draymanref01_Fit_sp {α : Type} (draymanref01_Fit : draymanref01_Fit_T α) : FunSpec α := ⟨97, [.int .i64], [], fun ds k => draymanref01_Fit (hdI ds) (fun r1 => k (enc dep (.bool) [.b r1]).1 [])⟩

noncomputable def draymanref01_Fit_spec {α : Type} : FunSpec α := draymanref01_Fit_sp draymanref01_Fit

noncomputable def draymanref01_Fit_C {α : Type} : List (FunSpec α) := []

noncomputable def draymanref01_Fit_q : FuncId → Bool := fun f => false

noncomputable def draymanref01_Fit_inl : FuncId → Bool := fun f => false

noncomputable def draymanref01_Fit_ann : FuncId → AnnT := fun f p => ⟨[], [], [], [], 0, [], [], none⟩

noncomputable def draymanref01_Fit_loops {α : Type} : List (LoopSpec α) := []

theorem draymanref01_Fit_ev {α : Type} : EvOk (α := α) Go.Proofs.Try.prog (envOf (draymanref01_Fit_C) draymanref01_Fit_q draymanref01_Fit_inl 1000 draymanref01_Fit_ann false (draymanref01_Fit_loops) (fun _ => none)) 6 (draymanref01_Fit_sp (draymanref01_Fit)) := by intro ds k; kernel_rfl

theorem draymanref01_Fit_ok {α : Type} : (draymanref01_Fit_spec : FunSpec α).ok Go.Proofs.Try.prog :=
  FunSpec.ok_of (sp := draymanref01_Fit_spec) (C := draymanref01_Fit_C) (q := draymanref01_Fit_q) (inl := draymanref01_Fit_inl) (N := 1000) (ann := draymanref01_Fit_ann) (fr := false) (D := 6) (l := (draymanref01_Fit_loops)) (hk := (fun _ => none)) okNil lokNil noHooks (draymanref01_Fit_ev)

end
end Go.Rv.Try

set_option linter.unusedVariables false
set_option maxRecDepth 100000
set_option maxHeartbeats 4000000
namespace Go.Rv.Try
open Go Go.Rv Go.RowKit
noncomputable section

-- drayman/draymanref17.One

abbrev draymanref17_One_T (α : Type) : Type := Z0 → (Bool → Option α) → Option α

noncomputable def draymanref17_One_g {α : Type} (draymanref17_Service : draymanref17_Service_T α) (draymanref01_Fit : draymanref01_Fit_T α) (x1 : Int × Int × Int × Bool × Int × Int × Bool × Unit) (k : Bool → Option α) : Option α :=
  (cond (decide (x1.1 ≥ 1))
    (cond (decide (x1.1 ≤ 1099511627776))
      (cond (decide (x1.2.1 ≥ 1))
        (cond (decide (x1.2.1 ≤ 1099511627776))
          (cond (decide (x1.2.2.1 ≥ 0))
            (cond (decide (x1.2.2.1 < 6))
              (draymanref17_Service x1.2.2.2.2.1 fun r2 =>
                (cond (r2 != 0)
                  (draymanref01_Fit x1.2.2.2.2.2.1 fun r3 =>
                    (k r3))
                  (k false)))
              (k false))
            (k false))
          (k false))
        (k false))
      (k false))
    (k false))

noncomputable def draymanref17_One {α : Type} : draymanref17_One_T α := draymanref17_One_g draymanref17_Service draymanref01_Fit

noncomputable def draymanref17_One_sp {α : Type} (draymanref17_One : draymanref17_One_T α) : FunSpec α := ⟨104, [.agg [.int .i64, .int .i64, .int .i64, .bool, .int .i64, .int .i64, .bool]], [], fun ds k => draymanref17_One (hdI ds, hdI ds.tail, hdI ds.tail.tail, hdB ds.tail.tail.tail, hdI ds.tail.tail.tail.tail, hdI ds.tail.tail.tail.tail.tail, hdB ds.tail.tail.tail.tail.tail.tail, ()) (fun r1 => k (enc dep (.bool) [.b r1]).1 [])⟩

noncomputable def draymanref17_One_spec {α : Type} : FunSpec α := draymanref17_One_sp draymanref17_One

noncomputable def draymanref17_One_C {α : Type} (draymanref17_Service : draymanref17_Service_T α) (draymanref01_Fit : draymanref01_Fit_T α) : List (FunSpec α) := [draymanref17_Service_sp draymanref17_Service, draymanref01_Fit_sp draymanref01_Fit]

noncomputable def draymanref17_One_q : FuncId → Bool := fun f => Nat.beq f 87 || Nat.beq f 97

noncomputable def draymanref17_One_inl : FuncId → Bool := fun f => false

noncomputable def draymanref17_One_ann : FuncId → AnnT := fun f p => ⟨[], [], [], [], 0, [], [], none⟩

noncomputable def draymanref17_One_loops {α : Type} (draymanref17_Service : draymanref17_Service_T α) (draymanref01_Fit : draymanref01_Fit_T α) : List (LoopSpec α) := []

theorem draymanref17_One_ev {α : Type} (draymanref17_Service : draymanref17_Service_T α) (draymanref01_Fit : draymanref01_Fit_T α) : EvOk (α := α) Go.Proofs.Try.prog (envOf (draymanref17_One_C draymanref17_Service draymanref01_Fit) draymanref17_One_q draymanref17_One_inl 1000 draymanref17_One_ann false (draymanref17_One_loops draymanref17_Service draymanref01_Fit) (fun _ => none)) 6 (draymanref17_One_sp (draymanref17_One_g draymanref17_Service draymanref01_Fit)) := by intro ds k; kernel_rfl

theorem draymanref17_One_ok {α : Type} : (draymanref17_One_spec : FunSpec α).ok Go.Proofs.Try.prog :=
  FunSpec.ok_of (sp := draymanref17_One_spec) (C := draymanref17_One_C draymanref17_Service draymanref01_Fit) (q := draymanref17_One_q) (inl := draymanref17_One_inl) (N := 1000) (ann := draymanref17_One_ann) (fr := false) (D := 6) (l := (draymanref17_One_loops draymanref17_Service draymanref01_Fit)) (hk := (fun _ => none)) (okCons draymanref17_Service_ok (okCons draymanref01_Fit_ok okNil)) lokNil noHooks (draymanref17_One_ev draymanref17_Service draymanref01_Fit)

end
end Go.Rv.Try

set_option linter.unusedVariables false
set_option maxRecDepth 100000
set_option maxHeartbeats 4000000
namespace Go.Rv.Try
open Go Go.Rv Go.RowKit
noncomputable section

-- drayman/draymanref23.FitReply

abbrev draymanref23_FitReply_T (α : Type) : Type := (Int × Int × Int × Int × Bool × Int × Int × Unit) → (Bool → Option α) → Option α

noncomputable def draymanref23_FitReply {α : Type} (r1 : Int × Int × Int × Int × Bool × Int × Int × Unit) (k : Bool → Option α) : Option α :=
  (cond (!(r1.1 == 1))
    (cond (r1.1 == 2)
      (cond (decide (r1.2.1 ≥ 1))
        (cond (decide (r1.2.1 ≤ 1099511627776))
          (cond (decide (r1.2.2.1 ≥ 1))
            (cond (decide (r1.2.2.1 ≤ 1099511627776))
              (cond (decide (r1.2.2.2.2.2.1 ≥ 1))
                (cond (decide (r1.2.2.2.2.2.1 ≤ 1099511627776))
                  (cond (decide (r1.2.2.2.1 ≥ 0))
                    (cond (decide (r1.2.2.2.1 < 6))
                      (cond (decide (r1.2.2.2.2.2.2.1 ≥ 1))
                        (k (decide (r1.2.2.2.2.2.2.1 ≤ 3)))
                        (k false))
                      (k false))
                    (k false))
                  (k false))
                (k false))
              (k false))
            (k false))
          (k false))
        (k false))
      (k false))
    (cond (decide (r1.2.1 ≥ 1))
      (cond (decide (r1.2.1 ≤ 1099511627776))
        (cond (decide (r1.2.2.1 ≥ 1))
          (cond (decide (r1.2.2.1 ≤ 1099511627776))
            (cond (decide (r1.2.2.2.2.2.1 ≥ 1))
              (cond (decide (r1.2.2.2.2.2.1 ≤ 1099511627776))
                (cond (decide (r1.2.2.2.1 ≥ 0))
                  (cond (decide (r1.2.2.2.1 < 6))
                    (cond (decide (r1.2.2.2.2.2.2.1 ≥ 1))
                      (k (decide (r1.2.2.2.2.2.2.1 ≤ 3)))
                      (k false))
                    (k false))
                  (k false))
                (k false))
              (k false))
            (k false))
          (k false))
        (k false))
      (k false)))

noncomputable def draymanref23_FitReply_sp {α : Type} (draymanref23_FitReply : draymanref23_FitReply_T α) : FunSpec α := ⟨52, [.agg [.int .i64, .int .i64, .int .i64, .int .i64, .bool, .int .i64, .int .i64]], [], fun ds k => draymanref23_FitReply (hdI ds, hdI ds.tail, hdI ds.tail.tail, hdI ds.tail.tail.tail, hdB ds.tail.tail.tail.tail, hdI ds.tail.tail.tail.tail.tail, hdI ds.tail.tail.tail.tail.tail.tail, ()) (fun r1 => k (enc dep (.bool) [.b r1]).1 [])⟩

noncomputable def draymanref23_FitReply_spec {α : Type} : FunSpec α := draymanref23_FitReply_sp draymanref23_FitReply

noncomputable def draymanref23_FitReply_C {α : Type} : List (FunSpec α) := []

noncomputable def draymanref23_FitReply_q : FuncId → Bool := fun f => false

noncomputable def draymanref23_FitReply_inl : FuncId → Bool := fun f => false

noncomputable def draymanref23_FitReply_ann : FuncId → AnnT := fun f p => ⟨[], [], [], [], 0, [], [], none⟩

noncomputable def draymanref23_FitReply_loops {α : Type} : List (LoopSpec α) := []

theorem draymanref23_FitReply_ev {α : Type} : EvOk (α := α) Go.Proofs.Try.prog (envOf (draymanref23_FitReply_C) draymanref23_FitReply_q draymanref23_FitReply_inl 1000 draymanref23_FitReply_ann false (draymanref23_FitReply_loops) (fun _ => none)) 6 (draymanref23_FitReply_sp (draymanref23_FitReply)) := by intro ds k; kernel_rfl

theorem draymanref23_FitReply_ok {α : Type} : (draymanref23_FitReply_spec : FunSpec α).ok Go.Proofs.Try.prog :=
  FunSpec.ok_of (sp := draymanref23_FitReply_spec) (C := draymanref23_FitReply_C) (q := draymanref23_FitReply_q) (inl := draymanref23_FitReply_inl) (N := 1000) (ann := draymanref23_FitReply_ann) (fr := false) (D := 6) (l := (draymanref23_FitReply_loops)) (hk := (fun _ => none)) okNil lokNil noHooks (draymanref23_FitReply_ev)

end
end Go.Rv.Try

set_option linter.unusedVariables false
set_option maxRecDepth 100000
set_option maxHeartbeats 4000000
namespace Go.Rv.Try
open Go Go.Rv Go.RowKit
noncomputable section

-- drayman/draymanref23.Fit

abbrev draymanref23_Fit_T (α : Type) : Type := (Int × Bool × Int × Int × Int × Int × Bool × Int × Int × Bool × Int × Int × Int × Int × Bool × Int × Int × Unit) → (Bool → Option α) → Option α

noncomputable def draymanref23_Fit_g {α : Type} (draymanref17_One : draymanref17_One_T α) (draymanref17_Service : draymanref17_Service_T α) (draymanref23_FitReply : draymanref23_FitReply_T α) (x1 : Int × Bool × Int × Int × Int × Int × Bool × Int × Int × Bool × Int × Int × Int × Int × Bool × Int × Int × Unit) (k : Bool → Option α) : Option α :=
  (cond (!(decide (x1.1 < 1)))
    (cond (decide (x1.1 > 1099511627776))
      (k false)
      (cond x1.2.1
        (draymanref17_One (x1.2.2.2.1, x1.2.2.2.2.1, x1.2.2.2.2.2.1, x1.2.2.2.2.2.2.1, x1.2.2.2.2.2.2.2.1, x1.2.2.2.2.2.2.2.2.1, x1.2.2.2.2.2.2.2.2.2.1, ()) fun r2 =>
          (cond r2
            (draymanref17_Service x1.2.2.2.2.2.2.2.1 fun r3 =>
              (cond (x1.2.2.1 == r3)
                (k ((x1.2.2.2.2.2.2.2.2.2.2.1 == 0) && ((x1.2.2.2.2.2.2.2.2.2.2.2.1 == 0) && ((x1.2.2.2.2.2.2.2.2.2.2.2.2.1 == 0) && ((x1.2.2.2.2.2.2.2.2.2.2.2.2.2.1 == 0) && ((x1.2.2.2.2.2.2.2.2.2.2.2.2.2.2.1 == false) && ((x1.2.2.2.2.2.2.2.2.2.2.2.2.2.2.2.1 == 0) && ((x1.2.2.2.2.2.2.2.2.2.2.2.2.2.2.2.2.1 == 0) && true))))))))
                (k false)))
            (k false)))
        (draymanref23_FitReply x1.2.2.2.2.2.2.2.2.2.2 fun r4 =>
          (cond r4
            (cond (x1.2.2.1 == x1.2.2.2.2.2.2.2.2.2.2.1)
              (k ((x1.2.2.2.1 == 0) && ((x1.2.2.2.2.1 == 0) && ((x1.2.2.2.2.2.1 == 0) && ((x1.2.2.2.2.2.2.1 == false) && ((x1.2.2.2.2.2.2.2.1 == 0) && ((x1.2.2.2.2.2.2.2.2.1 == 0) && ((x1.2.2.2.2.2.2.2.2.2.1 == false) && true))))))))
              (k false))
            (k false)))))
    (k false))

noncomputable def draymanref23_Fit {α : Type} : draymanref23_Fit_T α := draymanref23_Fit_g draymanref17_One draymanref17_Service draymanref23_FitReply

noncomputable def draymanref23_Fit_sp {α : Type} (draymanref23_Fit : draymanref23_Fit_T α) : FunSpec α := ⟨50, [.agg [.int .i64, .bool, .int .i64, .int .i64, .int .i64, .int .i64, .bool, .int .i64, .int .i64, .bool, .int .i64, .int .i64, .int .i64, .int .i64, .bool, .int .i64, .int .i64]], [], fun ds k => draymanref23_Fit (hdI ds, hdB ds.tail, hdI ds.tail.tail, hdI ds.tail.tail.tail, hdI ds.tail.tail.tail.tail, hdI ds.tail.tail.tail.tail.tail, hdB ds.tail.tail.tail.tail.tail.tail, hdI ds.tail.tail.tail.tail.tail.tail.tail, hdI ds.tail.tail.tail.tail.tail.tail.tail.tail, hdB ds.tail.tail.tail.tail.tail.tail.tail.tail.tail, hdI ds.tail.tail.tail.tail.tail.tail.tail.tail.tail.tail, hdI ds.tail.tail.tail.tail.tail.tail.tail.tail.tail.tail.tail, hdI ds.tail.tail.tail.tail.tail.tail.tail.tail.tail.tail.tail.tail, hdI ds.tail.tail.tail.tail.tail.tail.tail.tail.tail.tail.tail.tail.tail, hdB ds.tail.tail.tail.tail.tail.tail.tail.tail.tail.tail.tail.tail.tail.tail, hdI ds.tail.tail.tail.tail.tail.tail.tail.tail.tail.tail.tail.tail.tail.tail.tail, hdI ds.tail.tail.tail.tail.tail.tail.tail.tail.tail.tail.tail.tail.tail.tail.tail.tail, ()) (fun r1 => k (enc dep (.bool) [.b r1]).1 [])⟩

noncomputable def draymanref23_Fit_spec {α : Type} : FunSpec α := draymanref23_Fit_sp draymanref23_Fit

noncomputable def draymanref23_Fit_C {α : Type} (draymanref17_One : draymanref17_One_T α) (draymanref17_Service : draymanref17_Service_T α) (draymanref23_FitReply : draymanref23_FitReply_T α) : List (FunSpec α) := [draymanref17_One_sp draymanref17_One, draymanref17_Service_sp draymanref17_Service, draymanref23_FitReply_sp draymanref23_FitReply]

noncomputable def draymanref23_Fit_q : FuncId → Bool := fun f => Nat.beq f 52 || Nat.beq f 87 || Nat.beq f 104

noncomputable def draymanref23_Fit_inl : FuncId → Bool := fun f => false

noncomputable def draymanref23_Fit_ann : FuncId → AnnT := fun f p => if f = 50 then (if p = [false, false, true, false, true, true] then ⟨[], [], [], [], 2, [], [], none⟩ else ⟨[], [], [], [], 0, [], [], none⟩) else ⟨[], [], [], [], 0, [], [], none⟩

noncomputable def draymanref23_Fit_loops {α : Type} (draymanref17_One : draymanref17_One_T α) (draymanref17_Service : draymanref17_Service_T α) (draymanref23_FitReply : draymanref23_FitReply_T α) : List (LoopSpec α) := []

theorem draymanref23_Fit_ev {α : Type} (draymanref17_One : draymanref17_One_T α) (draymanref17_Service : draymanref17_Service_T α) (draymanref23_FitReply : draymanref23_FitReply_T α) : EvOk (α := α) Go.Proofs.Try.prog (envOf (draymanref23_Fit_C draymanref17_One draymanref17_Service draymanref23_FitReply) draymanref23_Fit_q draymanref23_Fit_inl 1000 draymanref23_Fit_ann false (draymanref23_Fit_loops draymanref17_One draymanref17_Service draymanref23_FitReply) (fun _ => none)) 6 (draymanref23_Fit_sp (draymanref23_Fit_g draymanref17_One draymanref17_Service draymanref23_FitReply)) := by intro ds k; kernel_rfl

theorem draymanref23_Fit_ok {α : Type} : (draymanref23_Fit_spec : FunSpec α).ok Go.Proofs.Try.prog :=
  FunSpec.ok_of (sp := draymanref23_Fit_spec) (C := draymanref23_Fit_C draymanref17_One draymanref17_Service draymanref23_FitReply) (q := draymanref23_Fit_q) (inl := draymanref23_Fit_inl) (N := 1000) (ann := draymanref23_Fit_ann) (fr := false) (D := 6) (l := (draymanref23_Fit_loops draymanref17_One draymanref17_Service draymanref23_FitReply)) (hk := (fun _ => none)) (okCons draymanref17_One_ok (okCons draymanref17_Service_ok (okCons draymanref23_FitReply_ok okNil))) lokNil noHooks (draymanref23_Fit_ev draymanref17_One draymanref17_Service draymanref23_FitReply)

end
end Go.Rv.Try

set_option linter.unusedVariables false
set_option maxRecDepth 100000
set_option maxHeartbeats 4000000
namespace Go.Rv.Try
open Go Go.Rv Go.RowKit
noncomputable section

-- drayman/draymanref23.PutEntry

abbrev draymanref23_PutEntry_T (α : Type) : Type := Z0 → (ByteArray → Option α) → Option α

noncomputable def draymanref23_PutEntry_g {α : Type} (draymanref03_Ints : draymanref03_Ints_T α) (draymanref03_Flag : draymanref03_Flag_T α) (x1 : Int × Int × Int × Bool × Int × Int × Bool × Unit) (k : ByteArray → Option α) : Option α :=
  (draymanref03_Ints (⟨false, 3, (tSel [(x1.1, ()), (x1.2.1, ()), (x1.2.2.1, ())] (0, ()))⟩ : Seq (Int × Unit)) fun r2 =>
    (draymanref03_Flag x1.2.2.2.1 fun r3 =>
      (cond (Nat.ble ((r2).size + (r3).size) 9223372036854775807)
        (draymanref03_Ints (⟨false, 2, (tSel [(x1.2.2.2.2.1, ()), (x1.2.2.2.2.2.1, ())] (0, ()))⟩ : Seq (Int × Unit)) fun r4 =>
          (cond (Nat.ble (((r2 ++ r3)).size + (r4).size) 9223372036854775807)
            (draymanref03_Flag x1.2.2.2.2.2.2.1 fun r5 =>
              (cond (Nat.ble ((((r2 ++ r3) ++ r4)).size + (r5).size) 9223372036854775807)
                (k (((r2 ++ r3) ++ r4) ++ r5))
                none))
            none))
        none)))

noncomputable def draymanref23_PutEntry {α : Type} : draymanref23_PutEntry_T α := draymanref23_PutEntry_g draymanref03_Ints draymanref03_Flag

noncomputable def draymanref23_PutEntry_sp {α : Type} (draymanref23_PutEntry : draymanref23_PutEntry_T α) : FunSpec α := ⟨54, [.agg [.int .i64, .int .i64, .int .i64, .bool, .int .i64, .int .i64, .bool]], [], fun ds k => draymanref23_PutEntry (hdI ds, hdI ds.tail, hdI ds.tail.tail, hdB ds.tail.tail.tail, hdI ds.tail.tail.tail.tail, hdI ds.tail.tail.tail.tail.tail, hdB ds.tail.tail.tail.tail.tail.tail, ()) (fun r1 => k (enc dep (.str) [.s r1]).1 [])⟩

noncomputable def draymanref23_PutEntry_spec {α : Type} : FunSpec α := draymanref23_PutEntry_sp draymanref23_PutEntry

noncomputable def draymanref23_PutEntry_C {α : Type} (draymanref03_Ints : draymanref03_Ints_T α) (draymanref03_Flag : draymanref03_Flag_T α) : List (FunSpec α) := [draymanref03_Ints_sp draymanref03_Ints, draymanref03_Flag_sp draymanref03_Flag]

noncomputable def draymanref23_PutEntry_q : FuncId → Bool := fun f => Nat.beq f 101 || Nat.beq f 105

noncomputable def draymanref23_PutEntry_inl : FuncId → Bool := fun f => false

noncomputable def draymanref23_PutEntry_ann : FuncId → AnnT := fun f p => if f = 54 then (if p = [false, true] then ⟨[], [], [], [], 2, [], [], none⟩ else ⟨[], [], [], [], 0, [], [], none⟩) else ⟨[], [], [], [], 0, [], [], none⟩

noncomputable def draymanref23_PutEntry_loops {α : Type} (draymanref03_Ints : draymanref03_Ints_T α) (draymanref03_Flag : draymanref03_Flag_T α) : List (LoopSpec α) := []

theorem draymanref23_PutEntry_ev {α : Type} (draymanref03_Ints : draymanref03_Ints_T α) (draymanref03_Flag : draymanref03_Flag_T α) : EvOk (α := α) Go.Proofs.Try.prog (envOf (draymanref23_PutEntry_C draymanref03_Ints draymanref03_Flag) draymanref23_PutEntry_q draymanref23_PutEntry_inl 1000 draymanref23_PutEntry_ann false (draymanref23_PutEntry_loops draymanref03_Ints draymanref03_Flag) (fun _ => none)) 6 (draymanref23_PutEntry_sp (draymanref23_PutEntry_g draymanref03_Ints draymanref03_Flag)) := by intro ds k; kernel_rfl

theorem draymanref23_PutEntry_ok {α : Type} : (draymanref23_PutEntry_spec : FunSpec α).ok Go.Proofs.Try.prog :=
  FunSpec.ok_of (sp := draymanref23_PutEntry_spec) (C := draymanref23_PutEntry_C draymanref03_Ints draymanref03_Flag) (q := draymanref23_PutEntry_q) (inl := draymanref23_PutEntry_inl) (N := 1000) (ann := draymanref23_PutEntry_ann) (fr := false) (D := 6) (l := (draymanref23_PutEntry_loops draymanref03_Ints draymanref03_Flag)) (hk := (fun _ => none)) (okCons draymanref03_Ints_ok (okCons draymanref03_Flag_ok okNil)) lokNil noHooks (draymanref23_PutEntry_ev draymanref03_Ints draymanref03_Flag)

end
end Go.Rv.Try

set_option linter.unusedVariables false
set_option maxRecDepth 100000
set_option maxHeartbeats 4000000
namespace Go.Rv.Try
open Go Go.Rv Go.RowKit
noncomputable section

-- drayman/draymanref23.PutReply

abbrev draymanref23_PutReply_T (α : Type) : Type := (Int × Int × Int × Int × Bool × Int × Int × Unit) → (ByteArray → Option α) → Option α

noncomputable def draymanref23_PutReply_g {α : Type} (draymanref03_Ints : draymanref03_Ints_T α) (draymanref03_Flag : draymanref03_Flag_T α) (x1 : Int × Int × Int × Int × Bool × Int × Int × Unit) (k : ByteArray → Option α) : Option α :=
  (draymanref03_Ints (⟨false, 4, (tSel [(x1.1, ()), (x1.2.1, ()), (x1.2.2.1, ()), (x1.2.2.2.1, ())] (0, ()))⟩ : Seq (Int × Unit)) fun r2 =>
    (draymanref03_Flag x1.2.2.2.2.1 fun r3 =>
      (cond (Nat.ble ((r2).size + (r3).size) 9223372036854775807)
        (draymanref03_Ints (⟨false, 2, (tSel [(x1.2.2.2.2.2.1, ()), x1.2.2.2.2.2.2] (0, ()))⟩ : Seq (Int × Unit)) fun r4 =>
          (cond (Nat.ble (((r2 ++ r3)).size + (r4).size) 9223372036854775807)
            (k ((r2 ++ r3) ++ r4))
            none))
        none)))

noncomputable def draymanref23_PutReply {α : Type} : draymanref23_PutReply_T α := draymanref23_PutReply_g draymanref03_Ints draymanref03_Flag

noncomputable def draymanref23_PutReply_sp {α : Type} (draymanref23_PutReply : draymanref23_PutReply_T α) : FunSpec α := ⟨56, [.agg [.int .i64, .int .i64, .int .i64, .int .i64, .bool, .int .i64, .int .i64]], [], fun ds k => draymanref23_PutReply (hdI ds, hdI ds.tail, hdI ds.tail.tail, hdI ds.tail.tail.tail, hdB ds.tail.tail.tail.tail, hdI ds.tail.tail.tail.tail.tail, hdI ds.tail.tail.tail.tail.tail.tail, ()) (fun r1 => k (enc dep (.str) [.s r1]).1 [])⟩

noncomputable def draymanref23_PutReply_spec {α : Type} : FunSpec α := draymanref23_PutReply_sp draymanref23_PutReply

noncomputable def draymanref23_PutReply_C {α : Type} (draymanref03_Ints : draymanref03_Ints_T α) (draymanref03_Flag : draymanref03_Flag_T α) : List (FunSpec α) := [draymanref03_Ints_sp draymanref03_Ints, draymanref03_Flag_sp draymanref03_Flag]

noncomputable def draymanref23_PutReply_q : FuncId → Bool := fun f => Nat.beq f 101 || Nat.beq f 105

noncomputable def draymanref23_PutReply_inl : FuncId → Bool := fun f => false

noncomputable def draymanref23_PutReply_ann : FuncId → AnnT := fun f p => if f = 56 then (if p = [false, true] then ⟨[], [], [], [], 2, [], [], none⟩ else ⟨[], [], [], [], 0, [], [], none⟩) else ⟨[], [], [], [], 0, [], [], none⟩

noncomputable def draymanref23_PutReply_loops {α : Type} (draymanref03_Ints : draymanref03_Ints_T α) (draymanref03_Flag : draymanref03_Flag_T α) : List (LoopSpec α) := []

theorem draymanref23_PutReply_ev {α : Type} (draymanref03_Ints : draymanref03_Ints_T α) (draymanref03_Flag : draymanref03_Flag_T α) : EvOk (α := α) Go.Proofs.Try.prog (envOf (draymanref23_PutReply_C draymanref03_Ints draymanref03_Flag) draymanref23_PutReply_q draymanref23_PutReply_inl 1000 draymanref23_PutReply_ann false (draymanref23_PutReply_loops draymanref03_Ints draymanref03_Flag) (fun _ => none)) 6 (draymanref23_PutReply_sp (draymanref23_PutReply_g draymanref03_Ints draymanref03_Flag)) := by intro ds k; kernel_rfl

theorem draymanref23_PutReply_ok {α : Type} : (draymanref23_PutReply_spec : FunSpec α).ok Go.Proofs.Try.prog :=
  FunSpec.ok_of (sp := draymanref23_PutReply_spec) (C := draymanref23_PutReply_C draymanref03_Ints draymanref03_Flag) (q := draymanref23_PutReply_q) (inl := draymanref23_PutReply_inl) (N := 1000) (ann := draymanref23_PutReply_ann) (fr := false) (D := 6) (l := (draymanref23_PutReply_loops draymanref03_Ints draymanref03_Flag)) (hk := (fun _ => none)) (okCons draymanref03_Ints_ok (okCons draymanref03_Flag_ok okNil)) lokNil noHooks (draymanref23_PutReply_ev draymanref03_Ints draymanref03_Flag)

end
end Go.Rv.Try

set_option linter.unusedVariables false
set_option maxRecDepth 100000
set_option maxHeartbeats 4000000
namespace Go.Rv.Try
open Go Go.Rv Go.RowKit
noncomputable section

-- drayman/draymanref23.Put

abbrev draymanref23_Put_T (α : Type) : Type := (Int × Bool × Int × Int × Int × Int × Bool × Int × Int × Bool × Int × Int × Int × Int × Bool × Int × Int × Unit) → (ByteArray → Int → Option α) → Option α

noncomputable def draymanref23_Put_g {α : Type} (draymanref23_Fit : draymanref23_Fit_T α) (draymanref03_Int : draymanref03_Int_T α) (draymanref03_Flag : draymanref03_Flag_T α) (draymanref23_PutEntry : draymanref23_PutEntry_T α) (draymanref23_PutReply : draymanref23_PutReply_T α) (x1 : Int × Bool × Int × Int × Int × Int × Bool × Int × Int × Bool × Int × Int × Int × Int × Bool × Int × Int × Unit) (k : ByteArray → Int → Option α) : Option α :=
  (draymanref23_Fit x1 fun r2 =>
    (cond (!r2)
      (k (⟨#[]⟩ : ByteArray) 1)
      (draymanref03_Int 1 fun r3 =>
        (draymanref03_Int x1.1 fun r4 =>
          (cond (Nat.ble ((r3).size + (r4).size) 9223372036854775807)
            (draymanref03_Flag x1.2.1 fun r5 =>
              (cond (Nat.ble (((r3 ++ r4)).size + (r5).size) 9223372036854775807)
                (cond x1.2.1
                  (draymanref23_PutEntry (x1.2.2.2.1, x1.2.2.2.2.1, x1.2.2.2.2.2.1, x1.2.2.2.2.2.2.1, x1.2.2.2.2.2.2.2.1, x1.2.2.2.2.2.2.2.2.1, x1.2.2.2.2.2.2.2.2.2.1, ()) fun r6 =>
                    (cond (Nat.ble ((((r3 ++ r4) ++ r5)).size + (r6).size) 9223372036854775807)
                      (k (((r3 ++ r4) ++ r5) ++ r6) 0)
                      none))
                  (draymanref23_PutReply x1.2.2.2.2.2.2.2.2.2.2 fun r7 =>
                    (cond (Nat.ble ((((r3 ++ r4) ++ r5)).size + (r7).size) 9223372036854775807)
                      (k (((r3 ++ r4) ++ r5) ++ r7) 0)
                      none)))
                none))
            none)))))

noncomputable def draymanref23_Put {α : Type} : draymanref23_Put_T α := draymanref23_Put_g draymanref23_Fit draymanref03_Int draymanref03_Flag draymanref23_PutEntry draymanref23_PutReply

noncomputable def draymanref23_Put_sp {α : Type} (draymanref23_Put : draymanref23_Put_T α) : FunSpec α := ⟨48, [.agg [.int .i64, .bool, .int .i64, .int .i64, .int .i64, .int .i64, .bool, .int .i64, .int .i64, .bool, .int .i64, .int .i64, .int .i64, .int .i64, .bool, .int .i64, .int .i64]], [], fun ds k => draymanref23_Put (hdI ds, hdB ds.tail, hdI ds.tail.tail, hdI ds.tail.tail.tail, hdI ds.tail.tail.tail.tail, hdI ds.tail.tail.tail.tail.tail, hdB ds.tail.tail.tail.tail.tail.tail, hdI ds.tail.tail.tail.tail.tail.tail.tail, hdI ds.tail.tail.tail.tail.tail.tail.tail.tail, hdB ds.tail.tail.tail.tail.tail.tail.tail.tail.tail, hdI ds.tail.tail.tail.tail.tail.tail.tail.tail.tail.tail, hdI ds.tail.tail.tail.tail.tail.tail.tail.tail.tail.tail.tail, hdI ds.tail.tail.tail.tail.tail.tail.tail.tail.tail.tail.tail.tail, hdI ds.tail.tail.tail.tail.tail.tail.tail.tail.tail.tail.tail.tail.tail, hdB ds.tail.tail.tail.tail.tail.tail.tail.tail.tail.tail.tail.tail.tail.tail, hdI ds.tail.tail.tail.tail.tail.tail.tail.tail.tail.tail.tail.tail.tail.tail.tail, hdI ds.tail.tail.tail.tail.tail.tail.tail.tail.tail.tail.tail.tail.tail.tail.tail.tail, ()) (fun r1 r2 => k (enc dep (.tup [.str, .int .i64]) [.s r1, .i r2]).1 [])⟩

noncomputable def draymanref23_Put_spec {α : Type} : FunSpec α := draymanref23_Put_sp draymanref23_Put

noncomputable def draymanref23_Put_C {α : Type} (draymanref23_Fit : draymanref23_Fit_T α) (draymanref03_Int : draymanref03_Int_T α) (draymanref03_Flag : draymanref03_Flag_T α) (draymanref23_PutEntry : draymanref23_PutEntry_T α) (draymanref23_PutReply : draymanref23_PutReply_T α) : List (FunSpec α) := [draymanref23_Fit_sp draymanref23_Fit, draymanref03_Int_sp draymanref03_Int, draymanref03_Flag_sp draymanref03_Flag, draymanref23_PutEntry_sp draymanref23_PutEntry, draymanref23_PutReply_sp draymanref23_PutReply]

noncomputable def draymanref23_Put_q : FuncId → Bool := fun f => Nat.beq f 50 || Nat.beq f 54 || Nat.beq f 56 || Nat.beq f 100 || Nat.beq f 101

noncomputable def draymanref23_Put_inl : FuncId → Bool := fun f => false

noncomputable def draymanref23_Put_ann : FuncId → AnnT := fun f p => if f = 48 then (if p = [false, true, true] then ⟨[], [], [], [], 2, [], [], none⟩ else ⟨[], [], [], [], 0, [], [], none⟩) else ⟨[], [], [], [], 0, [], [], none⟩

noncomputable def draymanref23_Put_loops {α : Type} (draymanref23_Fit : draymanref23_Fit_T α) (draymanref03_Int : draymanref03_Int_T α) (draymanref03_Flag : draymanref03_Flag_T α) (draymanref23_PutEntry : draymanref23_PutEntry_T α) (draymanref23_PutReply : draymanref23_PutReply_T α) : List (LoopSpec α) := []

theorem draymanref23_Put_ev {α : Type} (draymanref23_Fit : draymanref23_Fit_T α) (draymanref03_Int : draymanref03_Int_T α) (draymanref03_Flag : draymanref03_Flag_T α) (draymanref23_PutEntry : draymanref23_PutEntry_T α) (draymanref23_PutReply : draymanref23_PutReply_T α) : EvOk (α := α) Go.Proofs.Try.prog (envOf (draymanref23_Put_C draymanref23_Fit draymanref03_Int draymanref03_Flag draymanref23_PutEntry draymanref23_PutReply) draymanref23_Put_q draymanref23_Put_inl 1000 draymanref23_Put_ann false (draymanref23_Put_loops draymanref23_Fit draymanref03_Int draymanref03_Flag draymanref23_PutEntry draymanref23_PutReply) (fun _ => none)) 6 (draymanref23_Put_sp (draymanref23_Put_g draymanref23_Fit draymanref03_Int draymanref03_Flag draymanref23_PutEntry draymanref23_PutReply)) := by intro ds k; kernel_rfl

theorem draymanref23_Put_ok {α : Type} : (draymanref23_Put_spec : FunSpec α).ok Go.Proofs.Try.prog :=
  FunSpec.ok_of (sp := draymanref23_Put_spec) (C := draymanref23_Put_C draymanref23_Fit draymanref03_Int draymanref03_Flag draymanref23_PutEntry draymanref23_PutReply) (q := draymanref23_Put_q) (inl := draymanref23_Put_inl) (N := 1000) (ann := draymanref23_Put_ann) (fr := false) (D := 6) (l := (draymanref23_Put_loops draymanref23_Fit draymanref03_Int draymanref03_Flag draymanref23_PutEntry draymanref23_PutReply)) (hk := (fun _ => none)) (okCons draymanref23_Fit_ok (okCons draymanref03_Int_ok (okCons draymanref03_Flag_ok (okCons draymanref23_PutEntry_ok (okCons draymanref23_PutReply_ok okNil))))) lokNil noHooks (draymanref23_Put_ev draymanref23_Fit draymanref03_Int draymanref03_Flag draymanref23_PutEntry draymanref23_PutReply)

end
end Go.Rv.Try

set_option linter.unusedVariables false
set_option maxRecDepth 100000
set_option maxHeartbeats 4000000
namespace Go.Rv.Try
open Go Go.Rv Go.RowKit
noncomputable section

-- drayman/draymanref23.wide

abbrev draymanref23_wide_T (α : Type) : Type := (ByteArray × Bool × Unit) → (Int → (ByteArray × Bool × Unit) → Option α) → Option α

noncomputable def draymanref23_wide_g {α : Type} (draymanref03_Reader_Int : draymanref03_Reader_Int_T α) (x1 : ByteArray × Bool × Unit) (k : Int → (ByteArray × Bool × Unit) → Option α) : Option α :=
  (draymanref03_Reader_Int (-9223372036854775808) 9223372036854775807 x1 fun r2 r3 =>
    (k r2 r3))

noncomputable def draymanref23_wide {α : Type} : draymanref23_wide_T α := draymanref23_wide_g draymanref03_Reader_Int

noncomputable def draymanref23_wide_sp {α : Type} (draymanref23_wide : draymanref23_wide_T α) : FunSpec α := ⟨109, [.ref 0 0], [.box [.str, .bool]], fun ds k => draymanref23_wide (hdS ds, hdB ds.tail, ()) (fun r1 r2 => k (enc dep (.int .i64) [.i r1]).1 (encBs [.box [.str, .bool]] [.s r2.1, .b r2.2.1]).1)⟩

noncomputable def draymanref23_wide_spec {α : Type} : FunSpec α := draymanref23_wide_sp draymanref23_wide

noncomputable def draymanref23_wide_C {α : Type} (draymanref03_Reader_Int : draymanref03_Reader_Int_T α) : List (FunSpec α) := [draymanref03_Reader_Int_sp draymanref03_Reader_Int]

noncomputable def draymanref23_wide_q : FuncId → Bool := fun f => Nat.beq f 137

noncomputable def draymanref23_wide_inl : FuncId → Bool := fun f => false

noncomputable def draymanref23_wide_ann : FuncId → AnnT := fun f p => ⟨[], [], [], [], 0, [], [], none⟩

noncomputable def draymanref23_wide_loops {α : Type} (draymanref03_Reader_Int : draymanref03_Reader_Int_T α) : List (LoopSpec α) := []

theorem draymanref23_wide_ev {α : Type} (draymanref03_Reader_Int : draymanref03_Reader_Int_T α) : EvOk (α := α) Go.Proofs.Try.prog (envOf (draymanref23_wide_C draymanref03_Reader_Int) draymanref23_wide_q draymanref23_wide_inl 1000 draymanref23_wide_ann false (draymanref23_wide_loops draymanref03_Reader_Int) (fun _ => none)) 6 (draymanref23_wide_sp (draymanref23_wide_g draymanref03_Reader_Int)) := by intro ds k; kernel_rfl

theorem draymanref23_wide_ok {α : Type} : (draymanref23_wide_spec : FunSpec α).ok Go.Proofs.Try.prog :=
  FunSpec.ok_of (sp := draymanref23_wide_spec) (C := draymanref23_wide_C draymanref03_Reader_Int) (q := draymanref23_wide_q) (inl := draymanref23_wide_inl) (N := 1000) (ann := draymanref23_wide_ann) (fr := false) (D := 6) (l := (draymanref23_wide_loops draymanref03_Reader_Int)) (hk := (fun _ => none)) (okCons draymanref03_Reader_Int_ok okNil) lokNil noHooks (draymanref23_wide_ev draymanref03_Reader_Int)

end
end Go.Rv.Try

set_option linter.unusedVariables false
set_option maxRecDepth 100000
set_option maxHeartbeats 4000000
namespace Go.Rv.Try
open Go Go.Rv Go.RowKit
noncomputable section

-- drayman/draymanref23.TakeEntry

abbrev draymanref23_TakeEntry_T (α : Type) : Type := (ByteArray × Bool × Unit) → (Z0 → (ByteArray × Bool × Unit) → Option α) → Option α

noncomputable def draymanref23_TakeEntry_g {α : Type} (draymanref23_wide : draymanref23_wide_T α) (draymanref03_Reader_Flag : draymanref03_Reader_Flag_T α) (x1 : ByteArray × Bool × Unit) (k : Z0 → (ByteArray × Bool × Unit) → Option α) : Option α :=
  (draymanref23_wide x1 fun r2 r3 =>
    (draymanref23_wide r3 fun r4 r5 =>
      (draymanref23_wide r5 fun r6 r7 =>
        (draymanref03_Reader_Flag r7 fun r8 r9 =>
          (draymanref23_wide r9 fun r10 r11 =>
            (draymanref23_wide r11 fun r12 r13 =>
              (draymanref03_Reader_Flag r13 fun r14 r15 =>
                (cond r15.2.1
                  (k (0, 0, 0, false, 0, 0, false, ()) r15)
                  (k (r2, r4, r6, r8, r10, r12, r14, ()) r15)))))))))

noncomputable def draymanref23_TakeEntry {α : Type} : draymanref23_TakeEntry_T α := draymanref23_TakeEntry_g draymanref23_wide draymanref03_Reader_Flag

noncomputable def draymanref23_TakeEntry_sp {α : Type} (draymanref23_TakeEntry : draymanref23_TakeEntry_T α) : FunSpec α := ⟨62, [.ref 0 0], [.box [.str, .bool]], fun ds k => draymanref23_TakeEntry (hdS ds, hdB ds.tail, ()) (fun r1 r2 => k (enc dep (.agg [.int .i64, .int .i64, .int .i64, .bool, .int .i64, .int .i64, .bool]) [.i r1.1, .i r1.2.1, .i r1.2.2.1, .b r1.2.2.2.1, .i r1.2.2.2.2.1, .i r1.2.2.2.2.2.1, .b r1.2.2.2.2.2.2.1]).1 (encBs [.box [.str, .bool]] [.s r2.1, .b r2.2.1]).1)⟩

noncomputable def draymanref23_TakeEntry_spec {α : Type} : FunSpec α := draymanref23_TakeEntry_sp draymanref23_TakeEntry

noncomputable def draymanref23_TakeEntry_C {α : Type} (draymanref23_wide : draymanref23_wide_T α) (draymanref03_Reader_Flag : draymanref03_Reader_Flag_T α) : List (FunSpec α) := [draymanref23_wide_sp draymanref23_wide, draymanref03_Reader_Flag_sp draymanref03_Reader_Flag]

noncomputable def draymanref23_TakeEntry_q : FuncId → Bool := fun f => Nat.beq f 109 || Nat.beq f 110

noncomputable def draymanref23_TakeEntry_inl : FuncId → Bool := fun f => false

noncomputable def draymanref23_TakeEntry_ann : FuncId → AnnT := fun f p => ⟨[], [], [], [], 0, [], [], none⟩

noncomputable def draymanref23_TakeEntry_loops {α : Type} (draymanref23_wide : draymanref23_wide_T α) (draymanref03_Reader_Flag : draymanref03_Reader_Flag_T α) : List (LoopSpec α) := []

theorem draymanref23_TakeEntry_ev {α : Type} (draymanref23_wide : draymanref23_wide_T α) (draymanref03_Reader_Flag : draymanref03_Reader_Flag_T α) : EvOk (α := α) Go.Proofs.Try.prog (envOf (draymanref23_TakeEntry_C draymanref23_wide draymanref03_Reader_Flag) draymanref23_TakeEntry_q draymanref23_TakeEntry_inl 1000 draymanref23_TakeEntry_ann false (draymanref23_TakeEntry_loops draymanref23_wide draymanref03_Reader_Flag) (fun _ => none)) 6 (draymanref23_TakeEntry_sp (draymanref23_TakeEntry_g draymanref23_wide draymanref03_Reader_Flag)) := by intro ds k; kernel_rfl

theorem draymanref23_TakeEntry_ok {α : Type} : (draymanref23_TakeEntry_spec : FunSpec α).ok Go.Proofs.Try.prog :=
  FunSpec.ok_of (sp := draymanref23_TakeEntry_spec) (C := draymanref23_TakeEntry_C draymanref23_wide draymanref03_Reader_Flag) (q := draymanref23_TakeEntry_q) (inl := draymanref23_TakeEntry_inl) (N := 1000) (ann := draymanref23_TakeEntry_ann) (fr := false) (D := 6) (l := (draymanref23_TakeEntry_loops draymanref23_wide draymanref03_Reader_Flag)) (hk := (fun _ => none)) (okCons draymanref23_wide_ok (okCons draymanref03_Reader_Flag_ok okNil)) lokNil noHooks (draymanref23_TakeEntry_ev draymanref23_wide draymanref03_Reader_Flag)

end
end Go.Rv.Try

set_option linter.unusedVariables false
set_option maxRecDepth 100000
set_option maxHeartbeats 4000000
namespace Go.Rv.Try
open Go Go.Rv Go.RowKit
noncomputable section

-- drayman/draymanref23.TakeReply

abbrev draymanref23_TakeReply_T (α : Type) : Type := (ByteArray × Bool × Unit) → ((Int × Int × Int × Int × Bool × Int × Int × Unit) → (ByteArray × Bool × Unit) → Option α) → Option α

noncomputable def draymanref23_TakeReply_g {α : Type} (draymanref23_wide : draymanref23_wide_T α) (draymanref03_Reader_Flag : draymanref03_Reader_Flag_T α) (x1 : ByteArray × Bool × Unit) (k : (Int × Int × Int × Int × Bool × Int × Int × Unit) → (ByteArray × Bool × Unit) → Option α) : Option α :=
  (draymanref23_wide x1 fun r2 r3 =>
    (draymanref23_wide r3 fun r4 r5 =>
      (draymanref23_wide r5 fun r6 r7 =>
        (draymanref23_wide r7 fun r8 r9 =>
          (draymanref03_Reader_Flag r9 fun r10 r11 =>
            (draymanref23_wide r11 fun r12 r13 =>
              (draymanref23_wide r13 fun r14 r15 =>
                (cond r15.2.1
                  (k (0, 0, 0, 0, false, 0, 0, ()) r15)
                  (k (r2, r4, r6, r8, r10, r12, r14, ()) r15)))))))))

noncomputable def draymanref23_TakeReply {α : Type} : draymanref23_TakeReply_T α := draymanref23_TakeReply_g draymanref23_wide draymanref03_Reader_Flag

noncomputable def draymanref23_TakeReply_sp {α : Type} (draymanref23_TakeReply : draymanref23_TakeReply_T α) : FunSpec α := ⟨68, [.ref 0 0], [.box [.str, .bool]], fun ds k => draymanref23_TakeReply (hdS ds, hdB ds.tail, ()) (fun r1 r2 => k (enc dep (.agg [.int .i64, .int .i64, .int .i64, .int .i64, .bool, .int .i64, .int .i64]) [.i r1.1, .i r1.2.1, .i r1.2.2.1, .i r1.2.2.2.1, .b r1.2.2.2.2.1, .i r1.2.2.2.2.2.1, .i r1.2.2.2.2.2.2.1]).1 (encBs [.box [.str, .bool]] [.s r2.1, .b r2.2.1]).1)⟩

noncomputable def draymanref23_TakeReply_spec {α : Type} : FunSpec α := draymanref23_TakeReply_sp draymanref23_TakeReply

noncomputable def draymanref23_TakeReply_C {α : Type} (draymanref23_wide : draymanref23_wide_T α) (draymanref03_Reader_Flag : draymanref03_Reader_Flag_T α) : List (FunSpec α) := [draymanref23_wide_sp draymanref23_wide, draymanref03_Reader_Flag_sp draymanref03_Reader_Flag]

noncomputable def draymanref23_TakeReply_q : FuncId → Bool := fun f => Nat.beq f 109 || Nat.beq f 110

noncomputable def draymanref23_TakeReply_inl : FuncId → Bool := fun f => false

noncomputable def draymanref23_TakeReply_ann : FuncId → AnnT := fun f p => ⟨[], [], [], [], 0, [], [], none⟩

noncomputable def draymanref23_TakeReply_loops {α : Type} (draymanref23_wide : draymanref23_wide_T α) (draymanref03_Reader_Flag : draymanref03_Reader_Flag_T α) : List (LoopSpec α) := []

theorem draymanref23_TakeReply_ev {α : Type} (draymanref23_wide : draymanref23_wide_T α) (draymanref03_Reader_Flag : draymanref03_Reader_Flag_T α) : EvOk (α := α) Go.Proofs.Try.prog (envOf (draymanref23_TakeReply_C draymanref23_wide draymanref03_Reader_Flag) draymanref23_TakeReply_q draymanref23_TakeReply_inl 1000 draymanref23_TakeReply_ann false (draymanref23_TakeReply_loops draymanref23_wide draymanref03_Reader_Flag) (fun _ => none)) 6 (draymanref23_TakeReply_sp (draymanref23_TakeReply_g draymanref23_wide draymanref03_Reader_Flag)) := by intro ds k; kernel_rfl

theorem draymanref23_TakeReply_ok {α : Type} : (draymanref23_TakeReply_spec : FunSpec α).ok Go.Proofs.Try.prog :=
  FunSpec.ok_of (sp := draymanref23_TakeReply_spec) (C := draymanref23_TakeReply_C draymanref23_wide draymanref03_Reader_Flag) (q := draymanref23_TakeReply_q) (inl := draymanref23_TakeReply_inl) (N := 1000) (ann := draymanref23_TakeReply_ann) (fr := false) (D := 6) (l := (draymanref23_TakeReply_loops draymanref23_wide draymanref03_Reader_Flag)) (hk := (fun _ => none)) (okCons draymanref23_wide_ok (okCons draymanref03_Reader_Flag_ok okNil)) lokNil noHooks (draymanref23_TakeReply_ev draymanref23_wide draymanref03_Reader_Flag)

end
end Go.Rv.Try

set_option linter.unusedVariables false
set_option maxRecDepth 100000
set_option maxHeartbeats 4000000
namespace Go.Rv.Try
open Go Go.Rv Go.RowKit
noncomputable section

-- drayman/draymanref23.Take

abbrev draymanref23_Take_T (α : Type) : Type := ByteArray → ((Int × Bool × Int × Int × Int × Int × Bool × Int × Int × Bool × Int × Int × Int × Int × Bool × Int × Int × Unit) → Int → Option α) → Option α

noncomputable def draymanref23_Take_g {α : Type} (draymanref23_wide : draymanref23_wide_T α) (draymanref03_Reader_Flag : draymanref03_Reader_Flag_T α) (draymanref23_TakeEntry : draymanref23_TakeEntry_T α) (draymanref17_Service : draymanref17_Service_T α) (draymanref03_Reader_Done : draymanref03_Reader_Done_T α) (draymanref23_Fit : draymanref23_Fit_T α) (draymanref23_TakeReply : draymanref23_TakeReply_T α) (s1 : ByteArray) (k : (Int × Bool × Int × Int × Int × Int × Bool × Int × Int × Bool × Int × Int × Int × Int × Bool × Int × Int × Unit) → Int → Option α) : Option α :=
  (draymanref23_wide (s1, false, ()) fun r2 r3 =>
    (draymanref23_wide r3 fun r4 r5 =>
      (draymanref03_Reader_Flag r5 fun r6 r7 =>
        (cond r6
          (draymanref23_TakeEntry r7 fun r8 r9 =>
            (draymanref17_Service r8.2.2.2.2.1 fun r10 =>
              (cond (!(r2 != 1))
                (draymanref03_Reader_Done r9 fun r11 r12 =>
                  (cond (!(!r11))
                    (draymanref23_Fit (r4, r6, r10, r8.1, r8.2.1, r8.2.2.1, r8.2.2.2.1, r8.2.2.2.2.1, r8.2.2.2.2.2.1, r8.2.2.2.2.2.2.1, 0, 0, 0, 0, false, 0, 0, ()) fun r13 =>
                      (cond (!r13)
                        (k (0, false, 0, 0, 0, 0, false, 0, 0, false, 0, 0, 0, 0, false, 0, 0, ()) 7)
                        (k (r4, r6, r10, r8.1, r8.2.1, r8.2.2.1, r8.2.2.2.1, r8.2.2.2.2.1, r8.2.2.2.2.2.1, r8.2.2.2.2.2.2.1, 0, 0, 0, 0, false, 0, 0, ()) 0)))
                    (k (0, false, 0, 0, 0, 0, false, 0, 0, false, 0, 0, 0, 0, false, 0, 0, ()) 7)))
                (k (0, false, 0, 0, 0, 0, false, 0, 0, false, 0, 0, 0, 0, false, 0, 0, ()) 7))))
          (draymanref23_TakeReply r7 fun r14 r15 =>
            (cond (!(r2 != 1))
              (draymanref03_Reader_Done r15 fun r16 r17 =>
                (cond (!(!r16))
                  (draymanref23_Fit (r4, r6, r14.1, 0, 0, 0, false, 0, 0, false, r14.1, r14.2.1, r14.2.2.1, r14.2.2.2.1, r14.2.2.2.2.1, r14.2.2.2.2.2.1, r14.2.2.2.2.2.2.1, ()) fun r18 =>
                    (cond (!r18)
                      (k (0, false, 0, 0, 0, 0, false, 0, 0, false, 0, 0, 0, 0, false, 0, 0, ()) 7)
                      (k (r4, r6, r14.1, 0, 0, 0, false, 0, 0, false, r14.1, r14.2.1, r14.2.2.1, r14.2.2.2.1, r14.2.2.2.2.1, r14.2.2.2.2.2.1, r14.2.2.2.2.2.2.1, ()) 0)))
                  (k (0, false, 0, 0, 0, 0, false, 0, 0, false, 0, 0, 0, 0, false, 0, 0, ()) 7)))
              (k (0, false, 0, 0, 0, 0, false, 0, 0, false, 0, 0, 0, 0, false, 0, 0, ()) 7)))))))

noncomputable def draymanref23_Take {α : Type} : draymanref23_Take_T α := draymanref23_Take_g draymanref23_wide draymanref03_Reader_Flag draymanref23_TakeEntry draymanref17_Service draymanref03_Reader_Done draymanref23_Fit draymanref23_TakeReply

noncomputable def draymanref23_Take_sp {α : Type} (draymanref23_Take : draymanref23_Take_T α) : FunSpec α := ⟨59, [.str], [], fun ds k => draymanref23_Take (hdS ds) (fun r1 r2 => k (enc dep (.tup [.agg [.int .i64, .bool, .int .i64, .int .i64, .int .i64, .int .i64, .bool, .int .i64, .int .i64, .bool, .int .i64, .int .i64, .int .i64, .int .i64, .bool, .int .i64, .int .i64], .int .i64]) [.i r1.1, .b r1.2.1, .i r1.2.2.1, .i r1.2.2.2.1, .i r1.2.2.2.2.1, .i r1.2.2.2.2.2.1, .b r1.2.2.2.2.2.2.1, .i r1.2.2.2.2.2.2.2.1, .i r1.2.2.2.2.2.2.2.2.1, .b r1.2.2.2.2.2.2.2.2.2.1, .i r1.2.2.2.2.2.2.2.2.2.2.1, .i r1.2.2.2.2.2.2.2.2.2.2.2.1, .i r1.2.2.2.2.2.2.2.2.2.2.2.2.1, .i r1.2.2.2.2.2.2.2.2.2.2.2.2.2.1, .b r1.2.2.2.2.2.2.2.2.2.2.2.2.2.2.1, .i r1.2.2.2.2.2.2.2.2.2.2.2.2.2.2.2.1, .i r1.2.2.2.2.2.2.2.2.2.2.2.2.2.2.2.2.1, .i r2]).1 [])⟩

noncomputable def draymanref23_Take_spec {α : Type} : FunSpec α := draymanref23_Take_sp draymanref23_Take

noncomputable def draymanref23_Take_C {α : Type} (draymanref23_wide : draymanref23_wide_T α) (draymanref03_Reader_Flag : draymanref03_Reader_Flag_T α) (draymanref23_TakeEntry : draymanref23_TakeEntry_T α) (draymanref17_Service : draymanref17_Service_T α) (draymanref03_Reader_Done : draymanref03_Reader_Done_T α) (draymanref23_Fit : draymanref23_Fit_T α) (draymanref23_TakeReply : draymanref23_TakeReply_T α) : List (FunSpec α) := [draymanref23_wide_sp draymanref23_wide, draymanref03_Reader_Flag_sp draymanref03_Reader_Flag, draymanref23_TakeEntry_sp draymanref23_TakeEntry, draymanref17_Service_sp draymanref17_Service, draymanref03_Reader_Done_sp draymanref03_Reader_Done, draymanref23_Fit_sp draymanref23_Fit, draymanref23_TakeReply_sp draymanref23_TakeReply]

noncomputable def draymanref23_Take_q : FuncId → Bool := fun f => Nat.beq f 50 || Nat.beq f 62 || Nat.beq f 66 || Nat.beq f 68 || Nat.beq f 87 || Nat.beq f 109 || Nat.beq f 110

noncomputable def draymanref23_Take_inl : FuncId → Bool := fun f => false

noncomputable def draymanref23_Take_ann : FuncId → AnnT := fun f p => ⟨[], [], [], [], 0, [], [], none⟩

noncomputable def draymanref23_Take_loops {α : Type} (draymanref23_wide : draymanref23_wide_T α) (draymanref03_Reader_Flag : draymanref03_Reader_Flag_T α) (draymanref23_TakeEntry : draymanref23_TakeEntry_T α) (draymanref17_Service : draymanref17_Service_T α) (draymanref03_Reader_Done : draymanref03_Reader_Done_T α) (draymanref23_Fit : draymanref23_Fit_T α) (draymanref23_TakeReply : draymanref23_TakeReply_T α) : List (LoopSpec α) := []

theorem draymanref23_Take_ev {α : Type} (draymanref23_wide : draymanref23_wide_T α) (draymanref03_Reader_Flag : draymanref03_Reader_Flag_T α) (draymanref23_TakeEntry : draymanref23_TakeEntry_T α) (draymanref17_Service : draymanref17_Service_T α) (draymanref03_Reader_Done : draymanref03_Reader_Done_T α) (draymanref23_Fit : draymanref23_Fit_T α) (draymanref23_TakeReply : draymanref23_TakeReply_T α) : EvOk (α := α) Go.Proofs.Try.prog (envOf (draymanref23_Take_C draymanref23_wide draymanref03_Reader_Flag draymanref23_TakeEntry draymanref17_Service draymanref03_Reader_Done draymanref23_Fit draymanref23_TakeReply) draymanref23_Take_q draymanref23_Take_inl 1000 draymanref23_Take_ann false (draymanref23_Take_loops draymanref23_wide draymanref03_Reader_Flag draymanref23_TakeEntry draymanref17_Service draymanref03_Reader_Done draymanref23_Fit draymanref23_TakeReply) (fun _ => none)) 6 (draymanref23_Take_sp (draymanref23_Take_g draymanref23_wide draymanref03_Reader_Flag draymanref23_TakeEntry draymanref17_Service draymanref03_Reader_Done draymanref23_Fit draymanref23_TakeReply)) := by intro ds k; kernel_rfl

theorem draymanref23_Take_ok {α : Type} : (draymanref23_Take_spec : FunSpec α).ok Go.Proofs.Try.prog :=
  FunSpec.ok_of (sp := draymanref23_Take_spec) (C := draymanref23_Take_C draymanref23_wide draymanref03_Reader_Flag draymanref23_TakeEntry draymanref17_Service draymanref03_Reader_Done draymanref23_Fit draymanref23_TakeReply) (q := draymanref23_Take_q) (inl := draymanref23_Take_inl) (N := 1000) (ann := draymanref23_Take_ann) (fr := false) (D := 6) (l := (draymanref23_Take_loops draymanref23_wide draymanref03_Reader_Flag draymanref23_TakeEntry draymanref17_Service draymanref03_Reader_Done draymanref23_Fit draymanref23_TakeReply)) (hk := (fun _ => none)) (okCons draymanref23_wide_ok (okCons draymanref03_Reader_Flag_ok (okCons draymanref23_TakeEntry_ok (okCons draymanref17_Service_ok (okCons draymanref03_Reader_Done_ok (okCons draymanref23_Fit_ok (okCons draymanref23_TakeReply_ok okNil))))))) lokNil noHooks (draymanref23_Take_ev draymanref23_wide draymanref03_Reader_Flag draymanref23_TakeEntry draymanref17_Service draymanref03_Reader_Done draymanref23_Fit draymanref23_TakeReply)

end
end Go.Rv.Try
