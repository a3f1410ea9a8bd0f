/- What the functions of the program compute, each with the proof that its code computes it. Written by a program (rvp2.py). -/
import Derived.Test.YtmoeohjaafpmgaaDoorProg
import Derived.Test.YtmoeohjaafpmgaaDoorRvP
import Derived.Test.YtmoeohjaafpmgaaDoorFx
import Derived.Test.YtmoeohjaafpmgaaDoorUtf8
import Derived.Test.YtmoeohjaafpmgaaDoorE0

set_option linter.unusedVariables false
set_option maxRecDepth 100000
set_option maxHeartbeats 4000000
namespace Go.Rv.Tryd
open Go Go.Rv Go.RowKit
noncomputable section

-- drayman/draymanref02.Runes

abbrev draymanref02_Runes_T (α : Type) : Type := ByteArray → ((Seq (Int × Unit)) → Bool → Option α) → Option α

noncomputable def draymanref02_Runes_l0_step {α : Type} (draymanref02_One : draymanref02_One_T α) (kr : (Seq (Int × Unit)) → (Bool) → (Seq (Int × Unit)) → (Seq (Int × Unit)) → Option α) (k0 : (Seq (Int × Unit)) → (Seq (Int × Unit)) → Option α) (rec : (ByteArray) → (Int) → (Seq (Int × Unit)) → (Seq (Int × Unit)) → Option α) (s2 : ByteArray) (i3 : Int) (q4 : Seq (Int × Unit)) (q5 : Seq (Int × Unit)) : Option α :=
  (cond (decide (i3 < (s2.size : Int)))
    (draymanref02_One s2 i3 fun r6 r7 =>
      (cond (r7 == 0)
        (kr (⟨true, 0, (fun _ => (0, ()))⟩ : Seq (Int × Unit)) false q4 q5)
        (cond (decide (((q5.n + 1)) * 8 ≤ 140737488355328))
          (rec s2 (IntKind.i64.wrap (i3 + r7)) q4 (⟨(q5.nl && false), (q5.n + 1), (tApp q5.n q5.g (fun _ => (r6, ())))⟩ : Seq (Int × Unit)))
          none)))
    (k0 q4 q5))

noncomputable def draymanref02_Runes_l0_run {α : Type} (draymanref02_One : draymanref02_One_T α) (kr : (Seq (Int × Unit)) → (Bool) → (Seq (Int × Unit)) → (Seq (Int × Unit)) → Option α) (k0 : (Seq (Int × Unit)) → (Seq (Int × Unit)) → Option α) : Nat → (ByteArray) → (Int) → (Seq (Int × Unit)) → (Seq (Int × Unit)) → Option α
  | 0, _, _, _, _ => none
  | n + 1, s2, i3, q4, q5 => draymanref02_Runes_l0_step draymanref02_One kr k0 (fun s2 i3 q4 q5 => draymanref02_Runes_l0_run draymanref02_One kr k0 n s2 i3 q4 q5) s2 i3 q4 q5

noncomputable def draymanref02_Runes_g {α : Type} (draymanref02_One : draymanref02_One_T α) (s1 : ByteArray) (k : (Seq (Int × Unit)) → Bool → Option α) : Option α :=
  (draymanref02_Runes_l0_run draymanref02_One
    (fun x8 x9 q10 q11 =>
      (k x8 x9))
    (fun q12 q13 =>
      (k q13 true))
    1000 s1 0 (⟨true, 0, (fun _ => (0, ()))⟩ : Seq (Int × Unit)) (⟨true, 0, (fun _ => (0, ()))⟩ : Seq (Int × Unit)))

noncomputable def draymanref02_Runes {α : Type} : draymanref02_Runes_T α := draymanref02_Runes_g draymanref02_One

noncomputable def draymanref02_Runes_sp {α : Type} (draymanref02_Runes : draymanref02_Runes_T α) : FunSpec α := ⟨93, [.str], [], fun ds k => draymanref02_Runes (hdS ds) (fun r1 r2 => k (enc dep (.tup [.sl (.int .i64 (.nil)), .bool]) [.q (.int .i64 (.nil)) r1, .b r2]).1 [])⟩

noncomputable def draymanref02_Runes_spec {α : Type} : FunSpec α := draymanref02_Runes_sp draymanref02_Runes

noncomputable def draymanref02_Runes_C {α : Type} (draymanref02_One : draymanref02_One_T α) : List (FunSpec α) := [draymanref02_One_sp draymanref02_One]

noncomputable def draymanref02_Runes_q : FuncId → Bool := fun f => Nat.beq f 118

noncomputable def draymanref02_Runes_inl : FuncId → Bool := fun f => false

noncomputable def draymanref02_Runes_ann : FuncId → AnnT := fun f p => if f = 93 then (if p = [true, false, true, true] then ⟨[0, 4, 5], [0, 1], [4], [2, 3], 0, [], [], none⟩ else ⟨[], [], [], [], 0, [], [], none⟩) else ⟨[], [], [], [], 0, [], [], none⟩

noncomputable def draymanref02_Runes_l0_t : List Sh := [.str, .dead, .dead, .dead, .own 1, .int .i64, .dead, .dead, .dead, .dead, .dead, .dead, .dead, .dead, .dead, .dead, .dead, .dead, .dead, .dead, .dead, .dead, .dead, .dead, .dead, .dead, .dead, .dead]
noncomputable def draymanref02_Runes_l0_s : List (List Sh) := []
noncomputable def draymanref02_Runes_l0_h : List BSh := [.row true (.int .i64 (.nil)), .row true (.int .i64 (.nil))]

noncomputable def draymanref02_Runes_l0_spec {α : Type} (draymanref02_One : draymanref02_One_T α) : LoopSpec α := ⟨6, 93, [true, false, true, true], draymanref02_Runes_l0_t, draymanref02_Runes_l0_s, draymanref02_Runes_l0_h, fun ds k => draymanref02_Runes_l0_run draymanref02_One (fun y1 y2 y3 y4 => k .ret (encSt [.dead, .dead, .sl (.int .i64 (.nil)), .bool, .dead, .dead, .dead, .dead, .dead, .dead, .dead, .dead, .dead, .dead, .dead, .dead, .dead, .dead, .dead, .dead, .dead, .dead, .dead, .dead, .dead, .dead, .dead, .dead] [] [.row true (.int .i64 (.nil)), .row true (.int .i64 (.nil))] [.q (.int .i64 (.nil)) y1, .b y2, .q (.int .i64 (.nil)) y3, .q (.int .i64 (.nil)) y4])) (fun y1 y2 => k (.exit 0) (encSt [.dead, .dead, .dead, .dead, .own 1, .dead, .dead, .dead, .dead, .dead, .dead, .dead, .dead, .dead, .dead, .dead, .dead, .dead, .dead, .dead, .dead, .dead, .dead, .dead, .dead, .dead, .dead, .dead] [] [.row true (.int .i64 (.nil)), .row true (.int .i64 (.nil))] [.q (.int .i64 (.nil)) y1, .q (.int .i64 (.nil)) y2])) 1000 (hdS ds) (hdI ds.tail) (hdQ (.int .i64 (.nil)) ds.tail.tail) (hdQ (.int .i64 (.nil)) ds.tail.tail.tail)⟩

noncomputable def draymanref02_Runes_loops {α : Type} (draymanref02_One : draymanref02_One_T α) : List (LoopSpec α) := [draymanref02_Runes_l0_spec draymanref02_One]

noncomputable def draymanref02_Runes_l0_ev {α : Type} (draymanref02_One : draymanref02_One_T α) (n : Nat) (st : St) (k : X → St → Option α) : Option α := loopN (evCode Go.Proofs.Tryd.prog (callD Go.Proofs.Tryd.prog (envOf (draymanref02_Runes_C draymanref02_One) draymanref02_Runes_q draymanref02_Runes_inl 1000 draymanref02_Runes_ann true (draymanref02_Runes_loops draymanref02_One) (fun _ => none)) 6) (((envOf (draymanref02_Runes_C draymanref02_One) draymanref02_Runes_q draymanref02_Runes_inl 1000 draymanref02_Runes_ann true (draymanref02_Runes_loops draymanref02_One) (fun _ => none)) : Env α).L 6 93) 1000 (draymanref02_Runes_ann 93) (false :: [true, false, true, true]) (loopC Go.Proofs.Tryd.prog 93 [true, false, true, true])) ((draymanref02_Runes_ann 93 [true, false, true, true]).head 2) ((draymanref02_Runes_ann 93 [true, false, true, true]).leave 2) n st k

theorem draymanref02_Runes_l0_eq {α : Type} (draymanref02_One : draymanref02_One_T α) : ∀ (n : Nat) (s2 : ByteArray) (i3 : Int) (q4 : Seq (Int × Unit)) (q5 : Seq (Int × Unit)) (k : X → St → Option α), draymanref02_Runes_l0_ev draymanref02_One n (encSt draymanref02_Runes_l0_t draymanref02_Runes_l0_s draymanref02_Runes_l0_h [.s s2, .i i3, .q (.int .i64 (.nil)) q4, .q (.int .i64 (.nil)) q5]) k = draymanref02_Runes_l0_run draymanref02_One (fun y1 y2 y3 y4 => k .ret (encSt [.dead, .dead, .sl (.int .i64 (.nil)), .bool, .dead, .dead, .dead, .dead, .dead, .dead, .dead, .dead, .dead, .dead, .dead, .dead, .dead, .dead, .dead, .dead, .dead, .dead, .dead, .dead, .dead, .dead, .dead, .dead] [] [.row true (.int .i64 (.nil)), .row true (.int .i64 (.nil))] [.q (.int .i64 (.nil)) y1, .b y2, .q (.int .i64 (.nil)) y3, .q (.int .i64 (.nil)) y4])) (fun y1 y2 => k (.exit 0) (encSt [.dead, .dead, .dead, .dead, .own 1, .dead, .dead, .dead, .dead, .dead, .dead, .dead, .dead, .dead, .dead, .dead, .dead, .dead, .dead, .dead, .dead, .dead, .dead, .dead, .dead, .dead, .dead, .dead] [] [.row true (.int .i64 (.nil)), .row true (.int .i64 (.nil))] [.q (.int .i64 (.nil)) y1, .q (.int .i64 (.nil)) y2])) n s2 i3 q4 q5 := by
  intro n
  induction n with
  | zero => intros; kernel_rfl
  | succ n ih =>
    intro s2 i3 q4 q5 k
    have e : (fun (s2 : ByteArray) (i3 : Int) (q4 : Seq (Int × Unit)) (q5 : Seq (Int × Unit)) => draymanref02_Runes_l0_ev draymanref02_One n (encSt draymanref02_Runes_l0_t draymanref02_Runes_l0_s draymanref02_Runes_l0_h [.s s2, .i i3, .q (.int .i64 (.nil)) q4, .q (.int .i64 (.nil)) q5]) k) = (fun (s2 : ByteArray) (i3 : Int) (q4 : Seq (Int × Unit)) (q5 : Seq (Int × Unit)) => draymanref02_Runes_l0_run draymanref02_One (fun y1 y2 y3 y4 => k .ret (encSt [.dead, .dead, .sl (.int .i64 (.nil)), .bool, .dead, .dead, .dead, .dead, .dead, .dead, .dead, .dead, .dead, .dead, .dead, .dead, .dead, .dead, .dead, .dead, .dead, .dead, .dead, .dead, .dead, .dead, .dead, .dead] [] [.row true (.int .i64 (.nil)), .row true (.int .i64 (.nil))] [.q (.int .i64 (.nil)) y1, .b y2, .q (.int .i64 (.nil)) y3, .q (.int .i64 (.nil)) y4])) (fun y1 y2 => k (.exit 0) (encSt [.dead, .dead, .dead, .dead, .own 1, .dead, .dead, .dead, .dead, .dead, .dead, .dead, .dead, .dead, .dead, .dead, .dead, .dead, .dead, .dead, .dead, .dead, .dead, .dead, .dead, .dead, .dead, .dead] [] [.row true (.int .i64 (.nil)), .row true (.int .i64 (.nil))] [.q (.int .i64 (.nil)) y1, .q (.int .i64 (.nil)) y2])) n s2 i3 q4 q5) := by
      funext s2 i3 q4 q5
      exact ih s2 i3 q4 q5 k
    have h1 : draymanref02_Runes_l0_ev draymanref02_One (n + 1) (encSt draymanref02_Runes_l0_t draymanref02_Runes_l0_s draymanref02_Runes_l0_h [.s s2, .i i3, .q (.int .i64 (.nil)) q4, .q (.int .i64 (.nil)) q5]) k = draymanref02_Runes_l0_step draymanref02_One (fun y1 y2 y3 y4 => k .ret (encSt [.dead, .dead, .sl (.int .i64 (.nil)), .bool, .dead, .dead, .dead, .dead, .dead, .dead, .dead, .dead, .dead, .dead, .dead, .dead, .dead, .dead, .dead, .dead, .dead, .dead, .dead, .dead, .dead, .dead, .dead, .dead] [] [.row true (.int .i64 (.nil)), .row true (.int .i64 (.nil))] [.q (.int .i64 (.nil)) y1, .b y2, .q (.int .i64 (.nil)) y3, .q (.int .i64 (.nil)) y4])) (fun y1 y2 => k (.exit 0) (encSt [.dead, .dead, .dead, .dead, .own 1, .dead, .dead, .dead, .dead, .dead, .dead, .dead, .dead, .dead, .dead, .dead, .dead, .dead, .dead, .dead, .dead, .dead, .dead, .dead, .dead, .dead, .dead, .dead] [] [.row true (.int .i64 (.nil)), .row true (.int .i64 (.nil))] [.q (.int .i64 (.nil)) y1, .q (.int .i64 (.nil)) y2])) (fun (s2 : ByteArray) (i3 : Int) (q4 : Seq (Int × Unit)) (q5 : Seq (Int × Unit)) => draymanref02_Runes_l0_ev draymanref02_One n (encSt draymanref02_Runes_l0_t draymanref02_Runes_l0_s draymanref02_Runes_l0_h [.s s2, .i i3, .q (.int .i64 (.nil)) q4, .q (.int .i64 (.nil)) q5]) k) s2 i3 q4 q5 := by kernel_rfl
    have h2 := congrArg (fun r => draymanref02_Runes_l0_step draymanref02_One (fun y1 y2 y3 y4 => k .ret (encSt [.dead, .dead, .sl (.int .i64 (.nil)), .bool, .dead, .dead, .dead, .dead, .dead, .dead, .dead, .dead, .dead, .dead, .dead, .dead, .dead, .dead, .dead, .dead, .dead, .dead, .dead, .dead, .dead, .dead, .dead, .dead] [] [.row true (.int .i64 (.nil)), .row true (.int .i64 (.nil))] [.q (.int .i64 (.nil)) y1, .b y2, .q (.int .i64 (.nil)) y3, .q (.int .i64 (.nil)) y4])) (fun y1 y2 => k (.exit 0) (encSt [.dead, .dead, .dead, .dead, .own 1, .dead, .dead, .dead, .dead, .dead, .dead, .dead, .dead, .dead, .dead, .dead, .dead, .dead, .dead, .dead, .dead, .dead, .dead, .dead, .dead, .dead, .dead, .dead] [] [.row true (.int .i64 (.nil)), .row true (.int .i64 (.nil))] [.q (.int .i64 (.nil)) y1, .q (.int .i64 (.nil)) y2])) r s2 i3 q4 q5) e
    have h3 : draymanref02_Runes_l0_step draymanref02_One (fun y1 y2 y3 y4 => k .ret (encSt [.dead, .dead, .sl (.int .i64 (.nil)), .bool, .dead, .dead, .dead, .dead, .dead, .dead, .dead, .dead, .dead, .dead, .dead, .dead, .dead, .dead, .dead, .dead, .dead, .dead, .dead, .dead, .dead, .dead, .dead, .dead] [] [.row true (.int .i64 (.nil)), .row true (.int .i64 (.nil))] [.q (.int .i64 (.nil)) y1, .b y2, .q (.int .i64 (.nil)) y3, .q (.int .i64 (.nil)) y4])) (fun y1 y2 => k (.exit 0) (encSt [.dead, .dead, .dead, .dead, .own 1, .dead, .dead, .dead, .dead, .dead, .dead, .dead, .dead, .dead, .dead, .dead, .dead, .dead, .dead, .dead, .dead, .dead, .dead, .dead, .dead, .dead, .dead, .dead] [] [.row true (.int .i64 (.nil)), .row true (.int .i64 (.nil))] [.q (.int .i64 (.nil)) y1, .q (.int .i64 (.nil)) y2])) (fun (s2 : ByteArray) (i3 : Int) (q4 : Seq (Int × Unit)) (q5 : Seq (Int × Unit)) => draymanref02_Runes_l0_run draymanref02_One (fun y1 y2 y3 y4 => k .ret (encSt [.dead, .dead, .sl (.int .i64 (.nil)), .bool, .dead, .dead, .dead, .dead, .dead, .dead, .dead, .dead, .dead, .dead, .dead, .dead, .dead, .dead, .dead, .dead, .dead, .dead, .dead, .dead, .dead, .dead, .dead, .dead] [] [.row true (.int .i64 (.nil)), .row true (.int .i64 (.nil))] [.q (.int .i64 (.nil)) y1, .b y2, .q (.int .i64 (.nil)) y3, .q (.int .i64 (.nil)) y4])) (fun y1 y2 => k (.exit 0) (encSt [.dead, .dead, .dead, .dead, .own 1, .dead, .dead, .dead, .dead, .dead, .dead, .dead, .dead, .dead, .dead, .dead, .dead, .dead, .dead, .dead, .dead, .dead, .dead, .dead, .dead, .dead, .dead, .dead] [] [.row true (.int .i64 (.nil)), .row true (.int .i64 (.nil))] [.q (.int .i64 (.nil)) y1, .q (.int .i64 (.nil)) y2])) n s2 i3 q4 q5) s2 i3 q4 q5 = draymanref02_Runes_l0_run draymanref02_One (fun y1 y2 y3 y4 => k .ret (encSt [.dead, .dead, .sl (.int .i64 (.nil)), .bool, .dead, .dead, .dead, .dead, .dead, .dead, .dead, .dead, .dead, .dead, .dead, .dead, .dead, .dead, .dead, .dead, .dead, .dead, .dead, .dead, .dead, .dead, .dead, .dead] [] [.row true (.int .i64 (.nil)), .row true (.int .i64 (.nil))] [.q (.int .i64 (.nil)) y1, .b y2, .q (.int .i64 (.nil)) y3, .q (.int .i64 (.nil)) y4])) (fun y1 y2 => k (.exit 0) (encSt [.dead, .dead, .dead, .dead, .own 1, .dead, .dead, .dead, .dead, .dead, .dead, .dead, .dead, .dead, .dead, .dead, .dead, .dead, .dead, .dead, .dead, .dead, .dead, .dead, .dead, .dead, .dead, .dead] [] [.row true (.int .i64 (.nil)), .row true (.int .i64 (.nil))] [.q (.int .i64 (.nil)) y1, .q (.int .i64 (.nil)) y2])) (n + 1) s2 i3 q4 q5 := by kernel_rfl
    exact h1.trans (h2.trans h3)

theorem draymanref02_Runes_l0_ok {α : Type} (draymanref02_One : draymanref02_One_T α) : (draymanref02_Runes_l0_spec draymanref02_One : LoopSpec α).ok Go.Proofs.Tryd.prog (envOf (draymanref02_Runes_C draymanref02_One) draymanref02_Runes_q draymanref02_Runes_inl 1000 draymanref02_Runes_ann true (draymanref02_Runes_loops draymanref02_One) (fun _ => none)) := by
  intro ds k
  have h1 : draymanref02_Runes_l0_ev draymanref02_One 1000 (encSt draymanref02_Runes_l0_t draymanref02_Runes_l0_s draymanref02_Runes_l0_h ds) k = draymanref02_Runes_l0_ev draymanref02_One 1000 (encSt draymanref02_Runes_l0_t draymanref02_Runes_l0_s draymanref02_Runes_l0_h [.s (hdS ds), .i (hdI ds.tail), .q (.int .i64 (.nil)) (hdQ (.int .i64 (.nil)) ds.tail.tail), .q (.int .i64 (.nil)) (hdQ (.int .i64 (.nil)) ds.tail.tail.tail)]) k := by kernel_rfl
  have h2 := draymanref02_Runes_l0_eq draymanref02_One 1000 (hdS ds) (hdI ds.tail) (hdQ (.int .i64 (.nil)) ds.tail.tail) (hdQ (.int .i64 (.nil)) ds.tail.tail.tail) k
  exact h1.trans h2

theorem draymanref02_Runes_ev {α : Type} (draymanref02_One : draymanref02_One_T α) : EvOk (α := α) Go.Proofs.Tryd.prog (envOf (draymanref02_Runes_C draymanref02_One) draymanref02_Runes_q draymanref02_Runes_inl 1000 draymanref02_Runes_ann true (draymanref02_Runes_loops draymanref02_One) (fun _ => none)) 6 (draymanref02_Runes_sp (draymanref02_Runes_g draymanref02_One)) := by intro ds k; kernel_rfl

theorem draymanref02_Runes_ok {α : Type} : (draymanref02_Runes_spec : FunSpec α).ok Go.Proofs.Tryd.prog :=
  FunSpec.ok_of (sp := draymanref02_Runes_spec) (C := draymanref02_Runes_C draymanref02_One) (q := draymanref02_Runes_q) (inl := draymanref02_Runes_inl) (N := 1000) (ann := draymanref02_Runes_ann) (fr := true) (D := 6) (l := (draymanref02_Runes_loops draymanref02_One)) (hk := (fun _ => none)) (okCons draymanref02_One_ok okNil) (lokCons (draymanref02_Runes_l0_ok draymanref02_One) lokNil) noHooks (draymanref02_Runes_ev draymanref02_One)

end
end Go.Rv.Tryd

set_option linter.unusedVariables false
set_option maxRecDepth 100000
set_option maxHeartbeats 4000000
namespace Go.Rv.Tryd
open Go Go.Rv Go.RowKit
noncomputable section

-- drayman/draymanref02.Rune

abbrev draymanref02_Rune_T (α : Type) : Type := Int → (Bool → Option α) → Option α

noncomputable def draymanref02_Rune {α : Type} (n1 : Int) (k : Bool → Option α) : Option α :=
  (cond (decide (n1 ≥ 97))
    (cond (!(decide (n1 ≤ 122)))
      (cond (decide (n1 ≥ 48))
        (cond (!(decide (n1 ≤ 57)))
          (cond (!(n1 == 45))
            (cond (decide (n1 ≥ 223))
              (cond (decide (n1 ≤ 255))
                (k (n1 != 247))
                (k false))
              (k false))
            (k true))
          (k true))
        (cond (!(n1 == 45))
          (cond (decide (n1 ≥ 223))
            (cond (decide (n1 ≤ 255))
              (k (n1 != 247))
              (k false))
            (k false))
          (k true)))
      (k true))
    (cond (decide (n1 ≥ 48))
      (cond (!(decide (n1 ≤ 57)))
        (cond (!(n1 == 45))
          (cond (decide (n1 ≥ 223))
            (cond (decide (n1 ≤ 255))
              (k (n1 != 247))
              (k false))
            (k false))
          (k true))
        (k true))
      (cond (!(n1 == 45))
        (cond (decide (n1 ≥ 223))
          (cond (decide (n1 ≤ 255))
            (k (n1 != 247))
            (k false))
          (k false))
        (k true))))

noncomputable def draymanref02_Rune_sp {α : Type} (draymanref02_Rune : draymanref02_Rune_T α) : FunSpec α := ⟨94, [.int .i64], [], fun ds k => draymanref02_Rune (hdI ds) (fun r1 => k (enc dep (.bool) [.b r1]).1 [])⟩

noncomputable def draymanref02_Rune_spec {α : Type} : FunSpec α := draymanref02_Rune_sp draymanref02_Rune

noncomputable def draymanref02_Rune_C {α : Type} : List (FunSpec α) := []

noncomputable def draymanref02_Rune_q : FuncId → Bool := fun f => false

noncomputable def draymanref02_Rune_inl : FuncId → Bool := fun f => false

noncomputable def draymanref02_Rune_ann : FuncId → AnnT := fun f p => ⟨[], [], [], [], 0, [], [], none⟩

noncomputable def draymanref02_Rune_loops {α : Type} : List (LoopSpec α) := []

theorem draymanref02_Rune_ev {α : Type} : EvOk (α := α) Go.Proofs.Tryd.prog (envOf (draymanref02_Rune_C) draymanref02_Rune_q draymanref02_Rune_inl 1000 draymanref02_Rune_ann false (draymanref02_Rune_loops) (fun _ => none)) 6 (draymanref02_Rune_sp (draymanref02_Rune)) := by intro ds k; kernel_rfl

theorem draymanref02_Rune_ok {α : Type} : (draymanref02_Rune_spec : FunSpec α).ok Go.Proofs.Tryd.prog :=
  FunSpec.ok_of (sp := draymanref02_Rune_spec) (C := draymanref02_Rune_C) (q := draymanref02_Rune_q) (inl := draymanref02_Rune_inl) (N := 1000) (ann := draymanref02_Rune_ann) (fr := false) (D := 6) (l := (draymanref02_Rune_loops)) (hk := (fun _ => none)) okNil lokNil noHooks (draymanref02_Rune_ev)

end
end Go.Rv.Tryd

set_option linter.unusedVariables false
set_option maxRecDepth 100000
set_option maxHeartbeats 4000000
namespace Go.Rv.Tryd
open Go Go.Rv Go.RowKit
noncomputable section

-- drayman/draymanref02.Fit

abbrev draymanref02_Fit_T (α : Type) : Type := ByteArray → (Bool → Option α) → Option α

noncomputable def draymanref02_Fit_l0_step {α : Type} (draymanref02_Runes : draymanref02_Runes_T α) (draymanref02_Rune : draymanref02_Rune_T α) (kr : (Bool) → Option α) (k0 : Option α) (rec : (Seq (Int × Unit)) → (Int) → Option α) (l4 : Seq (Int × Unit)) (i5 : Int) : Option α :=
  (cond (decide (i5 < (l4.n : Int)))
    (cond ((decide ((0 : Int) ≤ i5)) && (decide (i5 < (l4.n : Int))))
      (draymanref02_Rune ((l4.g i5.toNat).1) fun r6 =>
        (cond (!r6)
          (kr false)
          (rec l4 (IntKind.i64.wrap (i5 + 1)))))
      none)
    (k0))

noncomputable def draymanref02_Fit_l0_run {α : Type} (draymanref02_Runes : draymanref02_Runes_T α) (draymanref02_Rune : draymanref02_Rune_T α) (kr : (Bool) → Option α) (k0 : Option α) : Nat → (Seq (Int × Unit)) → (Int) → Option α
  | 0, _, _ => none
  | n + 1, l4, i5 => draymanref02_Fit_l0_step draymanref02_Runes draymanref02_Rune kr k0 (fun l4 i5 => draymanref02_Fit_l0_run draymanref02_Runes draymanref02_Rune kr k0 n l4 i5) l4 i5

noncomputable def draymanref02_Fit_g {α : Type} (draymanref02_Runes : draymanref02_Runes_T α) (draymanref02_Rune : draymanref02_Rune_T α) (s1 : ByteArray) (k : Bool → Option α) : Option α :=
  (cond (decide ((s1.size : Int) > 48))
    (k false)
    (draymanref02_Runes s1 fun r2 r3 =>
      (cond (!(!r3))
        (cond (!(decide ((r2.n : Int) < 1)))
          (cond (!(decide ((r2.n : Int) > 12)))
            (cond (decide ((0 : Int) < (r2.n : Int)))
              (cond ((r2.g 0).1 == 45)
                (k false)
                (draymanref02_Fit_l0_run draymanref02_Runes draymanref02_Rune
                  (fun x7 =>
                    (k x7))
                  ((k true))
                  1000 r2 0))
              none)
            (k false))
          (k false))
        (k false))))

noncomputable def draymanref02_Fit {α : Type} : draymanref02_Fit_T α := draymanref02_Fit_g draymanref02_Runes draymanref02_Rune

noncomputable def draymanref02_Fit_sp {α : Type} (draymanref02_Fit : draymanref02_Fit_T α) : FunSpec α := ⟨53, [.str], [], fun ds k => draymanref02_Fit (hdS ds) (fun r1 => k (enc dep (.bool) [.b r1]).1 [])⟩

noncomputable def draymanref02_Fit_spec {α : Type} : FunSpec α := draymanref02_Fit_sp draymanref02_Fit

noncomputable def draymanref02_Fit_C {α : Type} (draymanref02_Runes : draymanref02_Runes_T α) (draymanref02_Rune : draymanref02_Rune_T α) : List (FunSpec α) := [draymanref02_Runes_sp draymanref02_Runes, draymanref02_Rune_sp draymanref02_Rune]

noncomputable def draymanref02_Fit_q : FuncId → Bool := fun f => Nat.beq f 94

noncomputable def draymanref02_Fit_inl : FuncId → Bool := fun f => false

noncomputable def draymanref02_Fit_ann : FuncId → AnnT := fun f p => if f = 53 then (if p = [true, false, true, true, true, true] then ⟨[3, 5], [], [], [2], 0, [], [], none⟩ else ⟨[], [], [], [], 0, [], [], none⟩) else ⟨[], [], [], [], 0, [], [], none⟩

noncomputable def draymanref02_Fit_l0_t : List Sh := [.dead, .dead, .dead, .sl (.int .i64 (.nil)), .dead, .int .i64, .dead, .dead, .dead, .dead, .dead, .dead, .dead, .dead, .dead, .dead, .dead, .dead, .dead, .dead, .dead, .dead, .dead, .dead, .dead, .dead, .dead, .dead, .dead, .dead, .dead, .dead, .dead, .dead, .dead, .dead, .dead, .dead, .dead, .dead, .dead, .dead, .dead, .dead]
noncomputable def draymanref02_Fit_l0_s : List (List Sh) := []
noncomputable def draymanref02_Fit_l0_h : List BSh := []

noncomputable def draymanref02_Fit_l0_spec {α : Type} (draymanref02_Runes : draymanref02_Runes_T α) (draymanref02_Rune : draymanref02_Rune_T α) : LoopSpec α := ⟨6, 53, [true, false, true, true, true, true], draymanref02_Fit_l0_t, draymanref02_Fit_l0_s, draymanref02_Fit_l0_h, fun ds k => draymanref02_Fit_l0_run draymanref02_Runes draymanref02_Rune (fun y1 => k .ret (encSt [.dead, .dead, .bool, .dead, .dead, .dead, .dead, .dead, .dead, .dead, .dead, .dead, .dead, .dead, .dead, .dead, .dead, .dead, .dead, .dead, .dead, .dead, .dead, .dead, .dead, .dead, .dead, .dead, .dead, .dead, .dead, .dead, .dead, .dead, .dead, .dead, .dead, .dead, .dead, .dead, .dead, .dead, .dead, .dead] [] [] [.b y1])) (k (.exit 0) (encSt [.dead, .dead, .dead, .dead, .dead, .dead, .dead, .dead, .dead, .dead, .dead, .dead, .dead, .dead, .dead, .dead, .dead, .dead, .dead, .dead, .dead, .dead, .dead, .dead, .dead, .dead, .dead, .dead, .dead, .dead, .dead, .dead, .dead, .dead, .dead, .dead, .dead, .dead, .dead, .dead, .dead, .dead, .dead, .dead] [] [] [])) 1000 (hdQ (.int .i64 (.nil)) ds) (hdI ds.tail)⟩

noncomputable def draymanref02_Fit_loops {α : Type} (draymanref02_Runes : draymanref02_Runes_T α) (draymanref02_Rune : draymanref02_Rune_T α) : List (LoopSpec α) := [draymanref02_Fit_l0_spec draymanref02_Runes draymanref02_Rune]

noncomputable def draymanref02_Fit_l0_ev {α : Type} (draymanref02_Runes : draymanref02_Runes_T α) (draymanref02_Rune : draymanref02_Rune_T α) (n : Nat) (st : St) (k : X → St → Option α) : Option α := loopN (evCode Go.Proofs.Tryd.prog (callD Go.Proofs.Tryd.prog (envOf (draymanref02_Fit_C draymanref02_Runes draymanref02_Rune) draymanref02_Fit_q draymanref02_Fit_inl 1000 draymanref02_Fit_ann false (draymanref02_Fit_loops draymanref02_Runes draymanref02_Rune) (fun _ => none)) 6) (((envOf (draymanref02_Fit_C draymanref02_Runes draymanref02_Rune) draymanref02_Fit_q draymanref02_Fit_inl 1000 draymanref02_Fit_ann false (draymanref02_Fit_loops draymanref02_Runes draymanref02_Rune) (fun _ => none)) : Env α).L 6 53) 1000 (draymanref02_Fit_ann 53) (false :: [true, false, true, true, true, true]) (loopC Go.Proofs.Tryd.prog 53 [true, false, true, true, true, true])) ((draymanref02_Fit_ann 53 [true, false, true, true, true, true]).head 0) ((draymanref02_Fit_ann 53 [true, false, true, true, true, true]).leave 0) n st k

theorem draymanref02_Fit_l0_eq {α : Type} (draymanref02_Runes : draymanref02_Runes_T α) (draymanref02_Rune : draymanref02_Rune_T α) : ∀ (n : Nat) (l4 : Seq (Int × Unit)) (i5 : Int) (k : X → St → Option α), draymanref02_Fit_l0_ev draymanref02_Runes draymanref02_Rune n (encSt draymanref02_Fit_l0_t draymanref02_Fit_l0_s draymanref02_Fit_l0_h [.q (.int .i64 (.nil)) l4, .i i5]) k = draymanref02_Fit_l0_run draymanref02_Runes draymanref02_Rune (fun y1 => k .ret (encSt [.dead, .dead, .bool, .dead, .dead, .dead, .dead, .dead, .dead, .dead, .dead, .dead, .dead, .dead, .dead, .dead, .dead, .dead, .dead, .dead, .dead, .dead, .dead, .dead, .dead, .dead, .dead, .dead, .dead, .dead, .dead, .dead, .dead, .dead, .dead, .dead, .dead, .dead, .dead, .dead, .dead, .dead, .dead, .dead] [] [] [.b y1])) (k (.exit 0) (encSt [.dead, .dead, .dead, .dead, .dead, .dead, .dead, .dead, .dead, .dead, .dead, .dead, .dead, .dead, .dead, .dead, .dead, .dead, .dead, .dead, .dead, .dead, .dead, .dead, .dead, .dead, .dead, .dead, .dead, .dead, .dead, .dead, .dead, .dead, .dead, .dead, .dead, .dead, .dead, .dead, .dead, .dead, .dead, .dead] [] [] [])) n l4 i5 := by
  intro n
  induction n with
  | zero => intros; kernel_rfl
  | succ n ih =>
    intro l4 i5 k
    have e : (fun (l4 : Seq (Int × Unit)) (i5 : Int) => draymanref02_Fit_l0_ev draymanref02_Runes draymanref02_Rune n (encSt draymanref02_Fit_l0_t draymanref02_Fit_l0_s draymanref02_Fit_l0_h [.q (.int .i64 (.nil)) l4, .i i5]) k) = (fun (l4 : Seq (Int × Unit)) (i5 : Int) => draymanref02_Fit_l0_run draymanref02_Runes draymanref02_Rune (fun y1 => k .ret (encSt [.dead, .dead, .bool, .dead, .dead, .dead, .dead, .dead, .dead, .dead, .dead, .dead, .dead, .dead, .dead, .dead, .dead, .dead, .dead, .dead, .dead, .dead, .dead, .dead, .dead, .dead, .dead, .dead, .dead, .dead, .dead, .dead, .dead, .dead, .dead, .dead, .dead, .dead, .dead, .dead, .dead, .dead, .dead, .dead] [] [] [.b y1])) (k (.exit 0) (encSt [.dead, .dead, .dead, .dead, .dead, .dead, .dead, .dead, .dead, .dead, .dead, .dead, .dead, .dead, .dead, .dead, .dead, .dead, .dead, .dead, .dead, .dead, .dead, .dead, .dead, .dead, .dead, .dead, .dead, .dead, .dead, .dead, .dead, .dead, .dead, .dead, .dead, .dead, .dead, .dead, .dead, .dead, .dead, .dead] [] [] [])) n l4 i5) := by
      funext l4 i5
      exact ih l4 i5 k
    have h1 : draymanref02_Fit_l0_ev draymanref02_Runes draymanref02_Rune (n + 1) (encSt draymanref02_Fit_l0_t draymanref02_Fit_l0_s draymanref02_Fit_l0_h [.q (.int .i64 (.nil)) l4, .i i5]) k = draymanref02_Fit_l0_step draymanref02_Runes draymanref02_Rune (fun y1 => k .ret (encSt [.dead, .dead, .bool, .dead, .dead, .dead, .dead, .dead, .dead, .dead, .dead, .dead, .dead, .dead, .dead, .dead, .dead, .dead, .dead, .dead, .dead, .dead, .dead, .dead, .dead, .dead, .dead, .dead, .dead, .dead, .dead, .dead, .dead, .dead, .dead, .dead, .dead, .dead, .dead, .dead, .dead, .dead, .dead, .dead] [] [] [.b y1])) (k (.exit 0) (encSt [.dead, .dead, .dead, .dead, .dead, .dead, .dead, .dead, .dead, .dead, .dead, .dead, .dead, .dead, .dead, .dead, .dead, .dead, .dead, .dead, .dead, .dead, .dead, .dead, .dead, .dead, .dead, .dead, .dead, .dead, .dead, .dead, .dead, .dead, .dead, .dead, .dead, .dead, .dead, .dead, .dead, .dead, .dead, .dead] [] [] [])) (fun (l4 : Seq (Int × Unit)) (i5 : Int) => draymanref02_Fit_l0_ev draymanref02_Runes draymanref02_Rune n (encSt draymanref02_Fit_l0_t draymanref02_Fit_l0_s draymanref02_Fit_l0_h [.q (.int .i64 (.nil)) l4, .i i5]) k) l4 i5 := by kernel_rfl
    have h2 := congrArg (fun r => draymanref02_Fit_l0_step draymanref02_Runes draymanref02_Rune (fun y1 => k .ret (encSt [.dead, .dead, .bool, .dead, .dead, .dead, .dead, .dead, .dead, .dead, .dead, .dead, .dead, .dead, .dead, .dead, .dead, .dead, .dead, .dead, .dead, .dead, .dead, .dead, .dead, .dead, .dead, .dead, .dead, .dead, .dead, .dead, .dead, .dead, .dead, .dead, .dead, .dead, .dead, .dead, .dead, .dead, .dead, .dead] [] [] [.b y1])) (k (.exit 0) (encSt [.dead, .dead, .dead, .dead, .dead, .dead, .dead, .dead, .dead, .dead, .dead, .dead, .dead, .dead, .dead, .dead, .dead, .dead, .dead, .dead, .dead, .dead, .dead, .dead, .dead, .dead, .dead, .dead, .dead, .dead, .dead, .dead, .dead, .dead, .dead, .dead, .dead, .dead, .dead, .dead, .dead, .dead, .dead, .dead] [] [] [])) r l4 i5) e
    have h3 : draymanref02_Fit_l0_step draymanref02_Runes draymanref02_Rune (fun y1 => k .ret (encSt [.dead, .dead, .bool, .dead, .dead, .dead, .dead, .dead, .dead, .dead, .dead, .dead, .dead, .dead, .dead, .dead, .dead, .dead, .dead, .dead, .dead, .dead, .dead, .dead, .dead, .dead, .dead, .dead, .dead, .dead, .dead, .dead, .dead, .dead, .dead, .dead, .dead, .dead, .dead, .dead, .dead, .dead, .dead, .dead] [] [] [.b y1])) (k (.exit 0) (encSt [.dead, .dead, .dead, .dead, .dead, .dead, .dead, .dead, .dead, .dead, .dead, .dead, .dead, .dead, .dead, .dead, .dead, .dead, .dead, .dead, .dead, .dead, .dead, .dead, .dead, .dead, .dead, .dead, .dead, .dead, .dead, .dead, .dead, .dead, .dead, .dead, .dead, .dead, .dead, .dead, .dead, .dead, .dead, .dead] [] [] [])) (fun (l4 : Seq (Int × Unit)) (i5 : Int) => draymanref02_Fit_l0_run draymanref02_Runes draymanref02_Rune (fun y1 => k .ret (encSt [.dead, .dead, .bool, .dead, .dead, .dead, .dead, .dead, .dead, .dead, .dead, .dead, .dead, .dead, .dead, .dead, .dead, .dead, .dead, .dead, .dead, .dead, .dead, .dead, .dead, .dead, .dead, .dead, .dead, .dead, .dead, .dead, .dead, .dead, .dead, .dead, .dead, .dead, .dead, .dead, .dead, .dead, .dead, .dead] [] [] [.b y1])) (k (.exit 0) (encSt [.dead, .dead, .dead, .dead, .dead, .dead, .dead, .dead, .dead, .dead, .dead, .dead, .dead, .dead, .dead, .dead, .dead, .dead, .dead, .dead, .dead, .dead, .dead, .dead, .dead, .dead, .dead, .dead, .dead, .dead, .dead, .dead, .dead, .dead, .dead, .dead, .dead, .dead, .dead, .dead, .dead, .dead, .dead, .dead] [] [] [])) n l4 i5) l4 i5 = draymanref02_Fit_l0_run draymanref02_Runes draymanref02_Rune (fun y1 => k .ret (encSt [.dead, .dead, .bool, .dead, .dead, .dead, .dead, .dead, .dead, .dead, .dead, .dead, .dead, .dead, .dead, .dead, .dead, .dead, .dead, .dead, .dead, .dead, .dead, .dead, .dead, .dead, .dead, .dead, .dead, .dead, .dead, .dead, .dead, .dead, .dead, .dead, .dead, .dead, .dead, .dead, .dead, .dead, .dead, .dead] [] [] [.b y1])) (k (.exit 0) (encSt [.dead, .dead, .dead, .dead, .dead, .dead, .dead, .dead, .dead, .dead, .dead, .dead, .dead, .dead, .dead, .dead, .dead, .dead, .dead, .dead, .dead, .dead, .dead, .dead, .dead, .dead, .dead, .dead, .dead, .dead, .dead, .dead, .dead, .dead, .dead, .dead, .dead, .dead, .dead, .dead, .dead, .dead, .dead, .dead] [] [] [])) (n + 1) l4 i5 := by kernel_rfl
    exact h1.trans (h2.trans h3)

theorem draymanref02_Fit_l0_ok {α : Type} (draymanref02_Runes : draymanref02_Runes_T α) (draymanref02_Rune : draymanref02_Rune_T α) : (draymanref02_Fit_l0_spec draymanref02_Runes draymanref02_Rune : LoopSpec α).ok Go.Proofs.Tryd.prog (envOf (draymanref02_Fit_C draymanref02_Runes draymanref02_Rune) draymanref02_Fit_q draymanref02_Fit_inl 1000 draymanref02_Fit_ann false (draymanref02_Fit_loops draymanref02_Runes draymanref02_Rune) (fun _ => none)) := by
  intro ds k
  have h1 : draymanref02_Fit_l0_ev draymanref02_Runes draymanref02_Rune 1000 (encSt draymanref02_Fit_l0_t draymanref02_Fit_l0_s draymanref02_Fit_l0_h ds) k = draymanref02_Fit_l0_ev draymanref02_Runes draymanref02_Rune 1000 (encSt draymanref02_Fit_l0_t draymanref02_Fit_l0_s draymanref02_Fit_l0_h [.q (.int .i64 (.nil)) (hdQ (.int .i64 (.nil)) ds), .i (hdI ds.tail)]) k := by kernel_rfl
  have h2 := draymanref02_Fit_l0_eq draymanref02_Runes draymanref02_Rune 1000 (hdQ (.int .i64 (.nil)) ds) (hdI ds.tail) k
  exact h1.trans h2

theorem draymanref02_Fit_ev {α : Type} (draymanref02_Runes : draymanref02_Runes_T α) (draymanref02_Rune : draymanref02_Rune_T α) : EvOk (α := α) Go.Proofs.Tryd.prog (envOf (draymanref02_Fit_C draymanref02_Runes draymanref02_Rune) draymanref02_Fit_q draymanref02_Fit_inl 1000 draymanref02_Fit_ann false (draymanref02_Fit_loops draymanref02_Runes draymanref02_Rune) (fun _ => none)) 6 (draymanref02_Fit_sp (draymanref02_Fit_g draymanref02_Runes draymanref02_Rune)) := by intro ds k; kernel_rfl

theorem draymanref02_Fit_ok {α : Type} : (draymanref02_Fit_spec : FunSpec α).ok Go.Proofs.Tryd.prog :=
  FunSpec.ok_of (sp := draymanref02_Fit_spec) (C := draymanref02_Fit_C draymanref02_Runes draymanref02_Rune) (q := draymanref02_Fit_q) (inl := draymanref02_Fit_inl) (N := 1000) (ann := draymanref02_Fit_ann) (fr := false) (D := 6) (l := (draymanref02_Fit_loops draymanref02_Runes draymanref02_Rune)) (hk := (fun _ => none)) (okCons draymanref02_Runes_ok (okCons draymanref02_Rune_ok okNil)) (lokCons (draymanref02_Fit_l0_ok draymanref02_Runes draymanref02_Rune) lokNil) noHooks (draymanref02_Fit_ev draymanref02_Runes draymanref02_Rune)

end
end Go.Rv.Tryd

set_option linter.unusedVariables false
set_option maxRecDepth 100000
set_option maxHeartbeats 4000000
namespace Go.Rv.Tryd
open Go Go.Rv Go.RowKit
noncomputable section

-- drayman/draymanref01.Fit

abbrev draymanref01_Fit_T (α : Type) : Type := Int → (Bool → Option α) → Option α

noncomputable def draymanref01_Fit {α : Type} (n1 : Int) (k : Bool → Option α) : Option α :=
  (cond (decide (n1 ≥ 0))
    (k (decide (n1 ≤ 1099511627776)))
    (k false))

noncomputable def draymanref01_Fit_sp {α : Type} (draymanref01_Fit : draymanref01_Fit_T α) : FunSpec α := ⟨59, [.int .i64], [], fun ds k => draymanref01_Fit (hdI ds) (fun r1 => k (enc dep (.bool) [.b r1]).1 [])⟩

noncomputable def draymanref01_Fit_spec {α : Type} : FunSpec α := draymanref01_Fit_sp draymanref01_Fit

noncomputable def draymanref01_Fit_C {α : Type} : List (FunSpec α) := []

noncomputable def draymanref01_Fit_q : FuncId → Bool := fun f => false

noncomputable def draymanref01_Fit_inl : FuncId → Bool := fun f => false

noncomputable def draymanref01_Fit_ann : FuncId → AnnT := fun f p => ⟨[], [], [], [], 0, [], [], none⟩

noncomputable def draymanref01_Fit_loops {α : Type} : List (LoopSpec α) := []

theorem draymanref01_Fit_ev {α : Type} : EvOk (α := α) Go.Proofs.Tryd.prog (envOf (draymanref01_Fit_C) draymanref01_Fit_q draymanref01_Fit_inl 1000 draymanref01_Fit_ann false (draymanref01_Fit_loops) (fun _ => none)) 6 (draymanref01_Fit_sp (draymanref01_Fit)) := by intro ds k; kernel_rfl

theorem draymanref01_Fit_ok {α : Type} : (draymanref01_Fit_spec : FunSpec α).ok Go.Proofs.Tryd.prog :=
  FunSpec.ok_of (sp := draymanref01_Fit_spec) (C := draymanref01_Fit_C) (q := draymanref01_Fit_q) (inl := draymanref01_Fit_inl) (N := 1000) (ann := draymanref01_Fit_ann) (fr := false) (D := 6) (l := (draymanref01_Fit_loops)) (hk := (fun _ => none)) okNil lokNil noHooks (draymanref01_Fit_ev)

end
end Go.Rv.Tryd

set_option linter.unusedVariables false
set_option maxRecDepth 100000
set_option maxHeartbeats 4000000
namespace Go.Rv.Tryd
open Go Go.Rv Go.RowKit
noncomputable section

-- drayman/draymanref12.Fit

abbrev draymanref12_Fit_T (α : Type) : Type := Z0 → (Bool → Option α) → Option α

noncomputable def draymanref12_Fit_g {α : Type} (draymanref02_Fit : draymanref02_Fit_T α) (draymanref01_Fit : draymanref01_Fit_T α) (x1 : ByteArray × Int × Int × Int × Int × Int × Unit) (k : Bool → Option α) : Option α :=
  (draymanref02_Fit x1.1 fun r2 =>
    (cond (!(!r2))
      (draymanref01_Fit x1.2.1 fun r3 =>
        (cond (!(!r3))
          (draymanref01_Fit x1.2.2.1 fun r4 =>
            (cond (!(!r4))
              (draymanref01_Fit x1.2.2.2.1 fun r5 =>
                (cond (!(!r5))
                  (draymanref01_Fit x1.2.2.2.2.1 fun r6 =>
                    (cond (!(!r6))
                      (draymanref01_Fit x1.2.2.2.2.2.1 fun r7 =>
                        (cond (!r7)
                          (k false)
                          (k ((IntKind.i64.wrap ((IntKind.i64.wrap ((IntKind.i64.wrap (x1.2.1 + x1.2.2.1)) + x1.2.2.2.1)) + x1.2.2.2.2.1)) == x1.2.2.2.2.2.1))))
                      (k false)))
                  (k false)))
              (k false)))
          (k false)))
      (k false)))

noncomputable def draymanref12_Fit {α : Type} : draymanref12_Fit_T α := draymanref12_Fit_g draymanref02_Fit draymanref01_Fit

noncomputable def draymanref12_Fit_sp {α : Type} (draymanref12_Fit : draymanref12_Fit_T α) : FunSpec α := ⟨21, [.agg [.str, .int .i64, .int .i64, .int .i64, .int .i64, .int .i64]], [], fun ds k => draymanref12_Fit (hdS ds, hdI ds.tail, hdI ds.tail.tail, hdI ds.tail.tail.tail, hdI ds.tail.tail.tail.tail, hdI ds.tail.tail.tail.tail.tail, ()) (fun r1 => k (enc dep (.bool) [.b r1]).1 [])⟩

noncomputable def draymanref12_Fit_spec {α : Type} : FunSpec α := draymanref12_Fit_sp draymanref12_Fit

noncomputable def draymanref12_Fit_C {α : Type} (draymanref02_Fit : draymanref02_Fit_T α) (draymanref01_Fit : draymanref01_Fit_T α) : List (FunSpec α) := [draymanref02_Fit_sp draymanref02_Fit, draymanref01_Fit_sp draymanref01_Fit]

noncomputable def draymanref12_Fit_q : FuncId → Bool := fun f => Nat.beq f 53 || Nat.beq f 59

noncomputable def draymanref12_Fit_inl : FuncId → Bool := fun f => false

noncomputable def draymanref12_Fit_ann : FuncId → AnnT := fun f p => ⟨[], [], [], [], 0, [], [], none⟩

noncomputable def draymanref12_Fit_loops {α : Type} (draymanref02_Fit : draymanref02_Fit_T α) (draymanref01_Fit : draymanref01_Fit_T α) : List (LoopSpec α) := []

theorem draymanref12_Fit_ev {α : Type} (draymanref02_Fit : draymanref02_Fit_T α) (draymanref01_Fit : draymanref01_Fit_T α) : EvOk (α := α) Go.Proofs.Tryd.prog (envOf (draymanref12_Fit_C draymanref02_Fit draymanref01_Fit) draymanref12_Fit_q draymanref12_Fit_inl 1000 draymanref12_Fit_ann false (draymanref12_Fit_loops draymanref02_Fit draymanref01_Fit) (fun _ => none)) 6 (draymanref12_Fit_sp (draymanref12_Fit_g draymanref02_Fit draymanref01_Fit)) := by intro ds k; kernel_rfl

theorem draymanref12_Fit_ok {α : Type} : (draymanref12_Fit_spec : FunSpec α).ok Go.Proofs.Tryd.prog :=
  FunSpec.ok_of (sp := draymanref12_Fit_spec) (C := draymanref12_Fit_C draymanref02_Fit draymanref01_Fit) (q := draymanref12_Fit_q) (inl := draymanref12_Fit_inl) (N := 1000) (ann := draymanref12_Fit_ann) (fr := false) (D := 6) (l := (draymanref12_Fit_loops draymanref02_Fit draymanref01_Fit)) (hk := (fun _ => none)) (okCons draymanref02_Fit_ok (okCons draymanref01_Fit_ok okNil)) lokNil noHooks (draymanref12_Fit_ev draymanref02_Fit draymanref01_Fit)

end
end Go.Rv.Tryd

set_option linter.unusedVariables false
set_option maxRecDepth 100000
set_option maxHeartbeats 4000000
namespace Go.Rv.Tryd
open Go Go.Rv Go.RowKit
noncomputable section

-- drayman/draymanref12.Restock

abbrev draymanref12_Restock_T (α : Type) : Type := Z0 → Int → (Z0 → Int → Option α) → Option α

noncomputable def draymanref12_Restock_g {α : Type} (draymanref12_Fit : draymanref12_Fit_T α) (x1 : ByteArray × Int × Int × Int × Int × Int × Unit) (n2 : Int) (k : Z0 → Int → Option α) : Option α :=
  (draymanref12_Fit x1 fun r3 =>
    (cond (!r3)
      (k ((⟨#[]⟩ : ByteArray), 0, 0, 0, 0, 0, ()) 12)
      (cond (!(decide (n2 < 1)))
        (cond (decide (n2 > 1099511627776))
          (k ((⟨#[]⟩ : ByteArray), 0, 0, 0, 0, 0, ()) 11)
          (cond (decide (n2 > (IntKind.i64.wrap (1099511627776 - x1.2.2.2.2.2.1))))
            (k ((⟨#[]⟩ : ByteArray), 0, 0, 0, 0, 0, ()) 5)
            (k (x1.1, (IntKind.i64.wrap (x1.2.1 + n2)), x1.2.2.1, x1.2.2.2.1, x1.2.2.2.2.1, (IntKind.i64.wrap (x1.2.2.2.2.2.1 + n2)), ()) 0)))
        (k ((⟨#[]⟩ : ByteArray), 0, 0, 0, 0, 0, ()) 11))))

noncomputable def draymanref12_Restock {α : Type} : draymanref12_Restock_T α := draymanref12_Restock_g draymanref12_Fit

noncomputable def draymanref12_Restock_sp {α : Type} (draymanref12_Restock : draymanref12_Restock_T α) : FunSpec α := ⟨13, [.agg [.str, .int .i64, .int .i64, .int .i64, .int .i64, .int .i64], .int .i64], [], fun ds k => draymanref12_Restock (hdS ds, hdI ds.tail, hdI ds.tail.tail, hdI ds.tail.tail.tail, hdI ds.tail.tail.tail.tail, hdI ds.tail.tail.tail.tail.tail, ()) (hdI ds.tail.tail.tail.tail.tail.tail) (fun r1 r2 => k (enc dep (.tup [.agg [.str, .int .i64, .int .i64, .int .i64, .int .i64, .int .i64], .int .i64]) [.s r1.1, .i r1.2.1, .i r1.2.2.1, .i r1.2.2.2.1, .i r1.2.2.2.2.1, .i r1.2.2.2.2.2.1, .i r2]).1 [])⟩

noncomputable def draymanref12_Restock_spec {α : Type} : FunSpec α := draymanref12_Restock_sp draymanref12_Restock

noncomputable def draymanref12_Restock_C {α : Type} (draymanref12_Fit : draymanref12_Fit_T α) : List (FunSpec α) := [draymanref12_Fit_sp draymanref12_Fit]

noncomputable def draymanref12_Restock_q : FuncId → Bool := fun f => Nat.beq f 21

noncomputable def draymanref12_Restock_inl : FuncId → Bool := fun f => false

noncomputable def draymanref12_Restock_ann : FuncId → AnnT := fun f p => ⟨[], [], [], [], 0, [], [], none⟩

noncomputable def draymanref12_Restock_loops {α : Type} (draymanref12_Fit : draymanref12_Fit_T α) : List (LoopSpec α) := []

theorem draymanref12_Restock_ev {α : Type} (draymanref12_Fit : draymanref12_Fit_T α) : EvOk (α := α) Go.Proofs.Tryd.prog (envOf (draymanref12_Restock_C draymanref12_Fit) draymanref12_Restock_q draymanref12_Restock_inl 1000 draymanref12_Restock_ann false (draymanref12_Restock_loops draymanref12_Fit) (fun _ => none)) 6 (draymanref12_Restock_sp (draymanref12_Restock_g draymanref12_Fit)) := by intro ds k; kernel_rfl

theorem draymanref12_Restock_ok {α : Type} : (draymanref12_Restock_spec : FunSpec α).ok Go.Proofs.Tryd.prog :=
  FunSpec.ok_of (sp := draymanref12_Restock_spec) (C := draymanref12_Restock_C draymanref12_Fit) (q := draymanref12_Restock_q) (inl := draymanref12_Restock_inl) (N := 1000) (ann := draymanref12_Restock_ann) (fr := false) (D := 6) (l := (draymanref12_Restock_loops draymanref12_Fit)) (hk := (fun _ => none)) (okCons draymanref12_Fit_ok okNil) lokNil noHooks (draymanref12_Restock_ev draymanref12_Fit)

end
end Go.Rv.Tryd

set_option linter.unusedVariables false
set_option maxRecDepth 100000
set_option maxHeartbeats 4000000
namespace Go.Rv.Tryd
open Go Go.Rv Go.RowKit
noncomputable section

-- drayman/draymanref12.Adjust

abbrev draymanref12_Adjust_T (α : Type) : Type := Z0 → Int → (Z0 → Int → Option α) → Option α

noncomputable def draymanref12_Adjust_g {α : Type} (draymanref12_Fit : draymanref12_Fit_T α) (x1 : ByteArray × Int × Int × Int × Int × Int × Unit) (x2 : Int) (k : Z0 → Int → Option α) : Option α :=
  (draymanref12_Fit x1 fun r3 =>
    (cond (!r3)
      (k ((⟨#[]⟩ : ByteArray), 0, 0, 0, 0, 0, ()) 12)
      (cond (!(x2 == 0))
        (cond (!(decide (x2 < (-1099511627776))))
          (cond (decide (x2 > 1099511627776))
            (k ((⟨#[]⟩ : ByteArray), 0, 0, 0, 0, 0, ()) 11)
            (cond (decide ((IntKind.i64.wrap (x1.2.1 + x2)) < 0))
              (k ((⟨#[]⟩ : ByteArray), 0, 0, 0, 0, 0, ()) 6)
              (cond (decide ((IntKind.i64.wrap (x1.2.2.2.2.2.1 + x2)) > 1099511627776))
                (k ((⟨#[]⟩ : ByteArray), 0, 0, 0, 0, 0, ()) 5)
                (k (x1.1, (IntKind.i64.wrap (x1.2.1 + x2)), x1.2.2.1, x1.2.2.2.1, x1.2.2.2.2.1, (IntKind.i64.wrap (x1.2.2.2.2.2.1 + x2)), ()) 0))))
          (k ((⟨#[]⟩ : ByteArray), 0, 0, 0, 0, 0, ()) 11))
        (k ((⟨#[]⟩ : ByteArray), 0, 0, 0, 0, 0, ()) 11))))

noncomputable def draymanref12_Adjust {α : Type} : draymanref12_Adjust_T α := draymanref12_Adjust_g draymanref12_Fit

noncomputable def draymanref12_Adjust_sp {α : Type} (draymanref12_Adjust : draymanref12_Adjust_T α) : FunSpec α := ⟨15, [.agg [.str, .int .i64, .int .i64, .int .i64, .int .i64, .int .i64], .int .i64], [], fun ds k => draymanref12_Adjust (hdS ds, hdI ds.tail, hdI ds.tail.tail, hdI ds.tail.tail.tail, hdI ds.tail.tail.tail.tail, hdI ds.tail.tail.tail.tail.tail, ()) (hdI ds.tail.tail.tail.tail.tail.tail) (fun r1 r2 => k (enc dep (.tup [.agg [.str, .int .i64, .int .i64, .int .i64, .int .i64, .int .i64], .int .i64]) [.s r1.1, .i r1.2.1, .i r1.2.2.1, .i r1.2.2.2.1, .i r1.2.2.2.2.1, .i r1.2.2.2.2.2.1, .i r2]).1 [])⟩

noncomputable def draymanref12_Adjust_spec {α : Type} : FunSpec α := draymanref12_Adjust_sp draymanref12_Adjust

noncomputable def draymanref12_Adjust_C {α : Type} (draymanref12_Fit : draymanref12_Fit_T α) : List (FunSpec α) := [draymanref12_Fit_sp draymanref12_Fit]

noncomputable def draymanref12_Adjust_q : FuncId → Bool := fun f => Nat.beq f 21

noncomputable def draymanref12_Adjust_inl : FuncId → Bool := fun f => false

noncomputable def draymanref12_Adjust_ann : FuncId → AnnT := fun f p => ⟨[], [], [], [], 0, [], [], none⟩

noncomputable def draymanref12_Adjust_loops {α : Type} (draymanref12_Fit : draymanref12_Fit_T α) : List (LoopSpec α) := []

theorem draymanref12_Adjust_ev {α : Type} (draymanref12_Fit : draymanref12_Fit_T α) : EvOk (α := α) Go.Proofs.Tryd.prog (envOf (draymanref12_Adjust_C draymanref12_Fit) draymanref12_Adjust_q draymanref12_Adjust_inl 1000 draymanref12_Adjust_ann false (draymanref12_Adjust_loops draymanref12_Fit) (fun _ => none)) 6 (draymanref12_Adjust_sp (draymanref12_Adjust_g draymanref12_Fit)) := by intro ds k; kernel_rfl

theorem draymanref12_Adjust_ok {α : Type} : (draymanref12_Adjust_spec : FunSpec α).ok Go.Proofs.Tryd.prog :=
  FunSpec.ok_of (sp := draymanref12_Adjust_spec) (C := draymanref12_Adjust_C draymanref12_Fit) (q := draymanref12_Adjust_q) (inl := draymanref12_Adjust_inl) (N := 1000) (ann := draymanref12_Adjust_ann) (fr := false) (D := 6) (l := (draymanref12_Adjust_loops draymanref12_Fit)) (hk := (fun _ => none)) (okCons draymanref12_Fit_ok okNil) lokNil noHooks (draymanref12_Adjust_ev draymanref12_Fit)

end
end Go.Rv.Tryd

set_option linter.unusedVariables false
set_option maxRecDepth 100000
set_option maxHeartbeats 4000000
namespace Go.Rv.Tryd
open Go Go.Rv Go.RowKit
noncomputable section

-- drayman/draymanref12.New

abbrev draymanref12_New_T (α : Type) : Type := ByteArray → (Z0 → Int → Option α) → Option α

noncomputable def draymanref12_New_g {α : Type} (draymanref02_Fit : draymanref02_Fit_T α) (sku1 : ByteArray) (k : Z0 → Int → Option α) : Option α :=
  (draymanref02_Fit sku1 fun r2 =>
    (cond (!r2)
      (k ((⟨#[]⟩ : ByteArray), 0, 0, 0, 0, 0, ()) 7)
      (k (sku1, 0, 0, 0, 0, 0, ()) 0)))

noncomputable def draymanref12_New {α : Type} : draymanref12_New_T α := draymanref12_New_g draymanref02_Fit

noncomputable def draymanref12_New_sp {α : Type} (draymanref12_New : draymanref12_New_T α) : FunSpec α := ⟨17, [.str], [], fun ds k => draymanref12_New (hdS ds) (fun r1 r2 => k (enc dep (.tup [.agg [.str, .int .i64, .int .i64, .int .i64, .int .i64, .int .i64], .int .i64]) [.s r1.1, .i r1.2.1, .i r1.2.2.1, .i r1.2.2.2.1, .i r1.2.2.2.2.1, .i r1.2.2.2.2.2.1, .i r2]).1 [])⟩

noncomputable def draymanref12_New_spec {α : Type} : FunSpec α := draymanref12_New_sp draymanref12_New

noncomputable def draymanref12_New_C {α : Type} (draymanref02_Fit : draymanref02_Fit_T α) : List (FunSpec α) := [draymanref02_Fit_sp draymanref02_Fit]

noncomputable def draymanref12_New_q : FuncId → Bool := fun f => Nat.beq f 53

noncomputable def draymanref12_New_inl : FuncId → Bool := fun f => false

noncomputable def draymanref12_New_ann : FuncId → AnnT := fun f p => ⟨[], [], [], [], 0, [], [], none⟩

noncomputable def draymanref12_New_loops {α : Type} (draymanref02_Fit : draymanref02_Fit_T α) : List (LoopSpec α) := []

theorem draymanref12_New_ev {α : Type} (draymanref02_Fit : draymanref02_Fit_T α) : EvOk (α := α) Go.Proofs.Tryd.prog (envOf (draymanref12_New_C draymanref02_Fit) draymanref12_New_q draymanref12_New_inl 1000 draymanref12_New_ann false (draymanref12_New_loops draymanref02_Fit) (fun _ => none)) 6 (draymanref12_New_sp (draymanref12_New_g draymanref02_Fit)) := by intro ds k; kernel_rfl

theorem draymanref12_New_ok {α : Type} : (draymanref12_New_spec : FunSpec α).ok Go.Proofs.Tryd.prog :=
  FunSpec.ok_of (sp := draymanref12_New_spec) (C := draymanref12_New_C draymanref02_Fit) (q := draymanref12_New_q) (inl := draymanref12_New_inl) (N := 1000) (ann := draymanref12_New_ann) (fr := false) (D := 6) (l := (draymanref12_New_loops draymanref02_Fit)) (hk := (fun _ => none)) (okCons draymanref02_Fit_ok okNil) lokNil noHooks (draymanref12_New_ev draymanref02_Fit)

end
end Go.Rv.Tryd

set_option linter.unusedVariables false
set_option maxRecDepth 100000
set_option maxHeartbeats 4000000
namespace Go.Rv.Tryd
open Go Go.Rv Go.RowKit
noncomputable section

-- drayman/draymanref12.Move

abbrev draymanref12_Move_T (α : Type) : Type := Z0 → Int → Int → (Z0 → Int → Option α) → Option α

noncomputable def draymanref12_Move_g {α : Type} (draymanref12_Fit : draymanref12_Fit_T α) (x1 : ByteArray × Int × Int × Int × Int × Int × Unit) (x2 : Int) (x3 : Int) (k : Z0 → Int → Option α) : Option α :=
  (draymanref12_Fit x1 fun r4 =>
    (cond (!r4)
      (k ((⟨#[]⟩ : ByteArray), 0, 0, 0, 0, 0, ()) 12)
      (cond (!(decide (x3 < 1)))
        (cond (decide (x3 > 1048576))
          (k ((⟨#[]⟩ : ByteArray), 0, 0, 0, 0, 0, ()) 11)
          (joinD
            (fun ds => (fun (x5 : Int) (x6 : Int) (x7 : Int) (x8 : ByteArray × Int × Int × Int × Int × Int × Unit) (x9 : ByteArray × Int × Int × Int × Int × Int × Unit) =>
              (cond (decide (x7 < x6))
                (k ((⟨#[]⟩ : ByteArray), 0, 0, 0, 0, 0, ()) 6)
                (cond (x5 == 1)
                  (k (x8.1, (IntKind.i64.wrap (x8.2.1 - x6)), (IntKind.i64.wrap (x8.2.2.1 + x6)), x8.2.2.2.1, x8.2.2.2.2.1, x8.2.2.2.2.2.1, ()) 0)
                  (cond (x5 == 2)
                    (k (x8.1, (IntKind.i64.wrap (x8.2.1 + x6)), (IntKind.i64.wrap (x8.2.2.1 - x6)), x8.2.2.2.1, x8.2.2.2.2.1, x8.2.2.2.2.2.1, ()) 0)
                    (cond (x5 == 3)
                      (k (x8.1, x8.2.1, (IntKind.i64.wrap (x8.2.2.1 - x6)), (IntKind.i64.wrap (x8.2.2.2.1 + x6)), x8.2.2.2.2.1, x8.2.2.2.2.2.1, ()) 0)
                      (cond (x5 == 4)
                        (k (x8.1, x8.2.1, (IntKind.i64.wrap (x8.2.2.1 + x6)), (IntKind.i64.wrap (x8.2.2.2.1 - x6)), x8.2.2.2.2.1, x8.2.2.2.2.2.1, ()) 0)
                        (k (x8.1, x8.2.1, x8.2.2.1, (IntKind.i64.wrap (x8.2.2.2.1 - x6)), (IntKind.i64.wrap (x8.2.2.2.2.1 + x6)), x8.2.2.2.2.2.1, ()) 0)))))))
              (hdI ds) (hdI ds.tail) (hdI ds.tail.tail) (hdS ds.tail.tail.tail, hdI ds.tail.tail.tail.tail, hdI ds.tail.tail.tail.tail.tail, hdI ds.tail.tail.tail.tail.tail.tail, hdI ds.tail.tail.tail.tail.tail.tail.tail, hdI ds.tail.tail.tail.tail.tail.tail.tail.tail, ()) (hdS ds.tail.tail.tail.tail.tail.tail.tail.tail.tail, hdI ds.tail.tail.tail.tail.tail.tail.tail.tail.tail.tail, hdI ds.tail.tail.tail.tail.tail.tail.tail.tail.tail.tail.tail, hdI ds.tail.tail.tail.tail.tail.tail.tail.tail.tail.tail.tail.tail, hdI ds.tail.tail.tail.tail.tail.tail.tail.tail.tail.tail.tail.tail.tail, hdI ds.tail.tail.tail.tail.tail.tail.tail.tail.tail.tail.tail.tail.tail.tail, ()))
            (fun j10 =>
              (cond (x2 == 1)
                (j10 [.i x2, .i x3, .i x1.2.1, .s x1.1, .i x1.2.1, .i x1.2.2.1, .i x1.2.2.2.1, .i x1.2.2.2.2.1, .i x1.2.2.2.2.2.1, .s (((⟨#[]⟩ : ByteArray), 0, 0, 0, 0, 0, ()).1), .i (((⟨#[]⟩ : ByteArray), 0, 0, 0, 0, 0, ()).2.1), .i (((⟨#[]⟩ : ByteArray), 0, 0, 0, 0, 0, ()).2.2.1), .i (((⟨#[]⟩ : ByteArray), 0, 0, 0, 0, 0, ()).2.2.2.1), .i (((⟨#[]⟩ : ByteArray), 0, 0, 0, 0, 0, ()).2.2.2.2.1), .i (((⟨#[]⟩ : ByteArray), 0, 0, 0, 0, 0, ()).2.2.2.2.2.1)])
                (cond (x2 == 2)
                  (cond (x2 == 2)
                    (j10 [.i x2, .i x3, .i x1.2.2.1, .s x1.1, .i x1.2.1, .i x1.2.2.1, .i x1.2.2.2.1, .i x1.2.2.2.2.1, .i x1.2.2.2.2.2.1, .s (((⟨#[]⟩ : ByteArray), 0, 0, 0, 0, 0, ()).1), .i (((⟨#[]⟩ : ByteArray), 0, 0, 0, 0, 0, ()).2.1), .i (((⟨#[]⟩ : ByteArray), 0, 0, 0, 0, 0, ()).2.2.1), .i (((⟨#[]⟩ : ByteArray), 0, 0, 0, 0, 0, ()).2.2.2.1), .i (((⟨#[]⟩ : ByteArray), 0, 0, 0, 0, 0, ()).2.2.2.2.1), .i (((⟨#[]⟩ : ByteArray), 0, 0, 0, 0, 0, ()).2.2.2.2.2.1)])
                    (j10 [.i x2, .i x3, .i x1.2.2.2.1, .s x1.1, .i x1.2.1, .i x1.2.2.1, .i x1.2.2.2.1, .i x1.2.2.2.2.1, .i x1.2.2.2.2.2.1, .s (((⟨#[]⟩ : ByteArray), 0, 0, 0, 0, 0, ()).1), .i (((⟨#[]⟩ : ByteArray), 0, 0, 0, 0, 0, ()).2.1), .i (((⟨#[]⟩ : ByteArray), 0, 0, 0, 0, 0, ()).2.2.1), .i (((⟨#[]⟩ : ByteArray), 0, 0, 0, 0, 0, ()).2.2.2.1), .i (((⟨#[]⟩ : ByteArray), 0, 0, 0, 0, 0, ()).2.2.2.2.1), .i (((⟨#[]⟩ : ByteArray), 0, 0, 0, 0, 0, ()).2.2.2.2.2.1)]))
                  (cond (x2 == 3)
                    (j10 [.i x2, .i x3, .i x1.2.2.1, .s x1.1, .i x1.2.1, .i x1.2.2.1, .i x1.2.2.2.1, .i x1.2.2.2.2.1, .i x1.2.2.2.2.2.1, .s (((⟨#[]⟩ : ByteArray), 0, 0, 0, 0, 0, ()).1), .i (((⟨#[]⟩ : ByteArray), 0, 0, 0, 0, 0, ()).2.1), .i (((⟨#[]⟩ : ByteArray), 0, 0, 0, 0, 0, ()).2.2.1), .i (((⟨#[]⟩ : ByteArray), 0, 0, 0, 0, 0, ()).2.2.2.1), .i (((⟨#[]⟩ : ByteArray), 0, 0, 0, 0, 0, ()).2.2.2.2.1), .i (((⟨#[]⟩ : ByteArray), 0, 0, 0, 0, 0, ()).2.2.2.2.2.1)])
                    (j10 [.i x2, .i x3, .i x1.2.2.2.1, .s x1.1, .i x1.2.1, .i x1.2.2.1, .i x1.2.2.2.1, .i x1.2.2.2.2.1, .i x1.2.2.2.2.2.1, .s (((⟨#[]⟩ : ByteArray), 0, 0, 0, 0, 0, ()).1), .i (((⟨#[]⟩ : ByteArray), 0, 0, 0, 0, 0, ()).2.1), .i (((⟨#[]⟩ : ByteArray), 0, 0, 0, 0, 0, ()).2.2.1), .i (((⟨#[]⟩ : ByteArray), 0, 0, 0, 0, 0, ()).2.2.2.1), .i (((⟨#[]⟩ : ByteArray), 0, 0, 0, 0, 0, ()).2.2.2.2.1), .i (((⟨#[]⟩ : ByteArray), 0, 0, 0, 0, 0, ()).2.2.2.2.2.1)])))))))
        (k ((⟨#[]⟩ : ByteArray), 0, 0, 0, 0, 0, ()) 11))))

noncomputable def draymanref12_Move {α : Type} : draymanref12_Move_T α := draymanref12_Move_g draymanref12_Fit

noncomputable def draymanref12_Move_sp {α : Type} (draymanref12_Move : draymanref12_Move_T α) : FunSpec α := ⟨19, [.agg [.str, .int .i64, .int .i64, .int .i64, .int .i64, .int .i64], .int .i64, .int .i64], [], fun ds k => draymanref12_Move (hdS ds, hdI ds.tail, hdI ds.tail.tail, hdI ds.tail.tail.tail, hdI ds.tail.tail.tail.tail, hdI ds.tail.tail.tail.tail.tail, ()) (hdI ds.tail.tail.tail.tail.tail.tail) (hdI ds.tail.tail.tail.tail.tail.tail.tail) (fun r1 r2 => k (enc dep (.tup [.agg [.str, .int .i64, .int .i64, .int .i64, .int .i64, .int .i64], .int .i64]) [.s r1.1, .i r1.2.1, .i r1.2.2.1, .i r1.2.2.2.1, .i r1.2.2.2.2.1, .i r1.2.2.2.2.2.1, .i r2]).1 [])⟩

noncomputable def draymanref12_Move_spec {α : Type} : FunSpec α := draymanref12_Move_sp draymanref12_Move

noncomputable def draymanref12_Move_C {α : Type} (draymanref12_Fit : draymanref12_Fit_T α) : List (FunSpec α) := [draymanref12_Fit_sp draymanref12_Fit]

noncomputable def draymanref12_Move_q : FuncId → Bool := fun f => Nat.beq f 21

noncomputable def draymanref12_Move_inl : FuncId → Bool := fun f => false

noncomputable def draymanref12_Move_ann : FuncId → AnnT := fun f p => if f = 19 then (if p = [true, true, true, true] then ⟨[1, 2, 3, 6, 8], [], [], [], 0, [], [], some ([.dead, .int .i64, .int .i64, .ref 0 0, .dead, .dead, .ref 1 0, .dead, .int .i64, .dead, .dead, .dead, .dead, .dead, .dead, .dead, .dead, .dead, .dead, .dead, .dead, .dead, .dead, .dead, .dead, .dead, .dead, .dead, .dead, .dead, .dead, .dead, .dead, .dead, .dead, .dead, .dead, .dead, .dead, .dead, .dead, .dead, .dead, .dead, .dead, .dead, .dead, .dead, .dead, .dead, .dead, .dead, .dead, .dead, .dead, .dead, .dead, .dead, .dead, .dead, .dead, .dead, .dead, .dead, .dead, .dead, .dead, .dead, .dead, .dead, .dead, .dead, .dead, .dead, .dead, .dead, .dead, .dead, .dead, .dead, .dead, .dead, .dead, .dead, .dead, .dead, .dead, .dead, .dead, .dead, .dead, .dead, .dead, .dead, .dead, .dead], [], [.box [.str, .int .i64, .int .i64, .int .i64, .int .i64, .int .i64], .box [.str, .int .i64, .int .i64, .int .i64, .int .i64, .int .i64]])⟩ else ⟨[], [], [], [], 0, [], [], none⟩) else ⟨[], [], [], [], 0, [], [], none⟩

noncomputable def draymanref12_Move_loops {α : Type} (draymanref12_Fit : draymanref12_Fit_T α) : List (LoopSpec α) := []

theorem draymanref12_Move_ev {α : Type} (draymanref12_Fit : draymanref12_Fit_T α) : EvOk (α := α) Go.Proofs.Tryd.prog (envOf (draymanref12_Move_C draymanref12_Fit) draymanref12_Move_q draymanref12_Move_inl 1000 draymanref12_Move_ann false (draymanref12_Move_loops draymanref12_Fit) (fun _ => none)) 6 (draymanref12_Move_sp (draymanref12_Move_g draymanref12_Fit)) := by intro ds k; kernel_rfl

theorem draymanref12_Move_ok {α : Type} : (draymanref12_Move_spec : FunSpec α).ok Go.Proofs.Tryd.prog :=
  FunSpec.ok_of (sp := draymanref12_Move_spec) (C := draymanref12_Move_C draymanref12_Fit) (q := draymanref12_Move_q) (inl := draymanref12_Move_inl) (N := 1000) (ann := draymanref12_Move_ann) (fr := false) (D := 6) (l := (draymanref12_Move_loops draymanref12_Fit)) (hk := (fun _ => none)) (okCons draymanref12_Fit_ok okNil) lokNil noHooks (draymanref12_Move_ev draymanref12_Fit)

end
end Go.Rv.Tryd
