/- What the functions of the program compute, each with the proof that its code computes it. Written by a program (rvp2.py). -/
import Derived.Test.YtmoeohjaafpmgaaDoorProg
import Derived.Test.YtmoeohjaafpmgaaDoorRvP
import Derived.Test.YtmoeohjaafpmgaaDoorFx
import Derived.Test.YtmoeohjaafpmgaaDoorUtf8
import Derived.Test.YtmoeohjaafpmgaaDoorE1

set_option linter.unusedVariables false
set_option maxRecDepth 100000
set_option maxHeartbeats 4000000
namespace Go.Rv.Tryd
open Go Go.Rv Go.RowKit
noncomputable section

-- drayman/draymanref02.Rune

abbrev draymanref02_Rune_T (α : Type) : Type := Int → (Bool → Option α) → Option α

noncomputable def draymanref02_Rune {α : Type} (n1 : Int) (k : Bool → Option α) : Option α :=
  (cond (decide (n1 ≥ 97))
    (cond (!(decide (n1 ≤ 122)))
      (cond (decide (n1 ≥ 48))
        (cond (!(decide (n1 ≤ 57)))
          (cond (!(n1 == 45))
            (cond (decide (n1 ≥ 223))
              (cond (decide (n1 ≤ 255))
                (k (n1 != 247))
                (k false))
              (k false))
            (k true))
          (k true))
        (cond (!(n1 == 45))
          (cond (decide (n1 ≥ 223))
            (cond (decide (n1 ≤ 255))
              (k (n1 != 247))
              (k false))
            (k false))
          (k true)))
      (k true))
    (cond (decide (n1 ≥ 48))
      (cond (!(decide (n1 ≤ 57)))
        (cond (!(n1 == 45))
          (cond (decide (n1 ≥ 223))
            (cond (decide (n1 ≤ 255))
              (k (n1 != 247))
              (k false))
            (k false))
          (k true))
        (k true))
      (cond (!(n1 == 45))
        (cond (decide (n1 ≥ 223))
          (cond (decide (n1 ≤ 255))
            (k (n1 != 247))
            (k false))
          (k false))
        (k true))))

noncomputable def draymanref02_Rune_sp {α : Type} (draymanref02_Rune : draymanref02_Rune_T α) : FunSpec α := ⟨94, [.int .i64], [], fun ds k => draymanref02_Rune (hdI ds) (fun r1 => k (enc dep (.bool) [.b r1]).1 [])⟩

noncomputable def draymanref02_Rune_spec {α : Type} : FunSpec α := draymanref02_Rune_sp draymanref02_Rune

noncomputable def draymanref02_Rune_C {α : Type} : List (FunSpec α) := []

noncomputable def draymanref02_Rune_q : FuncId → Bool := fun f => false

noncomputable def draymanref02_Rune_inl : FuncId → Bool := fun f => false

noncomputable def draymanref02_Rune_ann : FuncId → AnnT := fun f p => ⟨[], [], [], [], 0, [], [], none⟩

noncomputable def draymanref02_Rune_loops {α : Type} : List (LoopSpec α) := []

theorem draymanref02_Rune_ev {α : Type} : EvOk (α := α) Go.Proofs.Tryd.prog (envOf (draymanref02_Rune_C) draymanref02_Rune_q draymanref02_Rune_inl 1000 draymanref02_Rune_ann false (draymanref02_Rune_loops) (fun _ => none)) 6 (draymanref02_Rune_sp (draymanref02_Rune)) := by intro ds k; kernel_rfl

theorem draymanref02_Rune_ok {α : Type} : (draymanref02_Rune_spec : FunSpec α).ok Go.Proofs.Tryd.prog :=
  FunSpec.ok_of (sp := draymanref02_Rune_spec) (C := draymanref02_Rune_C) (q := draymanref02_Rune_q) (inl := draymanref02_Rune_inl) (N := 1000) (ann := draymanref02_Rune_ann) (fr := false) (D := 6) (l := (draymanref02_Rune_loops)) (hk := (fun _ => none)) okNil lokNil noHooks (draymanref02_Rune_ev)

end
end Go.Rv.Tryd

set_option linter.unusedVariables false
set_option maxRecDepth 100000
set_option maxHeartbeats 4000000
namespace Go.Rv.Tryd
open Go Go.Rv Go.RowKit
noncomputable section

-- drayman/draymanref02.Fit

abbrev draymanref02_Fit_T (α : Type) : Type := ByteArray → (Bool → Option α) → Option α

noncomputable def draymanref02_Fit_l0_step {α : Type} (draymanref02_Runes : draymanref02_Runes_T α) (draymanref02_Rune : draymanref02_Rune_T α) (kr : (Bool) → Option α) (k0 : Option α) (rec : (Seq (Int × Unit)) → (Int) → Option α) (l4 : Seq (Int × Unit)) (i5 : Int) : Option α :=
  (cond (decide (i5 < (l4.n : Int)))
    (cond ((decide ((0 : Int) ≤ i5)) && (decide (i5 < (l4.n : Int))))
      (draymanref02_Rune ((l4.g i5.toNat).1) fun r6 =>
        (cond (!r6)
          (kr false)
          (rec l4 (IntKind.i64.wrap (i5 + 1)))))
      none)
    (k0))

noncomputable def draymanref02_Fit_l0_run {α : Type} (draymanref02_Runes : draymanref02_Runes_T α) (draymanref02_Rune : draymanref02_Rune_T α) (kr : (Bool) → Option α) (k0 : Option α) : Nat → (Seq (Int × Unit)) → (Int) → Option α
  | 0, _, _ => none
  | n + 1, l4, i5 => draymanref02_Fit_l0_step draymanref02_Runes draymanref02_Rune kr k0 (fun l4 i5 => draymanref02_Fit_l0_run draymanref02_Runes draymanref02_Rune kr k0 n l4 i5) l4 i5

noncomputable def draymanref02_Fit_g {α : Type} (draymanref02_Runes : draymanref02_Runes_T α) (draymanref02_Rune : draymanref02_Rune_T α) (s1 : ByteArray) (k : Bool → Option α) : Option α :=
  (cond (decide ((s1.size : Int) > 48))
    (k false)
    (draymanref02_Runes s1 fun r2 r3 =>
      (cond (!(!r3))
        (cond (!(decide ((r2.n : Int) < 1)))
          (cond (!(decide ((r2.n : Int) > 12)))
            (cond (decide ((0 : Int) < (r2.n : Int)))
              (cond ((r2.g 0).1 == 45)
                (k false)
                (draymanref02_Fit_l0_run draymanref02_Runes draymanref02_Rune
                  (fun x7 =>
                    (k x7))
                  ((k true))
                  1000 r2 0))
              none)
            (k false))
          (k false))
        (k false))))

noncomputable def draymanref02_Fit {α : Type} : draymanref02_Fit_T α := draymanref02_Fit_g draymanref02_Runes draymanref02_Rune

noncomputable def draymanref02_Fit_sp {α : Type} (draymanref02_Fit : draymanref02_Fit_T α) : FunSpec α := ⟨53, [.str], [], fun ds k => draymanref02_Fit (hdS ds) (fun r1 => k (enc dep (.bool) [.b r1]).1 [])⟩

noncomputable def draymanref02_Fit_spec {α : Type} : FunSpec α := draymanref02_Fit_sp draymanref02_Fit

noncomputable def draymanref02_Fit_C {α : Type} (draymanref02_Runes : draymanref02_Runes_T α) (draymanref02_Rune : draymanref02_Rune_T α) : List (FunSpec α) := [draymanref02_Runes_sp draymanref02_Runes, draymanref02_Rune_sp draymanref02_Rune]

noncomputable def draymanref02_Fit_q : FuncId → Bool := fun f => Nat.beq f 94

noncomputable def draymanref02_Fit_inl : FuncId → Bool := fun f => false

noncomputable def draymanref02_Fit_ann : FuncId → AnnT := fun f p => if f = 53 then (if p = [true, false, true, true, true, true] then ⟨[3, 5], [], [], [2], 0, [], [], none⟩ else ⟨[], [], [], [], 0, [], [], none⟩) else ⟨[], [], [], [], 0, [], [], none⟩

noncomputable def draymanref02_Fit_l0_t : List Sh := [.dead, .dead, .dead, .sl (.int .i64 (.nil)), .dead, .int .i64, .dead, .dead, .dead, .dead, .dead, .dead, .dead, .dead, .dead, .dead, .dead, .dead, .dead, .dead, .dead, .dead, .dead, .dead, .dead, .dead, .dead, .dead, .dead, .dead, .dead, .dead, .dead, .dead, .dead, .dead, .dead, .dead, .dead, .dead, .dead, .dead, .dead, .dead]
noncomputable def draymanref02_Fit_l0_s : List (List Sh) := []
noncomputable def draymanref02_Fit_l0_h : List BSh := []

noncomputable def draymanref02_Fit_l0_spec {α : Type} (draymanref02_Runes : draymanref02_Runes_T α) (draymanref02_Rune : draymanref02_Rune_T α) : LoopSpec α := ⟨6, 53, [true, false, true, true, true, true], draymanref02_Fit_l0_t, draymanref02_Fit_l0_s, draymanref02_Fit_l0_h, fun ds k => draymanref02_Fit_l0_run draymanref02_Runes draymanref02_Rune (fun y1 => k .ret (encSt [.dead, .dead, .bool, .dead, .dead, .dead, .dead, .dead, .dead, .dead, .dead, .dead, .dead, .dead, .dead, .dead, .dead, .dead, .dead, .dead, .dead, .dead, .dead, .dead, .dead, .dead, .dead, .dead, .dead, .dead, .dead, .dead, .dead, .dead, .dead, .dead, .dead, .dead, .dead, .dead, .dead, .dead, .dead, .dead] [] [] [.b y1])) (k (.exit 0) (encSt [.dead, .dead, .dead, .dead, .dead, .dead, .dead, .dead, .dead, .dead, .dead, .dead, .dead, .dead, .dead, .dead, .dead, .dead, .dead, .dead, .dead, .dead, .dead, .dead, .dead, .dead, .dead, .dead, .dead, .dead, .dead, .dead, .dead, .dead, .dead, .dead, .dead, .dead, .dead, .dead, .dead, .dead, .dead, .dead] [] [] [])) 1000 (hdQ (.int .i64 (.nil)) ds) (hdI ds.tail)⟩

noncomputable def draymanref02_Fit_loops {α : Type} (draymanref02_Runes : draymanref02_Runes_T α) (draymanref02_Rune : draymanref02_Rune_T α) : List (LoopSpec α) := [draymanref02_Fit_l0_spec draymanref02_Runes draymanref02_Rune]

noncomputable def draymanref02_Fit_l0_ev {α : Type} (draymanref02_Runes : draymanref02_Runes_T α) (draymanref02_Rune : draymanref02_Rune_T α) (n : Nat) (st : St) (k : X → St → Option α) : Option α := loopN (evCode Go.Proofs.Tryd.prog (callD Go.Proofs.Tryd.prog (envOf (draymanref02_Fit_C draymanref02_Runes draymanref02_Rune) draymanref02_Fit_q draymanref02_Fit_inl 1000 draymanref02_Fit_ann false (draymanref02_Fit_loops draymanref02_Runes draymanref02_Rune) (fun _ => none)) 6) (((envOf (draymanref02_Fit_C draymanref02_Runes draymanref02_Rune) draymanref02_Fit_q draymanref02_Fit_inl 1000 draymanref02_Fit_ann false (draymanref02_Fit_loops draymanref02_Runes draymanref02_Rune) (fun _ => none)) : Env α).L 6 53) 1000 (draymanref02_Fit_ann 53) (false :: [true, false, true, true, true, true]) (loopC Go.Proofs.Tryd.prog 53 [true, false, true, true, true, true])) ((draymanref02_Fit_ann 53 [true, false, true, true, true, true]).head 0) ((draymanref02_Fit_ann 53 [true, false, true, true, true, true]).leave 0) n st k

theorem draymanref02_Fit_l0_eq {α : Type} (draymanref02_Runes : draymanref02_Runes_T α) (draymanref02_Rune : draymanref02_Rune_T α) : ∀ (n : Nat) (l4 : Seq (Int × Unit)) (i5 : Int) (k : X → St → Option α), draymanref02_Fit_l0_ev draymanref02_Runes draymanref02_Rune n (encSt draymanref02_Fit_l0_t draymanref02_Fit_l0_s draymanref02_Fit_l0_h [.q (.int .i64 (.nil)) l4, .i i5]) k = draymanref02_Fit_l0_run draymanref02_Runes draymanref02_Rune (fun y1 => k .ret (encSt [.dead, .dead, .bool, .dead, .dead, .dead, .dead, .dead, .dead, .dead, .dead, .dead, .dead, .dead, .dead, .dead, .dead, .dead, .dead, .dead, .dead, .dead, .dead, .dead, .dead, .dead, .dead, .dead, .dead, .dead, .dead, .dead, .dead, .dead, .dead, .dead, .dead, .dead, .dead, .dead, .dead, .dead, .dead, .dead] [] [] [.b y1])) (k (.exit 0) (encSt [.dead, .dead, .dead, .dead, .dead, .dead, .dead, .dead, .dead, .dead, .dead, .dead, .dead, .dead, .dead, .dead, .dead, .dead, .dead, .dead, .dead, .dead, .dead, .dead, .dead, .dead, .dead, .dead, .dead, .dead, .dead, .dead, .dead, .dead, .dead, .dead, .dead, .dead, .dead, .dead, .dead, .dead, .dead, .dead] [] [] [])) n l4 i5 := by
  intro n
  induction n with
  | zero => intros; kernel_rfl
  | succ n ih =>
    intro l4 i5 k
    have e : (fun (l4 : Seq (Int × Unit)) (i5 : Int) => draymanref02_Fit_l0_ev draymanref02_Runes draymanref02_Rune n (encSt draymanref02_Fit_l0_t draymanref02_Fit_l0_s draymanref02_Fit_l0_h [.q (.int .i64 (.nil)) l4, .i i5]) k) = (fun (l4 : Seq (Int × Unit)) (i5 : Int) => draymanref02_Fit_l0_run draymanref02_Runes draymanref02_Rune (fun y1 => k .ret (encSt [.dead, .dead, .bool, .dead, .dead, .dead, .dead, .dead, .dead, .dead, .dead, .dead, .dead, .dead, .dead, .dead, .dead, .dead, .dead, .dead, .dead, .dead, .dead, .dead, .dead, .dead, .dead, .dead, .dead, .dead, .dead, .dead, .dead, .dead, .dead, .dead, .dead, .dead, .dead, .dead, .dead, .dead, .dead, .dead] [] [] [.b y1])) (k (.exit 0) (encSt [.dead, .dead, .dead, .dead, .dead, .dead, .dead, .dead, .dead, .dead, .dead, .dead, .dead, .dead, .dead, .dead, .dead, .dead, .dead, .dead, .dead, .dead, .dead, .dead, .dead, .dead, .dead, .dead, .dead, .dead, .dead, .dead, .dead, .dead, .dead, .dead, .dead, .dead, .dead, .dead, .dead, .dead, .dead, .dead] [] [] [])) n l4 i5) := by
      funext l4 i5
      exact ih l4 i5 k
    have h1 : draymanref02_Fit_l0_ev draymanref02_Runes draymanref02_Rune (n + 1) (encSt draymanref02_Fit_l0_t draymanref02_Fit_l0_s draymanref02_Fit_l0_h [.q (.int .i64 (.nil)) l4, .i i5]) k = draymanref02_Fit_l0_step draymanref02_Runes draymanref02_Rune (fun y1 => k .ret (encSt [.dead, .dead, .bool, .dead, .dead, .dead, .dead, .dead, .dead, .dead, .dead, .dead, .dead, .dead, .dead, .dead, .dead, .dead, .dead, .dead, .dead, .dead, .dead, .dead, .dead, .dead, .dead, .dead, .dead, .dead, .dead, .dead, .dead, .dead, .dead, .dead, .dead, .dead, .dead, .dead, .dead, .dead, .dead, .dead] [] [] [.b y1])) (k (.exit 0) (encSt [.dead, .dead, .dead, .dead, .dead, .dead, .dead, .dead, .dead, .dead, .dead, .dead, .dead, .dead, .dead, .dead, .dead, .dead, .dead, .dead, .dead, .dead, .dead, .dead, .dead, .dead, .dead, .dead, .dead, .dead, .dead, .dead, .dead, .dead, .dead, .dead, .dead, .dead, .dead, .dead, .dead, .dead, .dead, .dead] [] [] [])) (fun (l4 : Seq (Int × Unit)) (i5 : Int) => draymanref02_Fit_l0_ev draymanref02_Runes draymanref02_Rune n (encSt draymanref02_Fit_l0_t draymanref02_Fit_l0_s draymanref02_Fit_l0_h [.q (.int .i64 (.nil)) l4, .i i5]) k) l4 i5 := by kernel_rfl
    have h2 := congrArg (fun r => draymanref02_Fit_l0_step draymanref02_Runes draymanref02_Rune (fun y1 => k .ret (encSt [.dead, .dead, .bool, .dead, .dead, .dead, .dead, .dead, .dead, .dead, .dead, .dead, .dead, .dead, .dead, .dead, .dead, .dead, .dead, .dead, .dead, .dead, .dead, .dead, .dead, .dead, .dead, .dead, .dead, .dead, .dead, .dead, .dead, .dead, .dead, .dead, .dead, .dead, .dead, .dead, .dead, .dead, .dead, .dead] [] [] [.b y1])) (k (.exit 0) (encSt [.dead, .dead, .dead, .dead, .dead, .dead, .dead, .dead, .dead, .dead, .dead, .dead, .dead, .dead, .dead, .dead, .dead, .dead, .dead, .dead, .dead, .dead, .dead, .dead, .dead, .dead, .dead, .dead, .dead, .dead, .dead, .dead, .dead, .dead, .dead, .dead, .dead, .dead, .dead, .dead, .dead, .dead, .dead, .dead] [] [] [])) r l4 i5) e
    have h3 : draymanref02_Fit_l0_step draymanref02_Runes draymanref02_Rune (fun y1 => k .ret (encSt [.dead, .dead, .bool, .dead, .dead, .dead, .dead, .dead, .dead, .dead, .dead, .dead, .dead, .dead, .dead, .dead, .dead, .dead, .dead, .dead, .dead, .dead, .dead, .dead, .dead, .dead, .dead, .dead, .dead, .dead, .dead, .dead, .dead, .dead, .dead, .dead, .dead, .dead, .dead, .dead, .dead, .dead, .dead, .dead] [] [] [.b y1])) (k (.exit 0) (encSt [.dead, .dead, .dead, .dead, .dead, .dead, .dead, .dead, .dead, .dead, .dead, .dead, .dead, .dead, .dead, .dead, .dead, .dead, .dead, .dead, .dead, .dead, .dead, .dead, .dead, .dead, .dead, .dead, .dead, .dead, .dead, .dead, .dead, .dead, .dead, .dead, .dead, .dead, .dead, .dead, .dead, .dead, .dead, .dead] [] [] [])) (fun (l4 : Seq (Int × Unit)) (i5 : Int) => draymanref02_Fit_l0_run draymanref02_Runes draymanref02_Rune (fun y1 => k .ret (encSt [.dead, .dead, .bool, .dead, .dead, .dead, .dead, .dead, .dead, .dead, .dead, .dead, .dead, .dead, .dead, .dead, .dead, .dead, .dead, .dead, .dead, .dead, .dead, .dead, .dead, .dead, .dead, .dead, .dead, .dead, .dead, .dead, .dead, .dead, .dead, .dead, .dead, .dead, .dead, .dead, .dead, .dead, .dead, .dead] [] [] [.b y1])) (k (.exit 0) (encSt [.dead, .dead, .dead, .dead, .dead, .dead, .dead, .dead, .dead, .dead, .dead, .dead, .dead, .dead, .dead, .dead, .dead, .dead, .dead, .dead, .dead, .dead, .dead, .dead, .dead, .dead, .dead, .dead, .dead, .dead, .dead, .dead, .dead, .dead, .dead, .dead, .dead, .dead, .dead, .dead, .dead, .dead, .dead, .dead] [] [] [])) n l4 i5) l4 i5 = draymanref02_Fit_l0_run draymanref02_Runes draymanref02_Rune (fun y1 => k .ret (encSt [.dead, .dead, .bool, .dead, .dead, .dead, .dead, .dead, .dead, .dead, .dead, .dead, .dead, .dead, .dead, .dead, .dead, .dead, .dead, .dead, .dead, .dead, .dead, .dead, .dead, .dead, .dead, .dead, .dead, .dead, .dead, .dead, .dead, .dead, .dead, .dead, .dead, .dead, .dead, .dead, .dead, .dead, .dead, .dead] [] [] [.b y1])) (k (.exit 0) (encSt [.dead, .dead, .dead, .dead, .dead, .dead, .dead, .dead, .dead, .dead, .dead, .dead, .dead, .dead, .dead, .dead, .dead, .dead, .dead, .dead, .dead, .dead, .dead, .dead, .dead, .dead, .dead, .dead, .dead, .dead, .dead, .dead, .dead, .dead, .dead, .dead, .dead, .dead, .dead, .dead, .dead, .dead, .dead, .dead] [] [] [])) (n + 1) l4 i5 := by kernel_rfl
    exact h1.trans (h2.trans h3)

theorem draymanref02_Fit_l0_ok {α : Type} (draymanref02_Runes : draymanref02_Runes_T α) (draymanref02_Rune : draymanref02_Rune_T α) : (draymanref02_Fit_l0_spec draymanref02_Runes draymanref02_Rune : LoopSpec α).ok Go.Proofs.Tryd.prog (envOf (draymanref02_Fit_C draymanref02_Runes draymanref02_Rune) draymanref02_Fit_q draymanref02_Fit_inl 1000 draymanref02_Fit_ann false (draymanref02_Fit_loops draymanref02_Runes draymanref02_Rune) (fun _ => none)) := by
  intro ds k
  have h1 : draymanref02_Fit_l0_ev draymanref02_Runes draymanref02_Rune 1000 (encSt draymanref02_Fit_l0_t draymanref02_Fit_l0_s draymanref02_Fit_l0_h ds) k = draymanref02_Fit_l0_ev draymanref02_Runes draymanref02_Rune 1000 (encSt draymanref02_Fit_l0_t draymanref02_Fit_l0_s draymanref02_Fit_l0_h [.q (.int .i64 (.nil)) (hdQ (.int .i64 (.nil)) ds), .i (hdI ds.tail)]) k := by kernel_rfl
  have h2 := draymanref02_Fit_l0_eq draymanref02_Runes draymanref02_Rune 1000 (hdQ (.int .i64 (.nil)) ds) (hdI ds.tail) k
  exact h1.trans h2

theorem draymanref02_Fit_ev {α : Type} (draymanref02_Runes : draymanref02_Runes_T α) (draymanref02_Rune : draymanref02_Rune_T α) : EvOk (α := α) Go.Proofs.Tryd.prog (envOf (draymanref02_Fit_C draymanref02_Runes draymanref02_Rune) draymanref02_Fit_q draymanref02_Fit_inl 1000 draymanref02_Fit_ann false (draymanref02_Fit_loops draymanref02_Runes draymanref02_Rune) (fun _ => none)) 6 (draymanref02_Fit_sp (draymanref02_Fit_g draymanref02_Runes draymanref02_Rune)) := by intro ds k; kernel_rfl

theorem draymanref02_Fit_ok {α : Type} : (draymanref02_Fit_spec : FunSpec α).ok Go.Proofs.Tryd.prog :=
  FunSpec.ok_of (sp := draymanref02_Fit_spec) (C := draymanref02_Fit_C draymanref02_Runes draymanref02_Rune) (q := draymanref02_Fit_q) (inl := draymanref02_Fit_inl) (N := 1000) (ann := draymanref02_Fit_ann) (fr := false) (D := 6) (l := (draymanref02_Fit_loops draymanref02_Runes draymanref02_Rune)) (hk := (fun _ => none)) (okCons draymanref02_Runes_ok (okCons draymanref02_Rune_ok okNil)) (lokCons (draymanref02_Fit_l0_ok draymanref02_Runes draymanref02_Rune) lokNil) noHooks (draymanref02_Fit_ev draymanref02_Runes draymanref02_Rune)

end
end Go.Rv.Tryd

set_option linter.unusedVariables false
set_option maxRecDepth 100000
set_option maxHeartbeats 4000000
namespace Go.Rv.Tryd
open Go Go.Rv Go.RowKit
noncomputable section

-- drayman/draymanref11.Fit

abbrev draymanref11_Fit_T (α : Type) : Type := (Seq (ByteArray × Int × Unit)) → (Bool → Option α) → Option α

noncomputable def draymanref11_Fit_l0_step {α : Type} (draymanref02_Fit : draymanref02_Fit_T α) (kr : (Bool) → Option α) (k0 : Option α) (rec : (Seq (ByteArray × Int × Unit)) → (Int) → Option α) (l2 : Seq (ByteArray × Int × Unit)) (i3 : Int) : Option α :=
  (cond (decide (i3 < (l2.n : Int)))
    (cond (((decide ((0 : Int) ≤ i3)) && (decide (i3 < (l2.n : Int)))) && ((decide ((0 : Int) ≤ i3)) && (decide (i3 < (l2.n : Int)))))
      (draymanref02_Fit ((l2.g i3.toNat).1) fun r4 =>
        (cond (!(!r4))
          (cond (((decide ((0 : Int) ≤ i3)) && (decide (i3 < (l2.n : Int)))) && ((decide ((0 : Int) ≤ i3)) && (decide (i3 < (l2.n : Int)))))
            (cond (!(decide ((l2.g i3.toNat).2.1 < 1)))
              (cond (((decide ((0 : Int) ≤ i3)) && (decide (i3 < (l2.n : Int)))) && ((decide ((0 : Int) ≤ i3)) && (decide (i3 < (l2.n : Int)))))
                (cond (!(decide ((l2.g i3.toNat).2.1 > 1048576)))
                  (cond (decide (i3 > 0))
                    (cond (((decide ((0 : Int) ≤ i3)) && (decide (i3 < (l2.n : Int)))) && ((decide ((0 : Int) ≤ i3)) && (decide (i3 < (l2.n : Int)))))
                      (cond (((decide ((0 : Int) ≤ (IntKind.i64.wrap (i3 - 1)))) && (decide ((IntKind.i64.wrap (i3 - 1)) < (l2.n : Int)))) && ((decide ((0 : Int) ≤ (IntKind.i64.wrap (i3 - 1)))) && (decide ((IntKind.i64.wrap (i3 - 1)) < (l2.n : Int)))))
                        (cond ((Op.bytesLess (l2.g i3.toNat).1.toList (l2.g (IntKind.i64.wrap (i3 - 1)).toNat).1.toList) || ((l2.g i3.toNat).1.toList == (l2.g (IntKind.i64.wrap (i3 - 1)).toNat).1.toList))
                          (kr false)
                          (rec l2 (IntKind.i64.wrap (i3 + 1))))
                        none)
                      none)
                    (rec l2 (IntKind.i64.wrap (i3 + 1))))
                  (kr false))
                none)
              (kr false))
            none)
          (kr false)))
      none)
    (k0))

noncomputable def draymanref11_Fit_l0_run {α : Type} (draymanref02_Fit : draymanref02_Fit_T α) (kr : (Bool) → Option α) (k0 : Option α) : Nat → (Seq (ByteArray × Int × Unit)) → (Int) → Option α
  | 0, _, _ => none
  | n + 1, l2, i3 => draymanref11_Fit_l0_step draymanref02_Fit kr k0 (fun l2 i3 => draymanref11_Fit_l0_run draymanref02_Fit kr k0 n l2 i3) l2 i3

noncomputable def draymanref11_Fit_g {α : Type} (draymanref02_Fit : draymanref02_Fit_T α) (l1 : Seq (ByteArray × Int × Unit)) (k : Bool → Option α) : Option α :=
  (cond (decide ((l1.n : Int) > 4))
    (k false)
    (draymanref11_Fit_l0_run draymanref02_Fit
      (fun x5 =>
        (k x5))
      ((k true))
      1000 l1 0))

noncomputable def draymanref11_Fit {α : Type} : draymanref11_Fit_T α := draymanref11_Fit_g draymanref02_Fit

noncomputable def draymanref11_Fit_sp {α : Type} (draymanref11_Fit : draymanref11_Fit_T α) : FunSpec α := ⟨103, [.sl (.str (.int .i64 (.nil)))], [], fun ds k => draymanref11_Fit (hdQ (.str (.int .i64 (.nil))) ds) (fun r1 => k (enc dep (.bool) [.b r1]).1 [])⟩

noncomputable def draymanref11_Fit_spec {α : Type} : FunSpec α := draymanref11_Fit_sp draymanref11_Fit

noncomputable def draymanref11_Fit_C {α : Type} (draymanref02_Fit : draymanref02_Fit_T α) : List (FunSpec α) := [draymanref02_Fit_sp draymanref02_Fit]

noncomputable def draymanref11_Fit_q : FuncId → Bool := fun f => Nat.beq f 53

noncomputable def draymanref11_Fit_inl : FuncId → Bool := fun f => false

noncomputable def draymanref11_Fit_ann : FuncId → AnnT := fun f p => if f = 103 then (if p = [true, false, true, true] then ⟨[0, 3], [], [], [2], 0, [], [], none⟩ else ⟨[], [], [], [], 0, [], [], none⟩) else ⟨[], [], [], [], 0, [], [], none⟩

noncomputable def draymanref11_Fit_l0_t : List Sh := [.sl (.str (.int .i64 (.nil))), .dead, .dead, .int .i64, .dead, .dead, .dead, .dead, .dead, .dead, .dead, .dead, .dead, .dead, .dead, .dead, .dead, .dead, .dead, .dead, .dead, .dead, .dead, .dead, .dead, .dead, .dead, .dead, .dead, .dead, .dead, .dead, .dead, .dead, .dead, .dead, .dead, .dead, .dead, .dead, .dead, .dead, .dead, .dead, .dead, .dead, .dead, .dead, .dead, .dead, .dead, .dead, .dead, .dead]
noncomputable def draymanref11_Fit_l0_s : List (List Sh) := []
noncomputable def draymanref11_Fit_l0_h : List BSh := []

noncomputable def draymanref11_Fit_l0_spec {α : Type} (draymanref02_Fit : draymanref02_Fit_T α) : LoopSpec α := ⟨6, 103, [true, false, true, true], draymanref11_Fit_l0_t, draymanref11_Fit_l0_s, draymanref11_Fit_l0_h, fun ds k => draymanref11_Fit_l0_run draymanref02_Fit (fun y1 => k .ret (encSt [.dead, .dead, .bool, .dead, .dead, .dead, .dead, .dead, .dead, .dead, .dead, .dead, .dead, .dead, .dead, .dead, .dead, .dead, .dead, .dead, .dead, .dead, .dead, .dead, .dead, .dead, .dead, .dead, .dead, .dead, .dead, .dead, .dead, .dead, .dead, .dead, .dead, .dead, .dead, .dead, .dead, .dead, .dead, .dead, .dead, .dead, .dead, .dead, .dead, .dead, .dead, .dead, .dead, .dead] [] [] [.b y1])) (k (.exit 0) (encSt [.dead, .dead, .dead, .dead, .dead, .dead, .dead, .dead, .dead, .dead, .dead, .dead, .dead, .dead, .dead, .dead, .dead, .dead, .dead, .dead, .dead, .dead, .dead, .dead, .dead, .dead, .dead, .dead, .dead, .dead, .dead, .dead, .dead, .dead, .dead, .dead, .dead, .dead, .dead, .dead, .dead, .dead, .dead, .dead, .dead, .dead, .dead, .dead, .dead, .dead, .dead, .dead, .dead, .dead] [] [] [])) 1000 (hdQ (.str (.int .i64 (.nil))) ds) (hdI ds.tail)⟩

noncomputable def draymanref11_Fit_loops {α : Type} (draymanref02_Fit : draymanref02_Fit_T α) : List (LoopSpec α) := [draymanref11_Fit_l0_spec draymanref02_Fit]

noncomputable def draymanref11_Fit_l0_ev {α : Type} (draymanref02_Fit : draymanref02_Fit_T α) (n : Nat) (st : St) (k : X → St → Option α) : Option α := loopN (evCode Go.Proofs.Tryd.prog (callD Go.Proofs.Tryd.prog (envOf (draymanref11_Fit_C draymanref02_Fit) draymanref11_Fit_q draymanref11_Fit_inl 1000 draymanref11_Fit_ann false (draymanref11_Fit_loops draymanref02_Fit) (fun _ => none)) 6) (((envOf (draymanref11_Fit_C draymanref02_Fit) draymanref11_Fit_q draymanref11_Fit_inl 1000 draymanref11_Fit_ann false (draymanref11_Fit_loops draymanref02_Fit) (fun _ => none)) : Env α).L 6 103) 1000 (draymanref11_Fit_ann 103) (false :: [true, false, true, true]) (loopC Go.Proofs.Tryd.prog 103 [true, false, true, true])) ((draymanref11_Fit_ann 103 [true, false, true, true]).head 0) ((draymanref11_Fit_ann 103 [true, false, true, true]).leave 0) n st k

theorem draymanref11_Fit_l0_eq {α : Type} (draymanref02_Fit : draymanref02_Fit_T α) : ∀ (n : Nat) (l2 : Seq (ByteArray × Int × Unit)) (i3 : Int) (k : X → St → Option α), draymanref11_Fit_l0_ev draymanref02_Fit n (encSt draymanref11_Fit_l0_t draymanref11_Fit_l0_s draymanref11_Fit_l0_h [.q (.str (.int .i64 (.nil))) l2, .i i3]) k = draymanref11_Fit_l0_run draymanref02_Fit (fun y1 => k .ret (encSt [.dead, .dead, .bool, .dead, .dead, .dead, .dead, .dead, .dead, .dead, .dead, .dead, .dead, .dead, .dead, .dead, .dead, .dead, .dead, .dead, .dead, .dead, .dead, .dead, .dead, .dead, .dead, .dead, .dead, .dead, .dead, .dead, .dead, .dead, .dead, .dead, .dead, .dead, .dead, .dead, .dead, .dead, .dead, .dead, .dead, .dead, .dead, .dead, .dead, .dead, .dead, .dead, .dead, .dead] [] [] [.b y1])) (k (.exit 0) (encSt [.dead, .dead, .dead, .dead, .dead, .dead, .dead, .dead, .dead, .dead, .dead, .dead, .dead, .dead, .dead, .dead, .dead, .dead, .dead, .dead, .dead, .dead, .dead, .dead, .dead, .dead, .dead, .dead, .dead, .dead, .dead, .dead, .dead, .dead, .dead, .dead, .dead, .dead, .dead, .dead, .dead, .dead, .dead, .dead, .dead, .dead, .dead, .dead, .dead, .dead, .dead, .dead, .dead, .dead] [] [] [])) n l2 i3 := by
  intro n
  induction n with
  | zero => intros; kernel_rfl
  | succ n ih =>
    intro l2 i3 k
    have e : (fun (l2 : Seq (ByteArray × Int × Unit)) (i3 : Int) => draymanref11_Fit_l0_ev draymanref02_Fit n (encSt draymanref11_Fit_l0_t draymanref11_Fit_l0_s draymanref11_Fit_l0_h [.q (.str (.int .i64 (.nil))) l2, .i i3]) k) = (fun (l2 : Seq (ByteArray × Int × Unit)) (i3 : Int) => draymanref11_Fit_l0_run draymanref02_Fit (fun y1 => k .ret (encSt [.dead, .dead, .bool, .dead, .dead, .dead, .dead, .dead, .dead, .dead, .dead, .dead, .dead, .dead, .dead, .dead, .dead, .dead, .dead, .dead, .dead, .dead, .dead, .dead, .dead, .dead, .dead, .dead, .dead, .dead, .dead, .dead, .dead, .dead, .dead, .dead, .dead, .dead, .dead, .dead, .dead, .dead, .dead, .dead, .dead, .dead, .dead, .dead, .dead, .dead, .dead, .dead, .dead, .dead] [] [] [.b y1])) (k (.exit 0) (encSt [.dead, .dead, .dead, .dead, .dead, .dead, .dead, .dead, .dead, .dead, .dead, .dead, .dead, .dead, .dead, .dead, .dead, .dead, .dead, .dead, .dead, .dead, .dead, .dead, .dead, .dead, .dead, .dead, .dead, .dead, .dead, .dead, .dead, .dead, .dead, .dead, .dead, .dead, .dead, .dead, .dead, .dead, .dead, .dead, .dead, .dead, .dead, .dead, .dead, .dead, .dead, .dead, .dead, .dead] [] [] [])) n l2 i3) := by
      funext l2 i3
      exact ih l2 i3 k
    have h1 : draymanref11_Fit_l0_ev draymanref02_Fit (n + 1) (encSt draymanref11_Fit_l0_t draymanref11_Fit_l0_s draymanref11_Fit_l0_h [.q (.str (.int .i64 (.nil))) l2, .i i3]) k = draymanref11_Fit_l0_step draymanref02_Fit (fun y1 => k .ret (encSt [.dead, .dead, .bool, .dead, .dead, .dead, .dead, .dead, .dead, .dead, .dead, .dead, .dead, .dead, .dead, .dead, .dead, .dead, .dead, .dead, .dead, .dead, .dead, .dead, .dead, .dead, .dead, .dead, .dead, .dead, .dead, .dead, .dead, .dead, .dead, .dead, .dead, .dead, .dead, .dead, .dead, .dead, .dead, .dead, .dead, .dead, .dead, .dead, .dead, .dead, .dead, .dead, .dead, .dead] [] [] [.b y1])) (k (.exit 0) (encSt [.dead, .dead, .dead, .dead, .dead, .dead, .dead, .dead, .dead, .dead, .dead, .dead, .dead, .dead, .dead, .dead, .dead, .dead, .dead, .dead, .dead, .dead, .dead, .dead, .dead, .dead, .dead, .dead, .dead, .dead, .dead, .dead, .dead, .dead, .dead, .dead, .dead, .dead, .dead, .dead, .dead, .dead, .dead, .dead, .dead, .dead, .dead, .dead, .dead, .dead, .dead, .dead, .dead, .dead] [] [] [])) (fun (l2 : Seq (ByteArray × Int × Unit)) (i3 : Int) => draymanref11_Fit_l0_ev draymanref02_Fit n (encSt draymanref11_Fit_l0_t draymanref11_Fit_l0_s draymanref11_Fit_l0_h [.q (.str (.int .i64 (.nil))) l2, .i i3]) k) l2 i3 := by kernel_rfl
    have h2 := congrArg (fun r => draymanref11_Fit_l0_step draymanref02_Fit (fun y1 => k .ret (encSt [.dead, .dead, .bool, .dead, .dead, .dead, .dead, .dead, .dead, .dead, .dead, .dead, .dead, .dead, .dead, .dead, .dead, .dead, .dead, .dead, .dead, .dead, .dead, .dead, .dead, .dead, .dead, .dead, .dead, .dead, .dead, .dead, .dead, .dead, .dead, .dead, .dead, .dead, .dead, .dead, .dead, .dead, .dead, .dead, .dead, .dead, .dead, .dead, .dead, .dead, .dead, .dead, .dead, .dead] [] [] [.b y1])) (k (.exit 0) (encSt [.dead, .dead, .dead, .dead, .dead, .dead, .dead, .dead, .dead, .dead, .dead, .dead, .dead, .dead, .dead, .dead, .dead, .dead, .dead, .dead, .dead, .dead, .dead, .dead, .dead, .dead, .dead, .dead, .dead, .dead, .dead, .dead, .dead, .dead, .dead, .dead, .dead, .dead, .dead, .dead, .dead, .dead, .dead, .dead, .dead, .dead, .dead, .dead, .dead, .dead, .dead, .dead, .dead, .dead] [] [] [])) r l2 i3) e
    have h3 : draymanref11_Fit_l0_step draymanref02_Fit (fun y1 => k .ret (encSt [.dead, .dead, .bool, .dead, .dead, .dead, .dead, .dead, .dead, .dead, .dead, .dead, .dead, .dead, .dead, .dead, .dead, .dead, .dead, .dead, .dead, .dead, .dead, .dead, .dead, .dead, .dead, .dead, .dead, .dead, .dead, .dead, .dead, .dead, .dead, .dead, .dead, .dead, .dead, .dead, .dead, .dead, .dead, .dead, .dead, .dead, .dead, .dead, .dead, .dead, .dead, .dead, .dead, .dead] [] [] [.b y1])) (k (.exit 0) (encSt [.dead, .dead, .dead, .dead, .dead, .dead, .dead, .dead, .dead, .dead, .dead, .dead, .dead, .dead, .dead, .dead, .dead, .dead, .dead, .dead, .dead, .dead, .dead, .dead, .dead, .dead, .dead, .dead, .dead, .dead, .dead, .dead, .dead, .dead, .dead, .dead, .dead, .dead, .dead, .dead, .dead, .dead, .dead, .dead, .dead, .dead, .dead, .dead, .dead, .dead, .dead, .dead, .dead, .dead] [] [] [])) (fun (l2 : Seq (ByteArray × Int × Unit)) (i3 : Int) => draymanref11_Fit_l0_run draymanref02_Fit (fun y1 => k .ret (encSt [.dead, .dead, .bool, .dead, .dead, .dead, .dead, .dead, .dead, .dead, .dead, .dead, .dead, .dead, .dead, .dead, .dead, .dead, .dead, .dead, .dead, .dead, .dead, .dead, .dead, .dead, .dead, .dead, .dead, .dead, .dead, .dead, .dead, .dead, .dead, .dead, .dead, .dead, .dead, .dead, .dead, .dead, .dead, .dead, .dead, .dead, .dead, .dead, .dead, .dead, .dead, .dead, .dead, .dead] [] [] [.b y1])) (k (.exit 0) (encSt [.dead, .dead, .dead, .dead, .dead, .dead, .dead, .dead, .dead, .dead, .dead, .dead, .dead, .dead, .dead, .dead, .dead, .dead, .dead, .dead, .dead, .dead, .dead, .dead, .dead, .dead, .dead, .dead, .dead, .dead, .dead, .dead, .dead, .dead, .dead, .dead, .dead, .dead, .dead, .dead, .dead, .dead, .dead, .dead, .dead, .dead, .dead, .dead, .dead, .dead, .dead, .dead, .dead, .dead] [] [] [])) n l2 i3) l2 i3 = draymanref11_Fit_l0_run draymanref02_Fit (fun y1 => k .ret (encSt [.dead, .dead, .bool, .dead, .dead, .dead, .dead, .dead, .dead, .dead, .dead, .dead, .dead, .dead, .dead, .dead, .dead, .dead, .dead, .dead, .dead, .dead, .dead, .dead, .dead, .dead, .dead, .dead, .dead, .dead, .dead, .dead, .dead, .dead, .dead, .dead, .dead, .dead, .dead, .dead, .dead, .dead, .dead, .dead, .dead, .dead, .dead, .dead, .dead, .dead, .dead, .dead, .dead, .dead] [] [] [.b y1])) (k (.exit 0) (encSt [.dead, .dead, .dead, .dead, .dead, .dead, .dead, .dead, .dead, .dead, .dead, .dead, .dead, .dead, .dead, .dead, .dead, .dead, .dead, .dead, .dead, .dead, .dead, .dead, .dead, .dead, .dead, .dead, .dead, .dead, .dead, .dead, .dead, .dead, .dead, .dead, .dead, .dead, .dead, .dead, .dead, .dead, .dead, .dead, .dead, .dead, .dead, .dead, .dead, .dead, .dead, .dead, .dead, .dead] [] [] [])) (n + 1) l2 i3 := by kernel_rfl
    exact h1.trans (h2.trans h3)

theorem draymanref11_Fit_l0_ok {α : Type} (draymanref02_Fit : draymanref02_Fit_T α) : (draymanref11_Fit_l0_spec draymanref02_Fit : LoopSpec α).ok Go.Proofs.Tryd.prog (envOf (draymanref11_Fit_C draymanref02_Fit) draymanref11_Fit_q draymanref11_Fit_inl 1000 draymanref11_Fit_ann false (draymanref11_Fit_loops draymanref02_Fit) (fun _ => none)) := by
  intro ds k
  have h1 : draymanref11_Fit_l0_ev draymanref02_Fit 1000 (encSt draymanref11_Fit_l0_t draymanref11_Fit_l0_s draymanref11_Fit_l0_h ds) k = draymanref11_Fit_l0_ev draymanref02_Fit 1000 (encSt draymanref11_Fit_l0_t draymanref11_Fit_l0_s draymanref11_Fit_l0_h [.q (.str (.int .i64 (.nil))) (hdQ (.str (.int .i64 (.nil))) ds), .i (hdI ds.tail)]) k := by kernel_rfl
  have h2 := draymanref11_Fit_l0_eq draymanref02_Fit 1000 (hdQ (.str (.int .i64 (.nil))) ds) (hdI ds.tail) k
  exact h1.trans h2

theorem draymanref11_Fit_ev {α : Type} (draymanref02_Fit : draymanref02_Fit_T α) : EvOk (α := α) Go.Proofs.Tryd.prog (envOf (draymanref11_Fit_C draymanref02_Fit) draymanref11_Fit_q draymanref11_Fit_inl 1000 draymanref11_Fit_ann false (draymanref11_Fit_loops draymanref02_Fit) (fun _ => none)) 6 (draymanref11_Fit_sp (draymanref11_Fit_g draymanref02_Fit)) := by intro ds k; kernel_rfl

theorem draymanref11_Fit_ok {α : Type} : (draymanref11_Fit_spec : FunSpec α).ok Go.Proofs.Tryd.prog :=
  FunSpec.ok_of (sp := draymanref11_Fit_spec) (C := draymanref11_Fit_C draymanref02_Fit) (q := draymanref11_Fit_q) (inl := draymanref11_Fit_inl) (N := 1000) (ann := draymanref11_Fit_ann) (fr := false) (D := 6) (l := (draymanref11_Fit_loops draymanref02_Fit)) (hk := (fun _ => none)) (okCons draymanref02_Fit_ok okNil) (lokCons (draymanref11_Fit_l0_ok draymanref02_Fit) lokNil) noHooks (draymanref11_Fit_ev draymanref02_Fit)

end
end Go.Rv.Tryd

set_option linter.unusedVariables false
set_option maxRecDepth 100000
set_option maxHeartbeats 4000000
namespace Go.Rv.Tryd
open Go Go.Rv Go.RowKit
noncomputable section

-- drayman/draymanref01.Fit

abbrev draymanref01_Fit_T (α : Type) : Type := Int → (Bool → Option α) → Option α

noncomputable def draymanref01_Fit {α : Type} (n1 : Int) (k : Bool → Option α) : Option α :=
  (cond (decide (n1 ≥ 0))
    (k (decide (n1 ≤ 1099511627776)))
    (k false))

noncomputable def draymanref01_Fit_sp {α : Type} (draymanref01_Fit : draymanref01_Fit_T α) : FunSpec α := ⟨59, [.int .i64], [], fun ds k => draymanref01_Fit (hdI ds) (fun r1 => k (enc dep (.bool) [.b r1]).1 [])⟩

noncomputable def draymanref01_Fit_spec {α : Type} : FunSpec α := draymanref01_Fit_sp draymanref01_Fit

noncomputable def draymanref01_Fit_C {α : Type} : List (FunSpec α) := []

noncomputable def draymanref01_Fit_q : FuncId → Bool := fun f => false

noncomputable def draymanref01_Fit_inl : FuncId → Bool := fun f => false

noncomputable def draymanref01_Fit_ann : FuncId → AnnT := fun f p => ⟨[], [], [], [], 0, [], [], none⟩

noncomputable def draymanref01_Fit_loops {α : Type} : List (LoopSpec α) := []

theorem draymanref01_Fit_ev {α : Type} : EvOk (α := α) Go.Proofs.Tryd.prog (envOf (draymanref01_Fit_C) draymanref01_Fit_q draymanref01_Fit_inl 1000 draymanref01_Fit_ann false (draymanref01_Fit_loops) (fun _ => none)) 6 (draymanref01_Fit_sp (draymanref01_Fit)) := by intro ds k; kernel_rfl

theorem draymanref01_Fit_ok {α : Type} : (draymanref01_Fit_spec : FunSpec α).ok Go.Proofs.Tryd.prog :=
  FunSpec.ok_of (sp := draymanref01_Fit_spec) (C := draymanref01_Fit_C) (q := draymanref01_Fit_q) (inl := draymanref01_Fit_inl) (N := 1000) (ann := draymanref01_Fit_ann) (fr := false) (D := 6) (l := (draymanref01_Fit_loops)) (hk := (fun _ => none)) okNil lokNil noHooks (draymanref01_Fit_ev)

end
end Go.Rv.Tryd

set_option linter.unusedVariables false
set_option maxRecDepth 100000
set_option maxHeartbeats 4000000
namespace Go.Rv.Tryd
open Go Go.Rv Go.RowKit
noncomputable section

-- drayman/draymanref13.One

abbrev draymanref13_One_T (α : Type) : Type := (Int × (Seq (ByteArray × Int × Unit)) × Int × Unit) → (Bool → Option α) → Option α

noncomputable def draymanref13_One_g {α : Type} (draymanref11_Fit : draymanref11_Fit_T α) (draymanref01_Fit : draymanref01_Fit_T α) (h1 : Int × (Seq (ByteArray × Int × Unit)) × Int × Unit) (k : Bool → Option α) : Option α :=
  (cond (decide (h1.1 ≥ 1))
    (cond (decide (h1.1 ≤ 1099511627776))
      (draymanref11_Fit h1.2.1 fun r2 =>
        (cond r2
          (cond (decide ((h1.2.1.n : Int) > 0))
            (draymanref01_Fit h1.2.2.1 fun r3 =>
              (k r3))
            (k false))
          (k false)))
      (k false))
    (k false))

noncomputable def draymanref13_One {α : Type} : draymanref13_One_T α := draymanref13_One_g draymanref11_Fit draymanref01_Fit

noncomputable def draymanref13_One_sp {α : Type} (draymanref13_One : draymanref13_One_T α) : FunSpec α := ⟨67, [.agg [.int .i64, .sl (.str (.int .i64 (.nil))), .int .i64]], [], fun ds k => draymanref13_One (hdI ds, hdQ (.str (.int .i64 (.nil))) ds.tail, hdI ds.tail.tail, ()) (fun r1 => k (enc dep (.bool) [.b r1]).1 [])⟩

noncomputable def draymanref13_One_spec {α : Type} : FunSpec α := draymanref13_One_sp draymanref13_One

noncomputable def draymanref13_One_C {α : Type} (draymanref11_Fit : draymanref11_Fit_T α) (draymanref01_Fit : draymanref01_Fit_T α) : List (FunSpec α) := [draymanref11_Fit_sp draymanref11_Fit, draymanref01_Fit_sp draymanref01_Fit]

noncomputable def draymanref13_One_q : FuncId → Bool := fun f => Nat.beq f 59 || Nat.beq f 103

noncomputable def draymanref13_One_inl : FuncId → Bool := fun f => false

noncomputable def draymanref13_One_ann : FuncId → AnnT := fun f p => ⟨[], [], [], [], 0, [], [], none⟩

noncomputable def draymanref13_One_loops {α : Type} (draymanref11_Fit : draymanref11_Fit_T α) (draymanref01_Fit : draymanref01_Fit_T α) : List (LoopSpec α) := []

theorem draymanref13_One_ev {α : Type} (draymanref11_Fit : draymanref11_Fit_T α) (draymanref01_Fit : draymanref01_Fit_T α) : EvOk (α := α) Go.Proofs.Tryd.prog (envOf (draymanref13_One_C draymanref11_Fit draymanref01_Fit) draymanref13_One_q draymanref13_One_inl 1000 draymanref13_One_ann false (draymanref13_One_loops draymanref11_Fit draymanref01_Fit) (fun _ => none)) 6 (draymanref13_One_sp (draymanref13_One_g draymanref11_Fit draymanref01_Fit)) := by intro ds k; kernel_rfl

theorem draymanref13_One_ok {α : Type} : (draymanref13_One_spec : FunSpec α).ok Go.Proofs.Tryd.prog :=
  FunSpec.ok_of (sp := draymanref13_One_spec) (C := draymanref13_One_C draymanref11_Fit draymanref01_Fit) (q := draymanref13_One_q) (inl := draymanref13_One_inl) (N := 1000) (ann := draymanref13_One_ann) (fr := false) (D := 6) (l := (draymanref13_One_loops draymanref11_Fit draymanref01_Fit)) (hk := (fun _ => none)) (okCons draymanref11_Fit_ok (okCons draymanref01_Fit_ok okNil)) lokNil noHooks (draymanref13_One_ev draymanref11_Fit draymanref01_Fit)

end
end Go.Rv.Tryd

set_option linter.unusedVariables false
set_option maxRecDepth 100000
set_option maxHeartbeats 4000000
namespace Go.Rv.Tryd
open Go Go.Rv Go.RowKit
noncomputable section

-- drayman/draymanref13.Fit

abbrev draymanref13_Fit_T (α : Type) : Type := (Seq (Int × (Seq (ByteArray × Int × Unit)) × Int × Unit)) → (Bool → Option α) → Option α

noncomputable def draymanref13_Fit_l0_step {α : Type} (draymanref13_One : draymanref13_One_T α) (kr : (Bool) → Option α) (k0 : Option α) (rec : (Seq (Int × (Seq (ByteArray × Int × Unit)) × Int × Unit)) → (Int) → Option α) (l2 : Seq (Int × (Seq (ByteArray × Int × Unit)) × Int × Unit)) (i3 : Int) : Option α :=
  (cond (decide (i3 < (l2.n : Int)))
    (cond ((decide ((0 : Int) ≤ i3)) && (decide (i3 < (l2.n : Int))))
      (draymanref13_One (l2.g i3.toNat) fun r4 =>
        (cond (!(!r4))
          (cond (decide (i3 > 0))
            (cond ((decide ((0 : Int) ≤ i3)) && (decide (i3 < (l2.n : Int))))
              (cond ((decide ((0 : Int) ≤ (IntKind.i64.wrap (i3 - 1)))) && (decide ((IntKind.i64.wrap (i3 - 1)) < (l2.n : Int))))
                (cond (decide ((l2.g i3.toNat).1 ≤ (l2.g (IntKind.i64.wrap (i3 - 1)).toNat).1))
                  (kr false)
                  (rec l2 (IntKind.i64.wrap (i3 + 1))))
                none)
              none)
            (rec l2 (IntKind.i64.wrap (i3 + 1))))
          (kr false)))
      none)
    (k0))

noncomputable def draymanref13_Fit_l0_run {α : Type} (draymanref13_One : draymanref13_One_T α) (kr : (Bool) → Option α) (k0 : Option α) : Nat → (Seq (Int × (Seq (ByteArray × Int × Unit)) × Int × Unit)) → (Int) → Option α
  | 0, _, _ => none
  | n + 1, l2, i3 => draymanref13_Fit_l0_step draymanref13_One kr k0 (fun l2 i3 => draymanref13_Fit_l0_run draymanref13_One kr k0 n l2 i3) l2 i3

noncomputable def draymanref13_Fit_g {α : Type} (draymanref13_One : draymanref13_One_T α) (l1 : Seq (Int × (Seq (ByteArray × Int × Unit)) × Int × Unit)) (k : Bool → Option α) : Option α :=
  (cond (decide ((l1.n : Int) > 16))
    (k false)
    (draymanref13_Fit_l0_run draymanref13_One
      (fun x5 =>
        (k x5))
      ((k true))
      1000 l1 0))

noncomputable def draymanref13_Fit {α : Type} : draymanref13_Fit_T α := draymanref13_Fit_g draymanref13_One

noncomputable def draymanref13_Fit_sp {α : Type} (draymanref13_Fit : draymanref13_Fit_T α) : FunSpec α := ⟨33, [.sl (.int .i64 (.sl (.str (.int .i64 (.nil))) (.int .i64 (.nil))))], [], fun ds k => draymanref13_Fit (hdQ (.int .i64 (.sl (.str (.int .i64 (.nil))) (.int .i64 (.nil)))) ds) (fun r1 => k (enc dep (.bool) [.b r1]).1 [])⟩

noncomputable def draymanref13_Fit_spec {α : Type} : FunSpec α := draymanref13_Fit_sp draymanref13_Fit

noncomputable def draymanref13_Fit_C {α : Type} (draymanref13_One : draymanref13_One_T α) : List (FunSpec α) := [draymanref13_One_sp draymanref13_One]

noncomputable def draymanref13_Fit_q : FuncId → Bool := fun f => Nat.beq f 67

noncomputable def draymanref13_Fit_inl : FuncId → Bool := fun f => false

noncomputable def draymanref13_Fit_ann : FuncId → AnnT := fun f p => if f = 33 then (if p = [true, false, true, true] then ⟨[0, 3], [], [], [2], 0, [], [], none⟩ else if p = [false, false, true, false, true, false, true, true] then ⟨[], [], [], [], 2, [], [], none⟩ else ⟨[], [], [], [], 0, [], [], none⟩) else ⟨[], [], [], [], 0, [], [], none⟩

noncomputable def draymanref13_Fit_l0_t : List Sh := [.sl (.int .i64 (.sl (.str (.int .i64 (.nil))) (.int .i64 (.nil)))), .dead, .dead, .int .i64, .dead, .dead, .dead, .dead, .dead, .dead, .dead, .dead, .dead, .dead, .dead, .dead, .dead, .dead, .dead, .dead, .dead, .dead, .dead, .dead, .dead, .dead, .dead, .dead, .dead, .dead, .dead, .dead, .dead, .dead, .dead, .dead, .dead]
noncomputable def draymanref13_Fit_l0_s : List (List Sh) := []
noncomputable def draymanref13_Fit_l0_h : List BSh := []

noncomputable def draymanref13_Fit_l0_spec {α : Type} (draymanref13_One : draymanref13_One_T α) : LoopSpec α := ⟨6, 33, [true, false, true, true], draymanref13_Fit_l0_t, draymanref13_Fit_l0_s, draymanref13_Fit_l0_h, fun ds k => draymanref13_Fit_l0_run draymanref13_One (fun y1 => k .ret (encSt [.dead, .dead, .bool, .dead, .dead, .dead, .dead, .dead, .dead, .dead, .dead, .dead, .dead, .dead, .dead, .dead, .dead, .dead, .dead, .dead, .dead, .dead, .dead, .dead, .dead, .dead, .dead, .dead, .dead, .dead, .dead, .dead, .dead, .dead, .dead, .dead, .dead] [] [] [.b y1])) (k (.exit 0) (encSt [.dead, .dead, .dead, .dead, .dead, .dead, .dead, .dead, .dead, .dead, .dead, .dead, .dead, .dead, .dead, .dead, .dead, .dead, .dead, .dead, .dead, .dead, .dead, .dead, .dead, .dead, .dead, .dead, .dead, .dead, .dead, .dead, .dead, .dead, .dead, .dead, .dead] [] [] [])) 1000 (hdQ (.int .i64 (.sl (.str (.int .i64 (.nil))) (.int .i64 (.nil)))) ds) (hdI ds.tail)⟩

noncomputable def draymanref13_Fit_loops {α : Type} (draymanref13_One : draymanref13_One_T α) : List (LoopSpec α) := [draymanref13_Fit_l0_spec draymanref13_One]

noncomputable def draymanref13_Fit_l0_ev {α : Type} (draymanref13_One : draymanref13_One_T α) (n : Nat) (st : St) (k : X → St → Option α) : Option α := loopN (evCode Go.Proofs.Tryd.prog (callD Go.Proofs.Tryd.prog (envOf (draymanref13_Fit_C draymanref13_One) draymanref13_Fit_q draymanref13_Fit_inl 1000 draymanref13_Fit_ann false (draymanref13_Fit_loops draymanref13_One) (fun _ => none)) 6) (((envOf (draymanref13_Fit_C draymanref13_One) draymanref13_Fit_q draymanref13_Fit_inl 1000 draymanref13_Fit_ann false (draymanref13_Fit_loops draymanref13_One) (fun _ => none)) : Env α).L 6 33) 1000 (draymanref13_Fit_ann 33) (false :: [true, false, true, true]) (loopC Go.Proofs.Tryd.prog 33 [true, false, true, true])) ((draymanref13_Fit_ann 33 [true, false, true, true]).head 0) ((draymanref13_Fit_ann 33 [true, false, true, true]).leave 0) n st k

theorem draymanref13_Fit_l0_eq {α : Type} (draymanref13_One : draymanref13_One_T α) : ∀ (n : Nat) (l2 : Seq (Int × (Seq (ByteArray × Int × Unit)) × Int × Unit)) (i3 : Int) (k : X → St → Option α), draymanref13_Fit_l0_ev draymanref13_One n (encSt draymanref13_Fit_l0_t draymanref13_Fit_l0_s draymanref13_Fit_l0_h [.q (.int .i64 (.sl (.str (.int .i64 (.nil))) (.int .i64 (.nil)))) l2, .i i3]) k = draymanref13_Fit_l0_run draymanref13_One (fun y1 => k .ret (encSt [.dead, .dead, .bool, .dead, .dead, .dead, .dead, .dead, .dead, .dead, .dead, .dead, .dead, .dead, .dead, .dead, .dead, .dead, .dead, .dead, .dead, .dead, .dead, .dead, .dead, .dead, .dead, .dead, .dead, .dead, .dead, .dead, .dead, .dead, .dead, .dead, .dead] [] [] [.b y1])) (k (.exit 0) (encSt [.dead, .dead, .dead, .dead, .dead, .dead, .dead, .dead, .dead, .dead, .dead, .dead, .dead, .dead, .dead, .dead, .dead, .dead, .dead, .dead, .dead, .dead, .dead, .dead, .dead, .dead, .dead, .dead, .dead, .dead, .dead, .dead, .dead, .dead, .dead, .dead, .dead] [] [] [])) n l2 i3 := by
  intro n
  induction n with
  | zero => intros; kernel_rfl
  | succ n ih =>
    intro l2 i3 k
    have e : (fun (l2 : Seq (Int × (Seq (ByteArray × Int × Unit)) × Int × Unit)) (i3 : Int) => draymanref13_Fit_l0_ev draymanref13_One n (encSt draymanref13_Fit_l0_t draymanref13_Fit_l0_s draymanref13_Fit_l0_h [.q (.int .i64 (.sl (.str (.int .i64 (.nil))) (.int .i64 (.nil)))) l2, .i i3]) k) = (fun (l2 : Seq (Int × (Seq (ByteArray × Int × Unit)) × Int × Unit)) (i3 : Int) => draymanref13_Fit_l0_run draymanref13_One (fun y1 => k .ret (encSt [.dead, .dead, .bool, .dead, .dead, .dead, .dead, .dead, .dead, .dead, .dead, .dead, .dead, .dead, .dead, .dead, .dead, .dead, .dead, .dead, .dead, .dead, .dead, .dead, .dead, .dead, .dead, .dead, .dead, .dead, .dead, .dead, .dead, .dead, .dead, .dead, .dead] [] [] [.b y1])) (k (.exit 0) (encSt [.dead, .dead, .dead, .dead, .dead, .dead, .dead, .dead, .dead, .dead, .dead, .dead, .dead, .dead, .dead, .dead, .dead, .dead, .dead, .dead, .dead, .dead, .dead, .dead, .dead, .dead, .dead, .dead, .dead, .dead, .dead, .dead, .dead, .dead, .dead, .dead, .dead] [] [] [])) n l2 i3) := by
      funext l2 i3
      exact ih l2 i3 k
    have h1 : draymanref13_Fit_l0_ev draymanref13_One (n + 1) (encSt draymanref13_Fit_l0_t draymanref13_Fit_l0_s draymanref13_Fit_l0_h [.q (.int .i64 (.sl (.str (.int .i64 (.nil))) (.int .i64 (.nil)))) l2, .i i3]) k = draymanref13_Fit_l0_step draymanref13_One (fun y1 => k .ret (encSt [.dead, .dead, .bool, .dead, .dead, .dead, .dead, .dead, .dead, .dead, .dead, .dead, .dead, .dead, .dead, .dead, .dead, .dead, .dead, .dead, .dead, .dead, .dead, .dead, .dead, .dead, .dead, .dead, .dead, .dead, .dead, .dead, .dead, .dead, .dead, .dead, .dead] [] [] [.b y1])) (k (.exit 0) (encSt [.dead, .dead, .dead, .dead, .dead, .dead, .dead, .dead, .dead, .dead, .dead, .dead, .dead, .dead, .dead, .dead, .dead, .dead, .dead, .dead, .dead, .dead, .dead, .dead, .dead, .dead, .dead, .dead, .dead, .dead, .dead, .dead, .dead, .dead, .dead, .dead, .dead] [] [] [])) (fun (l2 : Seq (Int × (Seq (ByteArray × Int × Unit)) × Int × Unit)) (i3 : Int) => draymanref13_Fit_l0_ev draymanref13_One n (encSt draymanref13_Fit_l0_t draymanref13_Fit_l0_s draymanref13_Fit_l0_h [.q (.int .i64 (.sl (.str (.int .i64 (.nil))) (.int .i64 (.nil)))) l2, .i i3]) k) l2 i3 := by kernel_rfl
    have h2 := congrArg (fun r => draymanref13_Fit_l0_step draymanref13_One (fun y1 => k .ret (encSt [.dead, .dead, .bool, .dead, .dead, .dead, .dead, .dead, .dead, .dead, .dead, .dead, .dead, .dead, .dead, .dead, .dead, .dead, .dead, .dead, .dead, .dead, .dead, .dead, .dead, .dead, .dead, .dead, .dead, .dead, .dead, .dead, .dead, .dead, .dead, .dead, .dead] [] [] [.b y1])) (k (.exit 0) (encSt [.dead, .dead, .dead, .dead, .dead, .dead, .dead, .dead, .dead, .dead, .dead, .dead, .dead, .dead, .dead, .dead, .dead, .dead, .dead, .dead, .dead, .dead, .dead, .dead, .dead, .dead, .dead, .dead, .dead, .dead, .dead, .dead, .dead, .dead, .dead, .dead, .dead] [] [] [])) r l2 i3) e
    have h3 : draymanref13_Fit_l0_step draymanref13_One (fun y1 => k .ret (encSt [.dead, .dead, .bool, .dead, .dead, .dead, .dead, .dead, .dead, .dead, .dead, .dead, .dead, .dead, .dead, .dead, .dead, .dead, .dead, .dead, .dead, .dead, .dead, .dead, .dead, .dead, .dead, .dead, .dead, .dead, .dead, .dead, .dead, .dead, .dead, .dead, .dead] [] [] [.b y1])) (k (.exit 0) (encSt [.dead, .dead, .dead, .dead, .dead, .dead, .dead, .dead, .dead, .dead, .dead, .dead, .dead, .dead, .dead, .dead, .dead, .dead, .dead, .dead, .dead, .dead, .dead, .dead, .dead, .dead, .dead, .dead, .dead, .dead, .dead, .dead, .dead, .dead, .dead, .dead, .dead] [] [] [])) (fun (l2 : Seq (Int × (Seq (ByteArray × Int × Unit)) × Int × Unit)) (i3 : Int) => draymanref13_Fit_l0_run draymanref13_One (fun y1 => k .ret (encSt [.dead, .dead, .bool, .dead, .dead, .dead, .dead, .dead, .dead, .dead, .dead, .dead, .dead, .dead, .dead, .dead, .dead, .dead, .dead, .dead, .dead, .dead, .dead, .dead, .dead, .dead, .dead, .dead, .dead, .dead, .dead, .dead, .dead, .dead, .dead, .dead, .dead] [] [] [.b y1])) (k (.exit 0) (encSt [.dead, .dead, .dead, .dead, .dead, .dead, .dead, .dead, .dead, .dead, .dead, .dead, .dead, .dead, .dead, .dead, .dead, .dead, .dead, .dead, .dead, .dead, .dead, .dead, .dead, .dead, .dead, .dead, .dead, .dead, .dead, .dead, .dead, .dead, .dead, .dead, .dead] [] [] [])) n l2 i3) l2 i3 = draymanref13_Fit_l0_run draymanref13_One (fun y1 => k .ret (encSt [.dead, .dead, .bool, .dead, .dead, .dead, .dead, .dead, .dead, .dead, .dead, .dead, .dead, .dead, .dead, .dead, .dead, .dead, .dead, .dead, .dead, .dead, .dead, .dead, .dead, .dead, .dead, .dead, .dead, .dead, .dead, .dead, .dead, .dead, .dead, .dead, .dead] [] [] [.b y1])) (k (.exit 0) (encSt [.dead, .dead, .dead, .dead, .dead, .dead, .dead, .dead, .dead, .dead, .dead, .dead, .dead, .dead, .dead, .dead, .dead, .dead, .dead, .dead, .dead, .dead, .dead, .dead, .dead, .dead, .dead, .dead, .dead, .dead, .dead, .dead, .dead, .dead, .dead, .dead, .dead] [] [] [])) (n + 1) l2 i3 := by kernel_rfl
    exact h1.trans (h2.trans h3)

theorem draymanref13_Fit_l0_ok {α : Type} (draymanref13_One : draymanref13_One_T α) : (draymanref13_Fit_l0_spec draymanref13_One : LoopSpec α).ok Go.Proofs.Tryd.prog (envOf (draymanref13_Fit_C draymanref13_One) draymanref13_Fit_q draymanref13_Fit_inl 1000 draymanref13_Fit_ann false (draymanref13_Fit_loops draymanref13_One) (fun _ => none)) := by
  intro ds k
  have h1 : draymanref13_Fit_l0_ev draymanref13_One 1000 (encSt draymanref13_Fit_l0_t draymanref13_Fit_l0_s draymanref13_Fit_l0_h ds) k = draymanref13_Fit_l0_ev draymanref13_One 1000 (encSt draymanref13_Fit_l0_t draymanref13_Fit_l0_s draymanref13_Fit_l0_h [.q (.int .i64 (.sl (.str (.int .i64 (.nil))) (.int .i64 (.nil)))) (hdQ (.int .i64 (.sl (.str (.int .i64 (.nil))) (.int .i64 (.nil)))) ds), .i (hdI ds.tail)]) k := by kernel_rfl
  have h2 := draymanref13_Fit_l0_eq draymanref13_One 1000 (hdQ (.int .i64 (.sl (.str (.int .i64 (.nil))) (.int .i64 (.nil)))) ds) (hdI ds.tail) k
  exact h1.trans h2

theorem draymanref13_Fit_ev {α : Type} (draymanref13_One : draymanref13_One_T α) : EvOk (α := α) Go.Proofs.Tryd.prog (envOf (draymanref13_Fit_C draymanref13_One) draymanref13_Fit_q draymanref13_Fit_inl 1000 draymanref13_Fit_ann false (draymanref13_Fit_loops draymanref13_One) (fun _ => none)) 6 (draymanref13_Fit_sp (draymanref13_Fit_g draymanref13_One)) := by intro ds k; kernel_rfl

theorem draymanref13_Fit_ok {α : Type} : (draymanref13_Fit_spec : FunSpec α).ok Go.Proofs.Tryd.prog :=
  FunSpec.ok_of (sp := draymanref13_Fit_spec) (C := draymanref13_Fit_C draymanref13_One) (q := draymanref13_Fit_q) (inl := draymanref13_Fit_inl) (N := 1000) (ann := draymanref13_Fit_ann) (fr := false) (D := 6) (l := (draymanref13_Fit_loops draymanref13_One)) (hk := (fun _ => none)) (okCons draymanref13_One_ok okNil) (lokCons (draymanref13_Fit_l0_ok draymanref13_One) lokNil) noHooks (draymanref13_Fit_ev draymanref13_One)

end
end Go.Rv.Tryd

set_option linter.unusedVariables false
set_option maxRecDepth 100000
set_option maxHeartbeats 4000000
namespace Go.Rv.Tryd
open Go Go.Rv Go.RowKit
noncomputable section

-- drayman/draymanref11.Same

abbrev draymanref11_Same_T (α : Type) : Type := (Seq (ByteArray × Int × Unit)) → (Seq (ByteArray × Int × Unit)) → (Bool → Option α) → Option α

noncomputable def draymanref11_Same_l0_step {α : Type} (kr : (Bool) → Option α) (k0 : Option α) (rec : (Seq (ByteArray × Int × Unit)) → (Seq (ByteArray × Int × Unit)) → (Int) → Option α) (a3 : Seq (ByteArray × Int × Unit)) (b4 : Seq (ByteArray × Int × Unit)) (i5 : Int) : Option α :=
  (cond (decide (i5 < (a3.n : Int)))
    (cond (((decide ((0 : Int) ≤ i5)) && (decide (i5 < (a3.n : Int)))) && ((decide ((0 : Int) ≤ i5)) && (decide (i5 < (a3.n : Int)))))
      (cond (((decide ((0 : Int) ≤ i5)) && (decide (i5 < (b4.n : Int)))) && ((decide ((0 : Int) ≤ i5)) && (decide (i5 < (b4.n : Int)))))
        (cond (!(((a3.g i5.toNat).1.toList == (b4.g i5.toNat).1.toList) && (((a3.g i5.toNat).2.1 == (b4.g i5.toNat).2.1) && true)))
          (kr false)
          (rec a3 b4 (IntKind.i64.wrap (i5 + 1))))
        none)
      none)
    (k0))

noncomputable def draymanref11_Same_l0_run {α : Type} (kr : (Bool) → Option α) (k0 : Option α) : Nat → (Seq (ByteArray × Int × Unit)) → (Seq (ByteArray × Int × Unit)) → (Int) → Option α
  | 0, _, _, _ => none
  | n + 1, a3, b4, i5 => draymanref11_Same_l0_step kr k0 (fun a3 b4 i5 => draymanref11_Same_l0_run kr k0 n a3 b4 i5) a3 b4 i5

noncomputable def draymanref11_Same {α : Type} (a1 : Seq (ByteArray × Int × Unit)) (b2 : Seq (ByteArray × Int × Unit)) (k : Bool → Option α) : Option α :=
  (cond ((a1.n : Int) != (b2.n : Int))
    (k false)
    (draymanref11_Same_l0_run
      (fun x6 =>
        (k x6))
      ((k true))
      1000 a1 b2 0))

noncomputable def draymanref11_Same_sp {α : Type} (draymanref11_Same : draymanref11_Same_T α) : FunSpec α := ⟨68, [.sl (.str (.int .i64 (.nil))), .sl (.str (.int .i64 (.nil)))], [], fun ds k => draymanref11_Same (hdQ (.str (.int .i64 (.nil))) ds) (hdQ (.str (.int .i64 (.nil))) ds.tail) (fun r1 => k (enc dep (.bool) [.b r1]).1 [])⟩

noncomputable def draymanref11_Same_spec {α : Type} : FunSpec α := draymanref11_Same_sp draymanref11_Same

noncomputable def draymanref11_Same_C {α : Type} : List (FunSpec α) := []

noncomputable def draymanref11_Same_q : FuncId → Bool := fun f => false

noncomputable def draymanref11_Same_inl : FuncId → Bool := fun f => false

noncomputable def draymanref11_Same_ann : FuncId → AnnT := fun f p => if f = 68 then (if p = [true, false, true, true] then ⟨[0, 1, 5], [], [], [4], 0, [], [], none⟩ else ⟨[], [], [], [], 0, [], [], none⟩) else ⟨[], [], [], [], 0, [], [], none⟩

noncomputable def draymanref11_Same_l0_t : List Sh := [.sl (.str (.int .i64 (.nil))), .sl (.str (.int .i64 (.nil))), .dead, .dead, .dead, .int .i64, .dead, .dead, .dead, .dead, .dead, .dead, .dead, .dead, .dead, .dead, .dead, .dead, .dead, .dead, .dead, .dead, .dead, .dead, .dead, .dead]
noncomputable def draymanref11_Same_l0_s : List (List Sh) := []
noncomputable def draymanref11_Same_l0_h : List BSh := []

noncomputable def draymanref11_Same_l0_spec {α : Type} : LoopSpec α := ⟨6, 68, [true, false, true, true], draymanref11_Same_l0_t, draymanref11_Same_l0_s, draymanref11_Same_l0_h, fun ds k => draymanref11_Same_l0_run (fun y1 => k .ret (encSt [.dead, .dead, .dead, .dead, .bool, .dead, .dead, .dead, .dead, .dead, .dead, .dead, .dead, .dead, .dead, .dead, .dead, .dead, .dead, .dead, .dead, .dead, .dead, .dead, .dead, .dead] [] [] [.b y1])) (k (.exit 0) (encSt [.dead, .dead, .dead, .dead, .dead, .dead, .dead, .dead, .dead, .dead, .dead, .dead, .dead, .dead, .dead, .dead, .dead, .dead, .dead, .dead, .dead, .dead, .dead, .dead, .dead, .dead] [] [] [])) 1000 (hdQ (.str (.int .i64 (.nil))) ds) (hdQ (.str (.int .i64 (.nil))) ds.tail) (hdI ds.tail.tail)⟩

noncomputable def draymanref11_Same_loops {α : Type} : List (LoopSpec α) := [draymanref11_Same_l0_spec]

noncomputable def draymanref11_Same_l0_ev {α : Type} (n : Nat) (st : St) (k : X → St → Option α) : Option α := loopN (evCode Go.Proofs.Tryd.prog (callD Go.Proofs.Tryd.prog (envOf (draymanref11_Same_C) draymanref11_Same_q draymanref11_Same_inl 1000 draymanref11_Same_ann false (draymanref11_Same_loops) (fun _ => none)) 6) (((envOf (draymanref11_Same_C) draymanref11_Same_q draymanref11_Same_inl 1000 draymanref11_Same_ann false (draymanref11_Same_loops) (fun _ => none)) : Env α).L 6 68) 1000 (draymanref11_Same_ann 68) (false :: [true, false, true, true]) (loopC Go.Proofs.Tryd.prog 68 [true, false, true, true])) ((draymanref11_Same_ann 68 [true, false, true, true]).head 0) ((draymanref11_Same_ann 68 [true, false, true, true]).leave 0) n st k

theorem draymanref11_Same_l0_eq {α : Type} : ∀ (n : Nat) (a3 : Seq (ByteArray × Int × Unit)) (b4 : Seq (ByteArray × Int × Unit)) (i5 : Int) (k : X → St → Option α), draymanref11_Same_l0_ev n (encSt draymanref11_Same_l0_t draymanref11_Same_l0_s draymanref11_Same_l0_h [.q (.str (.int .i64 (.nil))) a3, .q (.str (.int .i64 (.nil))) b4, .i i5]) k = draymanref11_Same_l0_run (fun y1 => k .ret (encSt [.dead, .dead, .dead, .dead, .bool, .dead, .dead, .dead, .dead, .dead, .dead, .dead, .dead, .dead, .dead, .dead, .dead, .dead, .dead, .dead, .dead, .dead, .dead, .dead, .dead, .dead] [] [] [.b y1])) (k (.exit 0) (encSt [.dead, .dead, .dead, .dead, .dead, .dead, .dead, .dead, .dead, .dead, .dead, .dead, .dead, .dead, .dead, .dead, .dead, .dead, .dead, .dead, .dead, .dead, .dead, .dead, .dead, .dead] [] [] [])) n a3 b4 i5 := by
  intro n
  induction n with
  | zero => intros; kernel_rfl
  | succ n ih =>
    intro a3 b4 i5 k
    have e : (fun (a3 : Seq (ByteArray × Int × Unit)) (b4 : Seq (ByteArray × Int × Unit)) (i5 : Int) => draymanref11_Same_l0_ev n (encSt draymanref11_Same_l0_t draymanref11_Same_l0_s draymanref11_Same_l0_h [.q (.str (.int .i64 (.nil))) a3, .q (.str (.int .i64 (.nil))) b4, .i i5]) k) = (fun (a3 : Seq (ByteArray × Int × Unit)) (b4 : Seq (ByteArray × Int × Unit)) (i5 : Int) => draymanref11_Same_l0_run (fun y1 => k .ret (encSt [.dead, .dead, .dead, .dead, .bool, .dead, .dead, .dead, .dead, .dead, .dead, .dead, .dead, .dead, .dead, .dead, .dead, .dead, .dead, .dead, .dead, .dead, .dead, .dead, .dead, .dead] [] [] [.b y1])) (k (.exit 0) (encSt [.dead, .dead, .dead, .dead, .dead, .dead, .dead, .dead, .dead, .dead, .dead, .dead, .dead, .dead, .dead, .dead, .dead, .dead, .dead, .dead, .dead, .dead, .dead, .dead, .dead, .dead] [] [] [])) n a3 b4 i5) := by
      funext a3 b4 i5
      exact ih a3 b4 i5 k
    have h1 : draymanref11_Same_l0_ev (n + 1) (encSt draymanref11_Same_l0_t draymanref11_Same_l0_s draymanref11_Same_l0_h [.q (.str (.int .i64 (.nil))) a3, .q (.str (.int .i64 (.nil))) b4, .i i5]) k = draymanref11_Same_l0_step (fun y1 => k .ret (encSt [.dead, .dead, .dead, .dead, .bool, .dead, .dead, .dead, .dead, .dead, .dead, .dead, .dead, .dead, .dead, .dead, .dead, .dead, .dead, .dead, .dead, .dead, .dead, .dead, .dead, .dead] [] [] [.b y1])) (k (.exit 0) (encSt [.dead, .dead, .dead, .dead, .dead, .dead, .dead, .dead, .dead, .dead, .dead, .dead, .dead, .dead, .dead, .dead, .dead, .dead, .dead, .dead, .dead, .dead, .dead, .dead, .dead, .dead] [] [] [])) (fun (a3 : Seq (ByteArray × Int × Unit)) (b4 : Seq (ByteArray × Int × Unit)) (i5 : Int) => draymanref11_Same_l0_ev n (encSt draymanref11_Same_l0_t draymanref11_Same_l0_s draymanref11_Same_l0_h [.q (.str (.int .i64 (.nil))) a3, .q (.str (.int .i64 (.nil))) b4, .i i5]) k) a3 b4 i5 := by kernel_rfl
    have h2 := congrArg (fun r => draymanref11_Same_l0_step (fun y1 => k .ret (encSt [.dead, .dead, .dead, .dead, .bool, .dead, .dead, .dead, .dead, .dead, .dead, .dead, .dead, .dead, .dead, .dead, .dead, .dead, .dead, .dead, .dead, .dead, .dead, .dead, .dead, .dead] [] [] [.b y1])) (k (.exit 0) (encSt [.dead, .dead, .dead, .dead, .dead, .dead, .dead, .dead, .dead, .dead, .dead, .dead, .dead, .dead, .dead, .dead, .dead, .dead, .dead, .dead, .dead, .dead, .dead, .dead, .dead, .dead] [] [] [])) r a3 b4 i5) e
    have h3 : draymanref11_Same_l0_step (fun y1 => k .ret (encSt [.dead, .dead, .dead, .dead, .bool, .dead, .dead, .dead, .dead, .dead, .dead, .dead, .dead, .dead, .dead, .dead, .dead, .dead, .dead, .dead, .dead, .dead, .dead, .dead, .dead, .dead] [] [] [.b y1])) (k (.exit 0) (encSt [.dead, .dead, .dead, .dead, .dead, .dead, .dead, .dead, .dead, .dead, .dead, .dead, .dead, .dead, .dead, .dead, .dead, .dead, .dead, .dead, .dead, .dead, .dead, .dead, .dead, .dead] [] [] [])) (fun (a3 : Seq (ByteArray × Int × Unit)) (b4 : Seq (ByteArray × Int × Unit)) (i5 : Int) => draymanref11_Same_l0_run (fun y1 => k .ret (encSt [.dead, .dead, .dead, .dead, .bool, .dead, .dead, .dead, .dead, .dead, .dead, .dead, .dead, .dead, .dead, .dead, .dead, .dead, .dead, .dead, .dead, .dead, .dead, .dead, .dead, .dead] [] [] [.b y1])) (k (.exit 0) (encSt [.dead, .dead, .dead, .dead, .dead, .dead, .dead, .dead, .dead, .dead, .dead, .dead, .dead, .dead, .dead, .dead, .dead, .dead, .dead, .dead, .dead, .dead, .dead, .dead, .dead, .dead] [] [] [])) n a3 b4 i5) a3 b4 i5 = draymanref11_Same_l0_run (fun y1 => k .ret (encSt [.dead, .dead, .dead, .dead, .bool, .dead, .dead, .dead, .dead, .dead, .dead, .dead, .dead, .dead, .dead, .dead, .dead, .dead, .dead, .dead, .dead, .dead, .dead, .dead, .dead, .dead] [] [] [.b y1])) (k (.exit 0) (encSt [.dead, .dead, .dead, .dead, .dead, .dead, .dead, .dead, .dead, .dead, .dead, .dead, .dead, .dead, .dead, .dead, .dead, .dead, .dead, .dead, .dead, .dead, .dead, .dead, .dead, .dead] [] [] [])) (n + 1) a3 b4 i5 := by kernel_rfl
    exact h1.trans (h2.trans h3)

theorem draymanref11_Same_l0_ok {α : Type} : (draymanref11_Same_l0_spec : LoopSpec α).ok Go.Proofs.Tryd.prog (envOf (draymanref11_Same_C) draymanref11_Same_q draymanref11_Same_inl 1000 draymanref11_Same_ann false (draymanref11_Same_loops) (fun _ => none)) := by
  intro ds k
  have h1 : draymanref11_Same_l0_ev 1000 (encSt draymanref11_Same_l0_t draymanref11_Same_l0_s draymanref11_Same_l0_h ds) k = draymanref11_Same_l0_ev 1000 (encSt draymanref11_Same_l0_t draymanref11_Same_l0_s draymanref11_Same_l0_h [.q (.str (.int .i64 (.nil))) (hdQ (.str (.int .i64 (.nil))) ds), .q (.str (.int .i64 (.nil))) (hdQ (.str (.int .i64 (.nil))) ds.tail), .i (hdI ds.tail.tail)]) k := by kernel_rfl
  have h2 := draymanref11_Same_l0_eq 1000 (hdQ (.str (.int .i64 (.nil))) ds) (hdQ (.str (.int .i64 (.nil))) ds.tail) (hdI ds.tail.tail) k
  exact h1.trans h2

theorem draymanref11_Same_ev {α : Type} : EvOk (α := α) Go.Proofs.Tryd.prog (envOf (draymanref11_Same_C) draymanref11_Same_q draymanref11_Same_inl 1000 draymanref11_Same_ann false (draymanref11_Same_loops) (fun _ => none)) 6 (draymanref11_Same_sp (draymanref11_Same)) := by intro ds k; kernel_rfl

theorem draymanref11_Same_ok {α : Type} : (draymanref11_Same_spec : FunSpec α).ok Go.Proofs.Tryd.prog :=
  FunSpec.ok_of (sp := draymanref11_Same_spec) (C := draymanref11_Same_C) (q := draymanref11_Same_q) (inl := draymanref11_Same_inl) (N := 1000) (ann := draymanref11_Same_ann) (fr := false) (D := 6) (l := (draymanref11_Same_loops)) (hk := (fun _ => none)) okNil (lokCons (draymanref11_Same_l0_ok) lokNil) noHooks (draymanref11_Same_ev)

end
end Go.Rv.Tryd

set_option linter.unusedVariables false
set_option maxRecDepth 100000
set_option maxHeartbeats 4000000
namespace Go.Rv.Tryd
open Go Go.Rv Go.RowKit
noncomputable section

-- drayman/draymanref13.Same

abbrev draymanref13_Same_T (α : Type) : Type := (Seq (Int × (Seq (ByteArray × Int × Unit)) × Int × Unit)) → (Seq (Int × (Seq (ByteArray × Int × Unit)) × Int × Unit)) → (Bool → Option α) → Option α

noncomputable def draymanref13_Same_l0_step {α : Type} (draymanref11_Same : draymanref11_Same_T α) (kr : (Bool) → Option α) (k0 : Option α) (rec : (Seq (Int × (Seq (ByteArray × Int × Unit)) × Int × Unit)) → (Seq (Int × (Seq (ByteArray × Int × Unit)) × Int × Unit)) → (Int) → Option α) (a3 : Seq (Int × (Seq (ByteArray × Int × Unit)) × Int × Unit)) (b4 : Seq (Int × (Seq (ByteArray × Int × Unit)) × Int × Unit)) (i5 : Int) : Option α :=
  (cond (decide (i5 < (a3.n : Int)))
    (cond ((decide ((0 : Int) ≤ i5)) && (decide (i5 < (a3.n : Int))))
      (cond ((decide ((0 : Int) ≤ i5)) && (decide (i5 < (b4.n : Int))))
        (cond (!((a3.g i5.toNat).1 != (b4.g i5.toNat).1))
          (cond ((decide ((0 : Int) ≤ i5)) && (decide (i5 < (a3.n : Int))))
            (cond ((decide ((0 : Int) ≤ i5)) && (decide (i5 < (b4.n : Int))))
              (cond (!((a3.g i5.toNat).2.2.1 != (b4.g i5.toNat).2.2.1))
                (cond ((decide ((0 : Int) ≤ i5)) && (decide (i5 < (a3.n : Int))))
                  (cond ((decide ((0 : Int) ≤ i5)) && (decide (i5 < (b4.n : Int))))
                    (draymanref11_Same ((a3.g i5.toNat).2.1) ((b4.g i5.toNat).2.1) fun r6 =>
                      (cond (!r6)
                        (kr false)
                        (rec a3 b4 (IntKind.i64.wrap (i5 + 1)))))
                    none)
                  none)
                (kr false))
              none)
            none)
          (kr false))
        none)
      none)
    (k0))

noncomputable def draymanref13_Same_l0_run {α : Type} (draymanref11_Same : draymanref11_Same_T α) (kr : (Bool) → Option α) (k0 : Option α) : Nat → (Seq (Int × (Seq (ByteArray × Int × Unit)) × Int × Unit)) → (Seq (Int × (Seq (ByteArray × Int × Unit)) × Int × Unit)) → (Int) → Option α
  | 0, _, _, _ => none
  | n + 1, a3, b4, i5 => draymanref13_Same_l0_step draymanref11_Same kr k0 (fun a3 b4 i5 => draymanref13_Same_l0_run draymanref11_Same kr k0 n a3 b4 i5) a3 b4 i5

noncomputable def draymanref13_Same_g {α : Type} (draymanref11_Same : draymanref11_Same_T α) (a1 : Seq (Int × (Seq (ByteArray × Int × Unit)) × Int × Unit)) (b2 : Seq (Int × (Seq (ByteArray × Int × Unit)) × Int × Unit)) (k : Bool → Option α) : Option α :=
  (cond ((a1.n : Int) != (b2.n : Int))
    (k false)
    (draymanref13_Same_l0_run draymanref11_Same
      (fun x7 =>
        (k x7))
      ((k true))
      1000 a1 b2 0))

noncomputable def draymanref13_Same {α : Type} : draymanref13_Same_T α := draymanref13_Same_g draymanref11_Same

noncomputable def draymanref13_Same_sp {α : Type} (draymanref13_Same : draymanref13_Same_T α) : FunSpec α := ⟨29, [.sl (.int .i64 (.sl (.str (.int .i64 (.nil))) (.int .i64 (.nil)))), .sl (.int .i64 (.sl (.str (.int .i64 (.nil))) (.int .i64 (.nil))))], [], fun ds k => draymanref13_Same (hdQ (.int .i64 (.sl (.str (.int .i64 (.nil))) (.int .i64 (.nil)))) ds) (hdQ (.int .i64 (.sl (.str (.int .i64 (.nil))) (.int .i64 (.nil)))) ds.tail) (fun r1 => k (enc dep (.bool) [.b r1]).1 [])⟩

noncomputable def draymanref13_Same_spec {α : Type} : FunSpec α := draymanref13_Same_sp draymanref13_Same

noncomputable def draymanref13_Same_C {α : Type} (draymanref11_Same : draymanref11_Same_T α) : List (FunSpec α) := [draymanref11_Same_sp draymanref11_Same]

noncomputable def draymanref13_Same_q : FuncId → Bool := fun f => Nat.beq f 68

noncomputable def draymanref13_Same_inl : FuncId → Bool := fun f => false

noncomputable def draymanref13_Same_ann : FuncId → AnnT := fun f p => if f = 29 then (if p = [true, false, true, true] then ⟨[0, 1, 5], [], [], [4], 0, [], [], none⟩ else if p = [false, false, true, false, true, false, true, true] then ⟨[], [], [], [], 2, [], [], none⟩ else ⟨[], [], [], [], 0, [], [], none⟩) else ⟨[], [], [], [], 0, [], [], none⟩

noncomputable def draymanref13_Same_l0_t : List Sh := [.sl (.int .i64 (.sl (.str (.int .i64 (.nil))) (.int .i64 (.nil)))), .sl (.int .i64 (.sl (.str (.int .i64 (.nil))) (.int .i64 (.nil)))), .dead, .dead, .dead, .int .i64, .dead, .dead, .dead, .dead, .dead, .dead, .dead, .dead, .dead, .dead, .dead, .dead, .dead, .dead, .dead, .dead, .dead, .dead, .dead, .dead, .dead, .dead, .dead, .dead, .dead, .dead, .dead, .dead, .dead, .dead, .dead, .dead, .dead, .dead, .dead, .dead, .dead, .dead, .dead, .dead, .dead, .dead, .dead, .dead, .dead, .dead, .dead, .dead, .dead]
noncomputable def draymanref13_Same_l0_s : List (List Sh) := []
noncomputable def draymanref13_Same_l0_h : List BSh := []

noncomputable def draymanref13_Same_l0_spec {α : Type} (draymanref11_Same : draymanref11_Same_T α) : LoopSpec α := ⟨6, 29, [true, false, true, true], draymanref13_Same_l0_t, draymanref13_Same_l0_s, draymanref13_Same_l0_h, fun ds k => draymanref13_Same_l0_run draymanref11_Same (fun y1 => k .ret (encSt [.dead, .dead, .dead, .dead, .bool, .dead, .dead, .dead, .dead, .dead, .dead, .dead, .dead, .dead, .dead, .dead, .dead, .dead, .dead, .dead, .dead, .dead, .dead, .dead, .dead, .dead, .dead, .dead, .dead, .dead, .dead, .dead, .dead, .dead, .dead, .dead, .dead, .dead, .dead, .dead, .dead, .dead, .dead, .dead, .dead, .dead, .dead, .dead, .dead, .dead, .dead, .dead, .dead, .dead, .dead] [] [] [.b y1])) (k (.exit 0) (encSt [.dead, .dead, .dead, .dead, .dead, .dead, .dead, .dead, .dead, .dead, .dead, .dead, .dead, .dead, .dead, .dead, .dead, .dead, .dead, .dead, .dead, .dead, .dead, .dead, .dead, .dead, .dead, .dead, .dead, .dead, .dead, .dead, .dead, .dead, .dead, .dead, .dead, .dead, .dead, .dead, .dead, .dead, .dead, .dead, .dead, .dead, .dead, .dead, .dead, .dead, .dead, .dead, .dead, .dead, .dead] [] [] [])) 1000 (hdQ (.int .i64 (.sl (.str (.int .i64 (.nil))) (.int .i64 (.nil)))) ds) (hdQ (.int .i64 (.sl (.str (.int .i64 (.nil))) (.int .i64 (.nil)))) ds.tail) (hdI ds.tail.tail)⟩

noncomputable def draymanref13_Same_loops {α : Type} (draymanref11_Same : draymanref11_Same_T α) : List (LoopSpec α) := [draymanref13_Same_l0_spec draymanref11_Same]

noncomputable def draymanref13_Same_l0_ev {α : Type} (draymanref11_Same : draymanref11_Same_T α) (n : Nat) (st : St) (k : X → St → Option α) : Option α := loopN (evCode Go.Proofs.Tryd.prog (callD Go.Proofs.Tryd.prog (envOf (draymanref13_Same_C draymanref11_Same) draymanref13_Same_q draymanref13_Same_inl 1000 draymanref13_Same_ann false (draymanref13_Same_loops draymanref11_Same) (fun _ => none)) 6) (((envOf (draymanref13_Same_C draymanref11_Same) draymanref13_Same_q draymanref13_Same_inl 1000 draymanref13_Same_ann false (draymanref13_Same_loops draymanref11_Same) (fun _ => none)) : Env α).L 6 29) 1000 (draymanref13_Same_ann 29) (false :: [true, false, true, true]) (loopC Go.Proofs.Tryd.prog 29 [true, false, true, true])) ((draymanref13_Same_ann 29 [true, false, true, true]).head 0) ((draymanref13_Same_ann 29 [true, false, true, true]).leave 0) n st k

theorem draymanref13_Same_l0_eq {α : Type} (draymanref11_Same : draymanref11_Same_T α) : ∀ (n : Nat) (a3 : Seq (Int × (Seq (ByteArray × Int × Unit)) × Int × Unit)) (b4 : Seq (Int × (Seq (ByteArray × Int × Unit)) × Int × Unit)) (i5 : Int) (k : X → St → Option α), draymanref13_Same_l0_ev draymanref11_Same n (encSt draymanref13_Same_l0_t draymanref13_Same_l0_s draymanref13_Same_l0_h [.q (.int .i64 (.sl (.str (.int .i64 (.nil))) (.int .i64 (.nil)))) a3, .q (.int .i64 (.sl (.str (.int .i64 (.nil))) (.int .i64 (.nil)))) b4, .i i5]) k = draymanref13_Same_l0_run draymanref11_Same (fun y1 => k .ret (encSt [.dead, .dead, .dead, .dead, .bool, .dead, .dead, .dead, .dead, .dead, .dead, .dead, .dead, .dead, .dead, .dead, .dead, .dead, .dead, .dead, .dead, .dead, .dead, .dead, .dead, .dead, .dead, .dead, .dead, .dead, .dead, .dead, .dead, .dead, .dead, .dead, .dead, .dead, .dead, .dead, .dead, .dead, .dead, .dead, .dead, .dead, .dead, .dead, .dead, .dead, .dead, .dead, .dead, .dead, .dead] [] [] [.b y1])) (k (.exit 0) (encSt [.dead, .dead, .dead, .dead, .dead, .dead, .dead, .dead, .dead, .dead, .dead, .dead, .dead, .dead, .dead, .dead, .dead, .dead, .dead, .dead, .dead, .dead, .dead, .dead, .dead, .dead, .dead, .dead, .dead, .dead, .dead, .dead, .dead, .dead, .dead, .dead, .dead, .dead, .dead, .dead, .dead, .dead, .dead, .dead, .dead, .dead, .dead, .dead, .dead, .dead, .dead, .dead, .dead, .dead, .dead] [] [] [])) n a3 b4 i5 := by
  intro n
  induction n with
  | zero => intros; kernel_rfl
  | succ n ih =>
    intro a3 b4 i5 k
    have e : (fun (a3 : Seq (Int × (Seq (ByteArray × Int × Unit)) × Int × Unit)) (b4 : Seq (Int × (Seq (ByteArray × Int × Unit)) × Int × Unit)) (i5 : Int) => draymanref13_Same_l0_ev draymanref11_Same n (encSt draymanref13_Same_l0_t draymanref13_Same_l0_s draymanref13_Same_l0_h [.q (.int .i64 (.sl (.str (.int .i64 (.nil))) (.int .i64 (.nil)))) a3, .q (.int .i64 (.sl (.str (.int .i64 (.nil))) (.int .i64 (.nil)))) b4, .i i5]) k) = (fun (a3 : Seq (Int × (Seq (ByteArray × Int × Unit)) × Int × Unit)) (b4 : Seq (Int × (Seq (ByteArray × Int × Unit)) × Int × Unit)) (i5 : Int) => draymanref13_Same_l0_run draymanref11_Same (fun y1 => k .ret (encSt [.dead, .dead, .dead, .dead, .bool, .dead, .dead, .dead, .dead, .dead, .dead, .dead, .dead, .dead, .dead, .dead, .dead, .dead, .dead, .dead, .dead, .dead, .dead, .dead, .dead, .dead, .dead, .dead, .dead, .dead, .dead, .dead, .dead, .dead, .dead, .dead, .dead, .dead, .dead, .dead, .dead, .dead, .dead, .dead, .dead, .dead, .dead, .dead, .dead, .dead, .dead, .dead, .dead, .dead, .dead] [] [] [.b y1])) (k (.exit 0) (encSt [.dead, .dead, .dead, .dead, .dead, .dead, .dead, .dead, .dead, .dead, .dead, .dead, .dead, .dead, .dead, .dead, .dead, .dead, .dead, .dead, .dead, .dead, .dead, .dead, .dead, .dead, .dead, .dead, .dead, .dead, .dead, .dead, .dead, .dead, .dead, .dead, .dead, .dead, .dead, .dead, .dead, .dead, .dead, .dead, .dead, .dead, .dead, .dead, .dead, .dead, .dead, .dead, .dead, .dead, .dead] [] [] [])) n a3 b4 i5) := by
      funext a3 b4 i5
      exact ih a3 b4 i5 k
    have h1 : draymanref13_Same_l0_ev draymanref11_Same (n + 1) (encSt draymanref13_Same_l0_t draymanref13_Same_l0_s draymanref13_Same_l0_h [.q (.int .i64 (.sl (.str (.int .i64 (.nil))) (.int .i64 (.nil)))) a3, .q (.int .i64 (.sl (.str (.int .i64 (.nil))) (.int .i64 (.nil)))) b4, .i i5]) k = draymanref13_Same_l0_step draymanref11_Same (fun y1 => k .ret (encSt [.dead, .dead, .dead, .dead, .bool, .dead, .dead, .dead, .dead, .dead, .dead, .dead, .dead, .dead, .dead, .dead, .dead, .dead, .dead, .dead, .dead, .dead, .dead, .dead, .dead, .dead, .dead, .dead, .dead, .dead, .dead, .dead, .dead, .dead, .dead, .dead, .dead, .dead, .dead, .dead, .dead, .dead, .dead, .dead, .dead, .dead, .dead, .dead, .dead, .dead, .dead, .dead, .dead, .dead, .dead] [] [] [.b y1])) (k (.exit 0) (encSt [.dead, .dead, .dead, .dead, .dead, .dead, .dead, .dead, .dead, .dead, .dead, .dead, .dead, .dead, .dead, .dead, .dead, .dead, .dead, .dead, .dead, .dead, .dead, .dead, .dead, .dead, .dead, .dead, .dead, .dead, .dead, .dead, .dead, .dead, .dead, .dead, .dead, .dead, .dead, .dead, .dead, .dead, .dead, .dead, .dead, .dead, .dead, .dead, .dead, .dead, .dead, .dead, .dead, .dead, .dead] [] [] [])) (fun (a3 : Seq (Int × (Seq (ByteArray × Int × Unit)) × Int × Unit)) (b4 : Seq (Int × (Seq (ByteArray × Int × Unit)) × Int × Unit)) (i5 : Int) => draymanref13_Same_l0_ev draymanref11_Same n (encSt draymanref13_Same_l0_t draymanref13_Same_l0_s draymanref13_Same_l0_h [.q (.int .i64 (.sl (.str (.int .i64 (.nil))) (.int .i64 (.nil)))) a3, .q (.int .i64 (.sl (.str (.int .i64 (.nil))) (.int .i64 (.nil)))) b4, .i i5]) k) a3 b4 i5 := by kernel_rfl
    have h2 := congrArg (fun r => draymanref13_Same_l0_step draymanref11_Same (fun y1 => k .ret (encSt [.dead, .dead, .dead, .dead, .bool, .dead, .dead, .dead, .dead, .dead, .dead, .dead, .dead, .dead, .dead, .dead, .dead, .dead, .dead, .dead, .dead, .dead, .dead, .dead, .dead, .dead, .dead, .dead, .dead, .dead, .dead, .dead, .dead, .dead, .dead, .dead, .dead, .dead, .dead, .dead, .dead, .dead, .dead, .dead, .dead, .dead, .dead, .dead, .dead, .dead, .dead, .dead, .dead, .dead, .dead] [] [] [.b y1])) (k (.exit 0) (encSt [.dead, .dead, .dead, .dead, .dead, .dead, .dead, .dead, .dead, .dead, .dead, .dead, .dead, .dead, .dead, .dead, .dead, .dead, .dead, .dead, .dead, .dead, .dead, .dead, .dead, .dead, .dead, .dead, .dead, .dead, .dead, .dead, .dead, .dead, .dead, .dead, .dead, .dead, .dead, .dead, .dead, .dead, .dead, .dead, .dead, .dead, .dead, .dead, .dead, .dead, .dead, .dead, .dead, .dead, .dead] [] [] [])) r a3 b4 i5) e
    have h3 : draymanref13_Same_l0_step draymanref11_Same (fun y1 => k .ret (encSt [.dead, .dead, .dead, .dead, .bool, .dead, .dead, .dead, .dead, .dead, .dead, .dead, .dead, .dead, .dead, .dead, .dead, .dead, .dead, .dead, .dead, .dead, .dead, .dead, .dead, .dead, .dead, .dead, .dead, .dead, .dead, .dead, .dead, .dead, .dead, .dead, .dead, .dead, .dead, .dead, .dead, .dead, .dead, .dead, .dead, .dead, .dead, .dead, .dead, .dead, .dead, .dead, .dead, .dead, .dead] [] [] [.b y1])) (k (.exit 0) (encSt [.dead, .dead, .dead, .dead, .dead, .dead, .dead, .dead, .dead, .dead, .dead, .dead, .dead, .dead, .dead, .dead, .dead, .dead, .dead, .dead, .dead, .dead, .dead, .dead, .dead, .dead, .dead, .dead, .dead, .dead, .dead, .dead, .dead, .dead, .dead, .dead, .dead, .dead, .dead, .dead, .dead, .dead, .dead, .dead, .dead, .dead, .dead, .dead, .dead, .dead, .dead, .dead, .dead, .dead, .dead] [] [] [])) (fun (a3 : Seq (Int × (Seq (ByteArray × Int × Unit)) × Int × Unit)) (b4 : Seq (Int × (Seq (ByteArray × Int × Unit)) × Int × Unit)) (i5 : Int) => draymanref13_Same_l0_run draymanref11_Same (fun y1 => k .ret (encSt [.dead, .dead, .dead, .dead, .bool, .dead, .dead, .dead, .dead, .dead, .dead, .dead, .dead, .dead, .dead, .dead, .dead, .dead, .dead, .dead, .dead, .dead, .dead, .dead, .dead, .dead, .dead, .dead, .dead, .dead, .dead, .dead, .dead, .dead, .dead, .dead, .dead, .dead, .dead, .dead, .dead, .dead, .dead, .dead, .dead, .dead, .dead, .dead, .dead, .dead, .dead, .dead, .dead, .dead, .dead] [] [] [.b y1])) (k (.exit 0) (encSt [.dead, .dead, .dead, .dead, .dead, .dead, .dead, .dead, .dead, .dead, .dead, .dead, .dead, .dead, .dead, .dead, .dead, .dead, .dead, .dead, .dead, .dead, .dead, .dead, .dead, .dead, .dead, .dead, .dead, .dead, .dead, .dead, .dead, .dead, .dead, .dead, .dead, .dead, .dead, .dead, .dead, .dead, .dead, .dead, .dead, .dead, .dead, .dead, .dead, .dead, .dead, .dead, .dead, .dead, .dead] [] [] [])) n a3 b4 i5) a3 b4 i5 = draymanref13_Same_l0_run draymanref11_Same (fun y1 => k .ret (encSt [.dead, .dead, .dead, .dead, .bool, .dead, .dead, .dead, .dead, .dead, .dead, .dead, .dead, .dead, .dead, .dead, .dead, .dead, .dead, .dead, .dead, .dead, .dead, .dead, .dead, .dead, .dead, .dead, .dead, .dead, .dead, .dead, .dead, .dead, .dead, .dead, .dead, .dead, .dead, .dead, .dead, .dead, .dead, .dead, .dead, .dead, .dead, .dead, .dead, .dead, .dead, .dead, .dead, .dead, .dead] [] [] [.b y1])) (k (.exit 0) (encSt [.dead, .dead, .dead, .dead, .dead, .dead, .dead, .dead, .dead, .dead, .dead, .dead, .dead, .dead, .dead, .dead, .dead, .dead, .dead, .dead, .dead, .dead, .dead, .dead, .dead, .dead, .dead, .dead, .dead, .dead, .dead, .dead, .dead, .dead, .dead, .dead, .dead, .dead, .dead, .dead, .dead, .dead, .dead, .dead, .dead, .dead, .dead, .dead, .dead, .dead, .dead, .dead, .dead, .dead, .dead] [] [] [])) (n + 1) a3 b4 i5 := by kernel_rfl
    exact h1.trans (h2.trans h3)

theorem draymanref13_Same_l0_ok {α : Type} (draymanref11_Same : draymanref11_Same_T α) : (draymanref13_Same_l0_spec draymanref11_Same : LoopSpec α).ok Go.Proofs.Tryd.prog (envOf (draymanref13_Same_C draymanref11_Same) draymanref13_Same_q draymanref13_Same_inl 1000 draymanref13_Same_ann false (draymanref13_Same_loops draymanref11_Same) (fun _ => none)) := by
  intro ds k
  have h1 : draymanref13_Same_l0_ev draymanref11_Same 1000 (encSt draymanref13_Same_l0_t draymanref13_Same_l0_s draymanref13_Same_l0_h ds) k = draymanref13_Same_l0_ev draymanref11_Same 1000 (encSt draymanref13_Same_l0_t draymanref13_Same_l0_s draymanref13_Same_l0_h [.q (.int .i64 (.sl (.str (.int .i64 (.nil))) (.int .i64 (.nil)))) (hdQ (.int .i64 (.sl (.str (.int .i64 (.nil))) (.int .i64 (.nil)))) ds), .q (.int .i64 (.sl (.str (.int .i64 (.nil))) (.int .i64 (.nil)))) (hdQ (.int .i64 (.sl (.str (.int .i64 (.nil))) (.int .i64 (.nil)))) ds.tail), .i (hdI ds.tail.tail)]) k := by kernel_rfl
  have h2 := draymanref13_Same_l0_eq draymanref11_Same 1000 (hdQ (.int .i64 (.sl (.str (.int .i64 (.nil))) (.int .i64 (.nil)))) ds) (hdQ (.int .i64 (.sl (.str (.int .i64 (.nil))) (.int .i64 (.nil)))) ds.tail) (hdI ds.tail.tail) k
  exact h1.trans h2

theorem draymanref13_Same_ev {α : Type} (draymanref11_Same : draymanref11_Same_T α) : EvOk (α := α) Go.Proofs.Tryd.prog (envOf (draymanref13_Same_C draymanref11_Same) draymanref13_Same_q draymanref13_Same_inl 1000 draymanref13_Same_ann false (draymanref13_Same_loops draymanref11_Same) (fun _ => none)) 6 (draymanref13_Same_sp (draymanref13_Same_g draymanref11_Same)) := by intro ds k; kernel_rfl

theorem draymanref13_Same_ok {α : Type} : (draymanref13_Same_spec : FunSpec α).ok Go.Proofs.Tryd.prog :=
  FunSpec.ok_of (sp := draymanref13_Same_spec) (C := draymanref13_Same_C draymanref11_Same) (q := draymanref13_Same_q) (inl := draymanref13_Same_inl) (N := 1000) (ann := draymanref13_Same_ann) (fr := false) (D := 6) (l := (draymanref13_Same_loops draymanref11_Same)) (hk := (fun _ => none)) (okCons draymanref11_Same_ok okNil) (lokCons (draymanref13_Same_l0_ok draymanref11_Same) lokNil) noHooks (draymanref13_Same_ev draymanref11_Same)

end
end Go.Rv.Tryd

set_option linter.unusedVariables false
set_option maxRecDepth 100000
set_option maxHeartbeats 4000000
namespace Go.Rv.Tryd
open Go Go.Rv Go.RowKit
noncomputable section

-- drayman/draymanref11.Of

abbrev draymanref11_Of_T (α : Type) : Type := (Seq (ByteArray × Int × Unit)) → ByteArray → (Int → Option α) → Option α

noncomputable def draymanref11_Of_l0_step {α : Type} (kr : (Int) → Option α) (k0 : Option α) (rec : (Seq (ByteArray × Int × Unit)) → (ByteArray) → (Int) → Option α) (l3 : Seq (ByteArray × Int × Unit)) (sku4 : ByteArray) (i5 : Int) : Option α :=
  (cond (decide (i5 < (l3.n : Int)))
    (cond ((decide ((0 : Int) ≤ i5)) && (decide (i5 < (l3.n : Int))))
      (cond ((l3.g i5.toNat).1.toList == sku4.toList)
        (cond ((decide ((0 : Int) ≤ i5)) && (decide (i5 < (l3.n : Int))))
          (kr ((l3.g i5.toNat).2.1))
          none)
        (rec l3 sku4 (IntKind.i64.wrap (i5 + 1))))
      none)
    (k0))

noncomputable def draymanref11_Of_l0_run {α : Type} (kr : (Int) → Option α) (k0 : Option α) : Nat → (Seq (ByteArray × Int × Unit)) → (ByteArray) → (Int) → Option α
  | 0, _, _, _ => none
  | n + 1, l3, sku4, i5 => draymanref11_Of_l0_step kr k0 (fun l3 sku4 i5 => draymanref11_Of_l0_run kr k0 n l3 sku4 i5) l3 sku4 i5

noncomputable def draymanref11_Of {α : Type} (l1 : Seq (ByteArray × Int × Unit)) (sku2 : ByteArray) (k : Int → Option α) : Option α :=
  (draymanref11_Of_l0_run
    (fun x6 =>
      (k x6))
    ((k 0))
    1000 l1 sku2 0)

noncomputable def draymanref11_Of_sp {α : Type} (draymanref11_Of : draymanref11_Of_T α) : FunSpec α := ⟨40, [.sl (.str (.int .i64 (.nil))), .str], [], fun ds k => draymanref11_Of (hdQ (.str (.int .i64 (.nil))) ds) (hdS ds.tail) (fun r1 => k (enc dep (.int .i64) [.i r1]).1 [])⟩

noncomputable def draymanref11_Of_spec {α : Type} : FunSpec α := draymanref11_Of_sp draymanref11_Of

noncomputable def draymanref11_Of_C {α : Type} : List (FunSpec α) := []

noncomputable def draymanref11_Of_q : FuncId → Bool := fun f => false

noncomputable def draymanref11_Of_inl : FuncId → Bool := fun f => false

noncomputable def draymanref11_Of_ann : FuncId → AnnT := fun f p => if f = 40 then (if p = [true, false, true] then ⟨[0, 1, 5], [], [], [4], 0, [], [], none⟩ else ⟨[], [], [], [], 0, [], [], none⟩) else ⟨[], [], [], [], 0, [], [], none⟩

noncomputable def draymanref11_Of_l0_t : List Sh := [.sl (.str (.int .i64 (.nil))), .str, .dead, .dead, .dead, .int .i64, .dead, .dead, .dead, .dead, .dead, .dead, .dead, .dead, .dead, .dead, .dead, .dead, .dead, .dead, .dead, .dead, .dead, .dead]
noncomputable def draymanref11_Of_l0_s : List (List Sh) := []
noncomputable def draymanref11_Of_l0_h : List BSh := []

noncomputable def draymanref11_Of_l0_spec {α : Type} : LoopSpec α := ⟨6, 40, [true, false, true], draymanref11_Of_l0_t, draymanref11_Of_l0_s, draymanref11_Of_l0_h, fun ds k => draymanref11_Of_l0_run (fun y1 => k .ret (encSt [.dead, .dead, .dead, .dead, .int .i64, .dead, .dead, .dead, .dead, .dead, .dead, .dead, .dead, .dead, .dead, .dead, .dead, .dead, .dead, .dead, .dead, .dead, .dead, .dead] [] [] [.i y1])) (k (.exit 0) (encSt [.dead, .dead, .dead, .dead, .dead, .dead, .dead, .dead, .dead, .dead, .dead, .dead, .dead, .dead, .dead, .dead, .dead, .dead, .dead, .dead, .dead, .dead, .dead, .dead] [] [] [])) 1000 (hdQ (.str (.int .i64 (.nil))) ds) (hdS ds.tail) (hdI ds.tail.tail)⟩

noncomputable def draymanref11_Of_loops {α : Type} : List (LoopSpec α) := [draymanref11_Of_l0_spec]

noncomputable def draymanref11_Of_l0_ev {α : Type} (n : Nat) (st : St) (k : X → St → Option α) : Option α := loopN (evCode Go.Proofs.Tryd.prog (callD Go.Proofs.Tryd.prog (envOf (draymanref11_Of_C) draymanref11_Of_q draymanref11_Of_inl 1000 draymanref11_Of_ann false (draymanref11_Of_loops) (fun _ => none)) 6) (((envOf (draymanref11_Of_C) draymanref11_Of_q draymanref11_Of_inl 1000 draymanref11_Of_ann false (draymanref11_Of_loops) (fun _ => none)) : Env α).L 6 40) 1000 (draymanref11_Of_ann 40) (false :: [true, false, true]) (loopC Go.Proofs.Tryd.prog 40 [true, false, true])) ((draymanref11_Of_ann 40 [true, false, true]).head 0) ((draymanref11_Of_ann 40 [true, false, true]).leave 0) n st k

theorem draymanref11_Of_l0_eq {α : Type} : ∀ (n : Nat) (l3 : Seq (ByteArray × Int × Unit)) (sku4 : ByteArray) (i5 : Int) (k : X → St → Option α), draymanref11_Of_l0_ev n (encSt draymanref11_Of_l0_t draymanref11_Of_l0_s draymanref11_Of_l0_h [.q (.str (.int .i64 (.nil))) l3, .s sku4, .i i5]) k = draymanref11_Of_l0_run (fun y1 => k .ret (encSt [.dead, .dead, .dead, .dead, .int .i64, .dead, .dead, .dead, .dead, .dead, .dead, .dead, .dead, .dead, .dead, .dead, .dead, .dead, .dead, .dead, .dead, .dead, .dead, .dead] [] [] [.i y1])) (k (.exit 0) (encSt [.dead, .dead, .dead, .dead, .dead, .dead, .dead, .dead, .dead, .dead, .dead, .dead, .dead, .dead, .dead, .dead, .dead, .dead, .dead, .dead, .dead, .dead, .dead, .dead] [] [] [])) n l3 sku4 i5 := by
  intro n
  induction n with
  | zero => intros; kernel_rfl
  | succ n ih =>
    intro l3 sku4 i5 k
    have e : (fun (l3 : Seq (ByteArray × Int × Unit)) (sku4 : ByteArray) (i5 : Int) => draymanref11_Of_l0_ev n (encSt draymanref11_Of_l0_t draymanref11_Of_l0_s draymanref11_Of_l0_h [.q (.str (.int .i64 (.nil))) l3, .s sku4, .i i5]) k) = (fun (l3 : Seq (ByteArray × Int × Unit)) (sku4 : ByteArray) (i5 : Int) => draymanref11_Of_l0_run (fun y1 => k .ret (encSt [.dead, .dead, .dead, .dead, .int .i64, .dead, .dead, .dead, .dead, .dead, .dead, .dead, .dead, .dead, .dead, .dead, .dead, .dead, .dead, .dead, .dead, .dead, .dead, .dead] [] [] [.i y1])) (k (.exit 0) (encSt [.dead, .dead, .dead, .dead, .dead, .dead, .dead, .dead, .dead, .dead, .dead, .dead, .dead, .dead, .dead, .dead, .dead, .dead, .dead, .dead, .dead, .dead, .dead, .dead] [] [] [])) n l3 sku4 i5) := by
      funext l3 sku4 i5
      exact ih l3 sku4 i5 k
    have h1 : draymanref11_Of_l0_ev (n + 1) (encSt draymanref11_Of_l0_t draymanref11_Of_l0_s draymanref11_Of_l0_h [.q (.str (.int .i64 (.nil))) l3, .s sku4, .i i5]) k = draymanref11_Of_l0_step (fun y1 => k .ret (encSt [.dead, .dead, .dead, .dead, .int .i64, .dead, .dead, .dead, .dead, .dead, .dead, .dead, .dead, .dead, .dead, .dead, .dead, .dead, .dead, .dead, .dead, .dead, .dead, .dead] [] [] [.i y1])) (k (.exit 0) (encSt [.dead, .dead, .dead, .dead, .dead, .dead, .dead, .dead, .dead, .dead, .dead, .dead, .dead, .dead, .dead, .dead, .dead, .dead, .dead, .dead, .dead, .dead, .dead, .dead] [] [] [])) (fun (l3 : Seq (ByteArray × Int × Unit)) (sku4 : ByteArray) (i5 : Int) => draymanref11_Of_l0_ev n (encSt draymanref11_Of_l0_t draymanref11_Of_l0_s draymanref11_Of_l0_h [.q (.str (.int .i64 (.nil))) l3, .s sku4, .i i5]) k) l3 sku4 i5 := by kernel_rfl
    have h2 := congrArg (fun r => draymanref11_Of_l0_step (fun y1 => k .ret (encSt [.dead, .dead, .dead, .dead, .int .i64, .dead, .dead, .dead, .dead, .dead, .dead, .dead, .dead, .dead, .dead, .dead, .dead, .dead, .dead, .dead, .dead, .dead, .dead, .dead] [] [] [.i y1])) (k (.exit 0) (encSt [.dead, .dead, .dead, .dead, .dead, .dead, .dead, .dead, .dead, .dead, .dead, .dead, .dead, .dead, .dead, .dead, .dead, .dead, .dead, .dead, .dead, .dead, .dead, .dead] [] [] [])) r l3 sku4 i5) e
    have h3 : draymanref11_Of_l0_step (fun y1 => k .ret (encSt [.dead, .dead, .dead, .dead, .int .i64, .dead, .dead, .dead, .dead, .dead, .dead, .dead, .dead, .dead, .dead, .dead, .dead, .dead, .dead, .dead, .dead, .dead, .dead, .dead] [] [] [.i y1])) (k (.exit 0) (encSt [.dead, .dead, .dead, .dead, .dead, .dead, .dead, .dead, .dead, .dead, .dead, .dead, .dead, .dead, .dead, .dead, .dead, .dead, .dead, .dead, .dead, .dead, .dead, .dead] [] [] [])) (fun (l3 : Seq (ByteArray × Int × Unit)) (sku4 : ByteArray) (i5 : Int) => draymanref11_Of_l0_run (fun y1 => k .ret (encSt [.dead, .dead, .dead, .dead, .int .i64, .dead, .dead, .dead, .dead, .dead, .dead, .dead, .dead, .dead, .dead, .dead, .dead, .dead, .dead, .dead, .dead, .dead, .dead, .dead] [] [] [.i y1])) (k (.exit 0) (encSt [.dead, .dead, .dead, .dead, .dead, .dead, .dead, .dead, .dead, .dead, .dead, .dead, .dead, .dead, .dead, .dead, .dead, .dead, .dead, .dead, .dead, .dead, .dead, .dead] [] [] [])) n l3 sku4 i5) l3 sku4 i5 = draymanref11_Of_l0_run (fun y1 => k .ret (encSt [.dead, .dead, .dead, .dead, .int .i64, .dead, .dead, .dead, .dead, .dead, .dead, .dead, .dead, .dead, .dead, .dead, .dead, .dead, .dead, .dead, .dead, .dead, .dead, .dead] [] [] [.i y1])) (k (.exit 0) (encSt [.dead, .dead, .dead, .dead, .dead, .dead, .dead, .dead, .dead, .dead, .dead, .dead, .dead, .dead, .dead, .dead, .dead, .dead, .dead, .dead, .dead, .dead, .dead, .dead] [] [] [])) (n + 1) l3 sku4 i5 := by kernel_rfl
    exact h1.trans (h2.trans h3)

theorem draymanref11_Of_l0_ok {α : Type} : (draymanref11_Of_l0_spec : LoopSpec α).ok Go.Proofs.Tryd.prog (envOf (draymanref11_Of_C) draymanref11_Of_q draymanref11_Of_inl 1000 draymanref11_Of_ann false (draymanref11_Of_loops) (fun _ => none)) := by
  intro ds k
  have h1 : draymanref11_Of_l0_ev 1000 (encSt draymanref11_Of_l0_t draymanref11_Of_l0_s draymanref11_Of_l0_h ds) k = draymanref11_Of_l0_ev 1000 (encSt draymanref11_Of_l0_t draymanref11_Of_l0_s draymanref11_Of_l0_h [.q (.str (.int .i64 (.nil))) (hdQ (.str (.int .i64 (.nil))) ds), .s (hdS ds.tail), .i (hdI ds.tail.tail)]) k := by kernel_rfl
  have h2 := draymanref11_Of_l0_eq 1000 (hdQ (.str (.int .i64 (.nil))) ds) (hdS ds.tail) (hdI ds.tail.tail) k
  exact h1.trans h2

theorem draymanref11_Of_ev {α : Type} : EvOk (α := α) Go.Proofs.Tryd.prog (envOf (draymanref11_Of_C) draymanref11_Of_q draymanref11_Of_inl 1000 draymanref11_Of_ann false (draymanref11_Of_loops) (fun _ => none)) 6 (draymanref11_Of_sp (draymanref11_Of)) := by intro ds k; kernel_rfl

theorem draymanref11_Of_ok {α : Type} : (draymanref11_Of_spec : FunSpec α).ok Go.Proofs.Tryd.prog :=
  FunSpec.ok_of (sp := draymanref11_Of_spec) (C := draymanref11_Of_C) (q := draymanref11_Of_q) (inl := draymanref11_Of_inl) (N := 1000) (ann := draymanref11_Of_ann) (fr := false) (D := 6) (l := (draymanref11_Of_loops)) (hk := (fun _ => none)) okNil (lokCons (draymanref11_Of_l0_ok) lokNil) noHooks (draymanref11_Of_ev)

end
end Go.Rv.Tryd

set_option linter.unusedVariables false
set_option maxRecDepth 100000
set_option maxHeartbeats 4000000
namespace Go.Rv.Tryd
open Go Go.Rv Go.RowKit
noncomputable section

-- drayman/draymanref13.Total

abbrev draymanref13_Total_T (α : Type) : Type := (Seq (Int × (Seq (ByteArray × Int × Unit)) × Int × Unit)) → ByteArray → (Int → Option α) → Option α

noncomputable def draymanref13_Total_l0_step {α : Type} (draymanref13_Fit : draymanref13_Fit_T α) (draymanref11_Of : draymanref11_Of_T α) (k0 : (Int) → Option α) (rec : (Seq (Int × (Seq (ByteArray × Int × Unit)) × Int × Unit)) → (ByteArray) → (Int) → (Int) → Option α) (l3 : Seq (Int × (Seq (ByteArray × Int × Unit)) × Int × Unit)) (sku4 : ByteArray) (n5 : Int) (i6 : Int) : Option α :=
  (cond (decide (i6 < (l3.n : Int)))
    (draymanref13_Fit l3 fun r7 =>
      (cond r7
        (cond ((decide ((0 : Int) ≤ i6)) && (decide (i6 < (l3.n : Int))))
          (draymanref11_Of ((l3.g i6.toNat).2.1) sku4 fun r8 =>
            (rec l3 sku4 (IntKind.i64.wrap (n5 + r8)) (IntKind.i64.wrap (i6 + 1))))
          none)
        (k0 n5)))
    (k0 n5))

noncomputable def draymanref13_Total_l0_run {α : Type} (draymanref13_Fit : draymanref13_Fit_T α) (draymanref11_Of : draymanref11_Of_T α) (k0 : (Int) → Option α) : Nat → (Seq (Int × (Seq (ByteArray × Int × Unit)) × Int × Unit)) → (ByteArray) → (Int) → (Int) → Option α
  | 0, _, _, _, _ => none
  | n + 1, l3, sku4, n5, i6 => draymanref13_Total_l0_step draymanref13_Fit draymanref11_Of k0 (fun l3 sku4 n5 i6 => draymanref13_Total_l0_run draymanref13_Fit draymanref11_Of k0 n l3 sku4 n5 i6) l3 sku4 n5 i6

noncomputable def draymanref13_Total_g {α : Type} (draymanref13_Fit : draymanref13_Fit_T α) (draymanref11_Of : draymanref11_Of_T α) (l1 : Seq (Int × (Seq (ByteArray × Int × Unit)) × Int × Unit)) (sku2 : ByteArray) (k : Int → Option α) : Option α :=
  (draymanref13_Total_l0_run draymanref13_Fit draymanref11_Of
    (fun x9 =>
      (k x9))
    1000 l1 sku2 0 0)

noncomputable def draymanref13_Total {α : Type} : draymanref13_Total_T α := draymanref13_Total_g draymanref13_Fit draymanref11_Of

noncomputable def draymanref13_Total_sp {α : Type} (draymanref13_Total : draymanref13_Total_T α) : FunSpec α := ⟨35, [.sl (.int .i64 (.sl (.str (.int .i64 (.nil))) (.int .i64 (.nil)))), .str], [], fun ds k => draymanref13_Total (hdQ (.int .i64 (.sl (.str (.int .i64 (.nil))) (.int .i64 (.nil)))) ds) (hdS ds.tail) (fun r1 => k (enc dep (.int .i64) [.i r1]).1 [])⟩

noncomputable def draymanref13_Total_spec {α : Type} : FunSpec α := draymanref13_Total_sp draymanref13_Total

noncomputable def draymanref13_Total_C {α : Type} (draymanref13_Fit : draymanref13_Fit_T α) (draymanref11_Of : draymanref11_Of_T α) : List (FunSpec α) := [draymanref13_Fit_sp draymanref13_Fit, draymanref11_Of_sp draymanref11_Of]

noncomputable def draymanref13_Total_q : FuncId → Bool := fun f => Nat.beq f 33 || Nat.beq f 40

noncomputable def draymanref13_Total_inl : FuncId → Bool := fun f => false

noncomputable def draymanref13_Total_ann : FuncId → AnnT := fun f p => if f = 35 then (if p = [true, false, true, true] then ⟨[0, 1, 5, 6], [], [5], [4], 0, [], [], none⟩ else ⟨[], [], [], [], 0, [], [], none⟩) else ⟨[], [], [], [], 0, [], [], none⟩

noncomputable def draymanref13_Total_l0_t : List Sh := [.sl (.int .i64 (.sl (.str (.int .i64 (.nil))) (.int .i64 (.nil)))), .str, .dead, .dead, .dead, .int .i64, .int .i64, .dead, .dead, .dead, .dead, .dead, .dead, .dead, .dead, .dead, .dead, .dead, .dead, .dead, .dead, .dead, .dead, .dead, .dead, .dead, .dead]
noncomputable def draymanref13_Total_l0_s : List (List Sh) := []
noncomputable def draymanref13_Total_l0_h : List BSh := []

noncomputable def draymanref13_Total_l0_spec {α : Type} (draymanref13_Fit : draymanref13_Fit_T α) (draymanref11_Of : draymanref11_Of_T α) : LoopSpec α := ⟨6, 35, [true, false, true, true], draymanref13_Total_l0_t, draymanref13_Total_l0_s, draymanref13_Total_l0_h, fun ds k => draymanref13_Total_l0_run draymanref13_Fit draymanref11_Of (fun y1 => k (.exit 0) (encSt [.dead, .dead, .dead, .dead, .dead, .int .i64, .dead, .dead, .dead, .dead, .dead, .dead, .dead, .dead, .dead, .dead, .dead, .dead, .dead, .dead, .dead, .dead, .dead, .dead, .dead, .dead, .dead] [] [] [.i y1])) 1000 (hdQ (.int .i64 (.sl (.str (.int .i64 (.nil))) (.int .i64 (.nil)))) ds) (hdS ds.tail) (hdI ds.tail.tail) (hdI ds.tail.tail.tail)⟩

noncomputable def draymanref13_Total_loops {α : Type} (draymanref13_Fit : draymanref13_Fit_T α) (draymanref11_Of : draymanref11_Of_T α) : List (LoopSpec α) := [draymanref13_Total_l0_spec draymanref13_Fit draymanref11_Of]

noncomputable def draymanref13_Total_l0_ev {α : Type} (draymanref13_Fit : draymanref13_Fit_T α) (draymanref11_Of : draymanref11_Of_T α) (n : Nat) (st : St) (k : X → St → Option α) : Option α := loopN (evCode Go.Proofs.Tryd.prog (callD Go.Proofs.Tryd.prog (envOf (draymanref13_Total_C draymanref13_Fit draymanref11_Of) draymanref13_Total_q draymanref13_Total_inl 1000 draymanref13_Total_ann false (draymanref13_Total_loops draymanref13_Fit draymanref11_Of) (fun _ => none)) 6) (((envOf (draymanref13_Total_C draymanref13_Fit draymanref11_Of) draymanref13_Total_q draymanref13_Total_inl 1000 draymanref13_Total_ann false (draymanref13_Total_loops draymanref13_Fit draymanref11_Of) (fun _ => none)) : Env α).L 6 35) 1000 (draymanref13_Total_ann 35) (false :: [true, false, true, true]) (loopC Go.Proofs.Tryd.prog 35 [true, false, true, true])) ((draymanref13_Total_ann 35 [true, false, true, true]).head 0) ((draymanref13_Total_ann 35 [true, false, true, true]).leave 0) n st k

theorem draymanref13_Total_l0_eq {α : Type} (draymanref13_Fit : draymanref13_Fit_T α) (draymanref11_Of : draymanref11_Of_T α) : ∀ (n : Nat) (l3 : Seq (Int × (Seq (ByteArray × Int × Unit)) × Int × Unit)) (sku4 : ByteArray) (n5 : Int) (i6 : Int) (k : X → St → Option α), draymanref13_Total_l0_ev draymanref13_Fit draymanref11_Of n (encSt draymanref13_Total_l0_t draymanref13_Total_l0_s draymanref13_Total_l0_h [.q (.int .i64 (.sl (.str (.int .i64 (.nil))) (.int .i64 (.nil)))) l3, .s sku4, .i n5, .i i6]) k = draymanref13_Total_l0_run draymanref13_Fit draymanref11_Of (fun y1 => k (.exit 0) (encSt [.dead, .dead, .dead, .dead, .dead, .int .i64, .dead, .dead, .dead, .dead, .dead, .dead, .dead, .dead, .dead, .dead, .dead, .dead, .dead, .dead, .dead, .dead, .dead, .dead, .dead, .dead, .dead] [] [] [.i y1])) n l3 sku4 n5 i6 := by
  intro n
  induction n with
  | zero => intros; kernel_rfl
  | succ n ih =>
    intro l3 sku4 n5 i6 k
    have e : (fun (l3 : Seq (Int × (Seq (ByteArray × Int × Unit)) × Int × Unit)) (sku4 : ByteArray) (n5 : Int) (i6 : Int) => draymanref13_Total_l0_ev draymanref13_Fit draymanref11_Of n (encSt draymanref13_Total_l0_t draymanref13_Total_l0_s draymanref13_Total_l0_h [.q (.int .i64 (.sl (.str (.int .i64 (.nil))) (.int .i64 (.nil)))) l3, .s sku4, .i n5, .i i6]) k) = (fun (l3 : Seq (Int × (Seq (ByteArray × Int × Unit)) × Int × Unit)) (sku4 : ByteArray) (n5 : Int) (i6 : Int) => draymanref13_Total_l0_run draymanref13_Fit draymanref11_Of (fun y1 => k (.exit 0) (encSt [.dead, .dead, .dead, .dead, .dead, .int .i64, .dead, .dead, .dead, .dead, .dead, .dead, .dead, .dead, .dead, .dead, .dead, .dead, .dead, .dead, .dead, .dead, .dead, .dead, .dead, .dead, .dead] [] [] [.i y1])) n l3 sku4 n5 i6) := by
      funext l3 sku4 n5 i6
      exact ih l3 sku4 n5 i6 k
    have h1 : draymanref13_Total_l0_ev draymanref13_Fit draymanref11_Of (n + 1) (encSt draymanref13_Total_l0_t draymanref13_Total_l0_s draymanref13_Total_l0_h [.q (.int .i64 (.sl (.str (.int .i64 (.nil))) (.int .i64 (.nil)))) l3, .s sku4, .i n5, .i i6]) k = draymanref13_Total_l0_step draymanref13_Fit draymanref11_Of (fun y1 => k (.exit 0) (encSt [.dead, .dead, .dead, .dead, .dead, .int .i64, .dead, .dead, .dead, .dead, .dead, .dead, .dead, .dead, .dead, .dead, .dead, .dead, .dead, .dead, .dead, .dead, .dead, .dead, .dead, .dead, .dead] [] [] [.i y1])) (fun (l3 : Seq (Int × (Seq (ByteArray × Int × Unit)) × Int × Unit)) (sku4 : ByteArray) (n5 : Int) (i6 : Int) => draymanref13_Total_l0_ev draymanref13_Fit draymanref11_Of n (encSt draymanref13_Total_l0_t draymanref13_Total_l0_s draymanref13_Total_l0_h [.q (.int .i64 (.sl (.str (.int .i64 (.nil))) (.int .i64 (.nil)))) l3, .s sku4, .i n5, .i i6]) k) l3 sku4 n5 i6 := by kernel_rfl
    have h2 := congrArg (fun r => draymanref13_Total_l0_step draymanref13_Fit draymanref11_Of (fun y1 => k (.exit 0) (encSt [.dead, .dead, .dead, .dead, .dead, .int .i64, .dead, .dead, .dead, .dead, .dead, .dead, .dead, .dead, .dead, .dead, .dead, .dead, .dead, .dead, .dead, .dead, .dead, .dead, .dead, .dead, .dead] [] [] [.i y1])) r l3 sku4 n5 i6) e
    have h3 : draymanref13_Total_l0_step draymanref13_Fit draymanref11_Of (fun y1 => k (.exit 0) (encSt [.dead, .dead, .dead, .dead, .dead, .int .i64, .dead, .dead, .dead, .dead, .dead, .dead, .dead, .dead, .dead, .dead, .dead, .dead, .dead, .dead, .dead, .dead, .dead, .dead, .dead, .dead, .dead] [] [] [.i y1])) (fun (l3 : Seq (Int × (Seq (ByteArray × Int × Unit)) × Int × Unit)) (sku4 : ByteArray) (n5 : Int) (i6 : Int) => draymanref13_Total_l0_run draymanref13_Fit draymanref11_Of (fun y1 => k (.exit 0) (encSt [.dead, .dead, .dead, .dead, .dead, .int .i64, .dead, .dead, .dead, .dead, .dead, .dead, .dead, .dead, .dead, .dead, .dead, .dead, .dead, .dead, .dead, .dead, .dead, .dead, .dead, .dead, .dead] [] [] [.i y1])) n l3 sku4 n5 i6) l3 sku4 n5 i6 = draymanref13_Total_l0_run draymanref13_Fit draymanref11_Of (fun y1 => k (.exit 0) (encSt [.dead, .dead, .dead, .dead, .dead, .int .i64, .dead, .dead, .dead, .dead, .dead, .dead, .dead, .dead, .dead, .dead, .dead, .dead, .dead, .dead, .dead, .dead, .dead, .dead, .dead, .dead, .dead] [] [] [.i y1])) (n + 1) l3 sku4 n5 i6 := by kernel_rfl
    exact h1.trans (h2.trans h3)

theorem draymanref13_Total_l0_ok {α : Type} (draymanref13_Fit : draymanref13_Fit_T α) (draymanref11_Of : draymanref11_Of_T α) : (draymanref13_Total_l0_spec draymanref13_Fit draymanref11_Of : LoopSpec α).ok Go.Proofs.Tryd.prog (envOf (draymanref13_Total_C draymanref13_Fit draymanref11_Of) draymanref13_Total_q draymanref13_Total_inl 1000 draymanref13_Total_ann false (draymanref13_Total_loops draymanref13_Fit draymanref11_Of) (fun _ => none)) := by
  intro ds k
  have h1 : draymanref13_Total_l0_ev draymanref13_Fit draymanref11_Of 1000 (encSt draymanref13_Total_l0_t draymanref13_Total_l0_s draymanref13_Total_l0_h ds) k = draymanref13_Total_l0_ev draymanref13_Fit draymanref11_Of 1000 (encSt draymanref13_Total_l0_t draymanref13_Total_l0_s draymanref13_Total_l0_h [.q (.int .i64 (.sl (.str (.int .i64 (.nil))) (.int .i64 (.nil)))) (hdQ (.int .i64 (.sl (.str (.int .i64 (.nil))) (.int .i64 (.nil)))) ds), .s (hdS ds.tail), .i (hdI ds.tail.tail), .i (hdI ds.tail.tail.tail)]) k := by kernel_rfl
  have h2 := draymanref13_Total_l0_eq draymanref13_Fit draymanref11_Of 1000 (hdQ (.int .i64 (.sl (.str (.int .i64 (.nil))) (.int .i64 (.nil)))) ds) (hdS ds.tail) (hdI ds.tail.tail) (hdI ds.tail.tail.tail) k
  exact h1.trans h2

theorem draymanref13_Total_ev {α : Type} (draymanref13_Fit : draymanref13_Fit_T α) (draymanref11_Of : draymanref11_Of_T α) : EvOk (α := α) Go.Proofs.Tryd.prog (envOf (draymanref13_Total_C draymanref13_Fit draymanref11_Of) draymanref13_Total_q draymanref13_Total_inl 1000 draymanref13_Total_ann false (draymanref13_Total_loops draymanref13_Fit draymanref11_Of) (fun _ => none)) 6 (draymanref13_Total_sp (draymanref13_Total_g draymanref13_Fit draymanref11_Of)) := by intro ds k; kernel_rfl

theorem draymanref13_Total_ok {α : Type} : (draymanref13_Total_spec : FunSpec α).ok Go.Proofs.Tryd.prog :=
  FunSpec.ok_of (sp := draymanref13_Total_spec) (C := draymanref13_Total_C draymanref13_Fit draymanref11_Of) (q := draymanref13_Total_q) (inl := draymanref13_Total_inl) (N := 1000) (ann := draymanref13_Total_ann) (fr := false) (D := 6) (l := (draymanref13_Total_loops draymanref13_Fit draymanref11_Of)) (hk := (fun _ => none)) (okCons draymanref13_Fit_ok (okCons draymanref11_Of_ok okNil)) (lokCons (draymanref13_Total_l0_ok draymanref13_Fit draymanref11_Of) lokNil) noHooks (draymanref13_Total_ev draymanref13_Fit draymanref11_Of)

end
end Go.Rv.Tryd

set_option linter.unusedVariables false
set_option maxRecDepth 100000
set_option maxHeartbeats 4000000
namespace Go.Rv.Tryd
open Go Go.Rv Go.RowKit
noncomputable section

-- drayman/draymanref13.Due

abbrev draymanref13_Due_T (α : Type) : Type := (Seq (Int × (Seq (ByteArray × Int × Unit)) × Int × Unit)) → Int → ((Seq (Int × Unit)) → Option α) → Option α

noncomputable def draymanref13_Due_l0_step {α : Type} (k0 : (Seq (Int × Unit)) → (Seq (Int × Unit)) → Option α) (rec : (Seq (Int × (Seq (ByteArray × Int × Unit)) × Int × Unit)) → (Int) → (Int) → (Seq (Int × Unit)) → (Seq (Int × Unit)) → Option α) (l3 : Seq (Int × (Seq (ByteArray × Int × Unit)) × Int × Unit)) (now4 : Int) (i5 : Int) (q6 : Seq (Int × Unit)) (q7 : Seq (Int × Unit)) : Option α :=
  (cond (decide (i5 < (l3.n : Int)))
    (cond ((decide ((0 : Int) ≤ i5)) && (decide (i5 < (l3.n : Int))))
      (cond ((l3.g i5.toNat).2.2.1 != 0)
        (cond ((decide ((0 : Int) ≤ i5)) && (decide (i5 < (l3.n : Int))))
          (cond (decide ((l3.g i5.toNat).2.2.1 ≤ now4))
            (cond ((decide ((0 : Int) ≤ i5)) && (decide (i5 < (l3.n : Int))))
              (cond (decide (((q7.n + 1)) * 8 ≤ 140737488355328))
                (rec l3 now4 (IntKind.i64.wrap (i5 + 1)) q6 (⟨(q7.nl && false), (q7.n + 1), (tApp q7.n q7.g (fun _ => ((l3.g i5.toNat).1, ())))⟩ : Seq (Int × Unit)))
                none)
              none)
            (rec l3 now4 (IntKind.i64.wrap (i5 + 1)) q6 q7))
          none)
        (rec l3 now4 (IntKind.i64.wrap (i5 + 1)) q6 q7))
      none)
    (k0 q6 q7))

noncomputable def draymanref13_Due_l0_run {α : Type} (k0 : (Seq (Int × Unit)) → (Seq (Int × Unit)) → Option α) : Nat → (Seq (Int × (Seq (ByteArray × Int × Unit)) × Int × Unit)) → (Int) → (Int) → (Seq (Int × Unit)) → (Seq (Int × Unit)) → Option α
  | 0, _, _, _, _, _ => none
  | n + 1, l3, now4, i5, q6, q7 => draymanref13_Due_l0_step k0 (fun l3 now4 i5 q6 q7 => draymanref13_Due_l0_run k0 n l3 now4 i5 q6 q7) l3 now4 i5 q6 q7

noncomputable def draymanref13_Due {α : Type} (l1 : Seq (Int × (Seq (ByteArray × Int × Unit)) × Int × Unit)) (now2 : Int) (k : (Seq (Int × Unit)) → Option α) : Option α :=
  (draymanref13_Due_l0_run
    (fun q8 q9 =>
      (k q9))
    1000 l1 now2 0 (⟨true, 0, (fun _ => (0, ()))⟩ : Seq (Int × Unit)) (⟨true, 0, (fun _ => (0, ()))⟩ : Seq (Int × Unit)))

noncomputable def draymanref13_Due_sp {α : Type} (draymanref13_Due : draymanref13_Due_T α) : FunSpec α := ⟨38, [.sl (.int .i64 (.sl (.str (.int .i64 (.nil))) (.int .i64 (.nil)))), .int .i64], [], fun ds k => draymanref13_Due (hdQ (.int .i64 (.sl (.str (.int .i64 (.nil))) (.int .i64 (.nil)))) ds) (hdI ds.tail) (fun q1 => k (enc dep (.own 0) []).1 (encBs [.row true (.int .i64 (.nil))] [.q (.int .i64 (.nil)) q1]).1)⟩

noncomputable def draymanref13_Due_spec {α : Type} : FunSpec α := draymanref13_Due_sp draymanref13_Due

noncomputable def draymanref13_Due_C {α : Type} : List (FunSpec α) := []

noncomputable def draymanref13_Due_q : FuncId → Bool := fun f => false

noncomputable def draymanref13_Due_inl : FuncId → Bool := fun f => false

noncomputable def draymanref13_Due_ann : FuncId → AnnT := fun f p => if f = 38 then (if p = [true, false, true, true] then ⟨[0, 1, 5, 6], [0, 1], [5], [4], 0, [], [], none⟩ else ⟨[], [], [], [], 0, [], [], none⟩) else ⟨[], [], [], [], 0, [], [], none⟩

noncomputable def draymanref13_Due_l0_t : List Sh := [.sl (.int .i64 (.sl (.str (.int .i64 (.nil))) (.int .i64 (.nil)))), .int .i64, .dead, .dead, .dead, .own 1, .int .i64, .dead, .dead, .dead, .dead, .dead, .dead, .dead, .dead, .dead, .dead, .dead, .dead, .dead, .dead, .dead, .dead, .dead, .dead, .dead, .dead, .dead, .dead, .dead, .dead, .dead, .dead, .dead, .dead, .dead, .dead]
noncomputable def draymanref13_Due_l0_s : List (List Sh) := []
noncomputable def draymanref13_Due_l0_h : List BSh := [.row true (.int .i64 (.nil)), .row true (.int .i64 (.nil))]

noncomputable def draymanref13_Due_l0_spec {α : Type} : LoopSpec α := ⟨6, 38, [true, false, true, true], draymanref13_Due_l0_t, draymanref13_Due_l0_s, draymanref13_Due_l0_h, fun ds k => draymanref13_Due_l0_run (fun y1 y2 => k (.exit 0) (encSt [.dead, .dead, .dead, .dead, .dead, .own 1, .dead, .dead, .dead, .dead, .dead, .dead, .dead, .dead, .dead, .dead, .dead, .dead, .dead, .dead, .dead, .dead, .dead, .dead, .dead, .dead, .dead, .dead, .dead, .dead, .dead, .dead, .dead, .dead, .dead, .dead, .dead] [] [.row true (.int .i64 (.nil)), .row true (.int .i64 (.nil))] [.q (.int .i64 (.nil)) y1, .q (.int .i64 (.nil)) y2])) 1000 (hdQ (.int .i64 (.sl (.str (.int .i64 (.nil))) (.int .i64 (.nil)))) ds) (hdI ds.tail) (hdI ds.tail.tail) (hdQ (.int .i64 (.nil)) ds.tail.tail.tail) (hdQ (.int .i64 (.nil)) ds.tail.tail.tail.tail)⟩

noncomputable def draymanref13_Due_loops {α : Type} : List (LoopSpec α) := [draymanref13_Due_l0_spec]

noncomputable def draymanref13_Due_l0_ev {α : Type} (n : Nat) (st : St) (k : X → St → Option α) : Option α := loopN (evCode Go.Proofs.Tryd.prog (callD Go.Proofs.Tryd.prog (envOf (draymanref13_Due_C) draymanref13_Due_q draymanref13_Due_inl 1000 draymanref13_Due_ann false (draymanref13_Due_loops) (fun _ => none)) 6) (((envOf (draymanref13_Due_C) draymanref13_Due_q draymanref13_Due_inl 1000 draymanref13_Due_ann false (draymanref13_Due_loops) (fun _ => none)) : Env α).L 6 38) 1000 (draymanref13_Due_ann 38) (false :: [true, false, true, true]) (loopC Go.Proofs.Tryd.prog 38 [true, false, true, true])) ((draymanref13_Due_ann 38 [true, false, true, true]).head 2) ((draymanref13_Due_ann 38 [true, false, true, true]).leave 2) n st k

theorem draymanref13_Due_l0_eq {α : Type} : ∀ (n : Nat) (l3 : Seq (Int × (Seq (ByteArray × Int × Unit)) × Int × Unit)) (now4 : Int) (i5 : Int) (q6 : Seq (Int × Unit)) (q7 : Seq (Int × Unit)) (k : X → St → Option α), draymanref13_Due_l0_ev n (encSt draymanref13_Due_l0_t draymanref13_Due_l0_s draymanref13_Due_l0_h [.q (.int .i64 (.sl (.str (.int .i64 (.nil))) (.int .i64 (.nil)))) l3, .i now4, .i i5, .q (.int .i64 (.nil)) q6, .q (.int .i64 (.nil)) q7]) k = draymanref13_Due_l0_run (fun y1 y2 => k (.exit 0) (encSt [.dead, .dead, .dead, .dead, .dead, .own 1, .dead, .dead, .dead, .dead, .dead, .dead, .dead, .dead, .dead, .dead, .dead, .dead, .dead, .dead, .dead, .dead, .dead, .dead, .dead, .dead, .dead, .dead, .dead, .dead, .dead, .dead, .dead, .dead, .dead, .dead, .dead] [] [.row true (.int .i64 (.nil)), .row true (.int .i64 (.nil))] [.q (.int .i64 (.nil)) y1, .q (.int .i64 (.nil)) y2])) n l3 now4 i5 q6 q7 := by
  intro n
  induction n with
  | zero => intros; kernel_rfl
  | succ n ih =>
    intro l3 now4 i5 q6 q7 k
    have e : (fun (l3 : Seq (Int × (Seq (ByteArray × Int × Unit)) × Int × Unit)) (now4 : Int) (i5 : Int) (q6 : Seq (Int × Unit)) (q7 : Seq (Int × Unit)) => draymanref13_Due_l0_ev n (encSt draymanref13_Due_l0_t draymanref13_Due_l0_s draymanref13_Due_l0_h [.q (.int .i64 (.sl (.str (.int .i64 (.nil))) (.int .i64 (.nil)))) l3, .i now4, .i i5, .q (.int .i64 (.nil)) q6, .q (.int .i64 (.nil)) q7]) k) = (fun (l3 : Seq (Int × (Seq (ByteArray × Int × Unit)) × Int × Unit)) (now4 : Int) (i5 : Int) (q6 : Seq (Int × Unit)) (q7 : Seq (Int × Unit)) => draymanref13_Due_l0_run (fun y1 y2 => k (.exit 0) (encSt [.dead, .dead, .dead, .dead, .dead, .own 1, .dead, .dead, .dead, .dead, .dead, .dead, .dead, .dead, .dead, .dead, .dead, .dead, .dead, .dead, .dead, .dead, .dead, .dead, .dead, .dead, .dead, .dead, .dead, .dead, .dead, .dead, .dead, .dead, .dead, .dead, .dead] [] [.row true (.int .i64 (.nil)), .row true (.int .i64 (.nil))] [.q (.int .i64 (.nil)) y1, .q (.int .i64 (.nil)) y2])) n l3 now4 i5 q6 q7) := by
      funext l3 now4 i5 q6 q7
      exact ih l3 now4 i5 q6 q7 k
    have h1 : draymanref13_Due_l0_ev (n + 1) (encSt draymanref13_Due_l0_t draymanref13_Due_l0_s draymanref13_Due_l0_h [.q (.int .i64 (.sl (.str (.int .i64 (.nil))) (.int .i64 (.nil)))) l3, .i now4, .i i5, .q (.int .i64 (.nil)) q6, .q (.int .i64 (.nil)) q7]) k = draymanref13_Due_l0_step (fun y1 y2 => k (.exit 0) (encSt [.dead, .dead, .dead, .dead, .dead, .own 1, .dead, .dead, .dead, .dead, .dead, .dead, .dead, .dead, .dead, .dead, .dead, .dead, .dead, .dead, .dead, .dead, .dead, .dead, .dead, .dead, .dead, .dead, .dead, .dead, .dead, .dead, .dead, .dead, .dead, .dead, .dead] [] [.row true (.int .i64 (.nil)), .row true (.int .i64 (.nil))] [.q (.int .i64 (.nil)) y1, .q (.int .i64 (.nil)) y2])) (fun (l3 : Seq (Int × (Seq (ByteArray × Int × Unit)) × Int × Unit)) (now4 : Int) (i5 : Int) (q6 : Seq (Int × Unit)) (q7 : Seq (Int × Unit)) => draymanref13_Due_l0_ev n (encSt draymanref13_Due_l0_t draymanref13_Due_l0_s draymanref13_Due_l0_h [.q (.int .i64 (.sl (.str (.int .i64 (.nil))) (.int .i64 (.nil)))) l3, .i now4, .i i5, .q (.int .i64 (.nil)) q6, .q (.int .i64 (.nil)) q7]) k) l3 now4 i5 q6 q7 := by kernel_rfl
    have h2 := congrArg (fun r => draymanref13_Due_l0_step (fun y1 y2 => k (.exit 0) (encSt [.dead, .dead, .dead, .dead, .dead, .own 1, .dead, .dead, .dead, .dead, .dead, .dead, .dead, .dead, .dead, .dead, .dead, .dead, .dead, .dead, .dead, .dead, .dead, .dead, .dead, .dead, .dead, .dead, .dead, .dead, .dead, .dead, .dead, .dead, .dead, .dead, .dead] [] [.row true (.int .i64 (.nil)), .row true (.int .i64 (.nil))] [.q (.int .i64 (.nil)) y1, .q (.int .i64 (.nil)) y2])) r l3 now4 i5 q6 q7) e
    have h3 : draymanref13_Due_l0_step (fun y1 y2 => k (.exit 0) (encSt [.dead, .dead, .dead, .dead, .dead, .own 1, .dead, .dead, .dead, .dead, .dead, .dead, .dead, .dead, .dead, .dead, .dead, .dead, .dead, .dead, .dead, .dead, .dead, .dead, .dead, .dead, .dead, .dead, .dead, .dead, .dead, .dead, .dead, .dead, .dead, .dead, .dead] [] [.row true (.int .i64 (.nil)), .row true (.int .i64 (.nil))] [.q (.int .i64 (.nil)) y1, .q (.int .i64 (.nil)) y2])) (fun (l3 : Seq (Int × (Seq (ByteArray × Int × Unit)) × Int × Unit)) (now4 : Int) (i5 : Int) (q6 : Seq (Int × Unit)) (q7 : Seq (Int × Unit)) => draymanref13_Due_l0_run (fun y1 y2 => k (.exit 0) (encSt [.dead, .dead, .dead, .dead, .dead, .own 1, .dead, .dead, .dead, .dead, .dead, .dead, .dead, .dead, .dead, .dead, .dead, .dead, .dead, .dead, .dead, .dead, .dead, .dead, .dead, .dead, .dead, .dead, .dead, .dead, .dead, .dead, .dead, .dead, .dead, .dead, .dead] [] [.row true (.int .i64 (.nil)), .row true (.int .i64 (.nil))] [.q (.int .i64 (.nil)) y1, .q (.int .i64 (.nil)) y2])) n l3 now4 i5 q6 q7) l3 now4 i5 q6 q7 = draymanref13_Due_l0_run (fun y1 y2 => k (.exit 0) (encSt [.dead, .dead, .dead, .dead, .dead, .own 1, .dead, .dead, .dead, .dead, .dead, .dead, .dead, .dead, .dead, .dead, .dead, .dead, .dead, .dead, .dead, .dead, .dead, .dead, .dead, .dead, .dead, .dead, .dead, .dead, .dead, .dead, .dead, .dead, .dead, .dead, .dead] [] [.row true (.int .i64 (.nil)), .row true (.int .i64 (.nil))] [.q (.int .i64 (.nil)) y1, .q (.int .i64 (.nil)) y2])) (n + 1) l3 now4 i5 q6 q7 := by kernel_rfl
    exact h1.trans (h2.trans h3)

theorem draymanref13_Due_l0_ok {α : Type} : (draymanref13_Due_l0_spec : LoopSpec α).ok Go.Proofs.Tryd.prog (envOf (draymanref13_Due_C) draymanref13_Due_q draymanref13_Due_inl 1000 draymanref13_Due_ann false (draymanref13_Due_loops) (fun _ => none)) := by
  intro ds k
  have h1 : draymanref13_Due_l0_ev 1000 (encSt draymanref13_Due_l0_t draymanref13_Due_l0_s draymanref13_Due_l0_h ds) k = draymanref13_Due_l0_ev 1000 (encSt draymanref13_Due_l0_t draymanref13_Due_l0_s draymanref13_Due_l0_h [.q (.int .i64 (.sl (.str (.int .i64 (.nil))) (.int .i64 (.nil)))) (hdQ (.int .i64 (.sl (.str (.int .i64 (.nil))) (.int .i64 (.nil)))) ds), .i (hdI ds.tail), .i (hdI ds.tail.tail), .q (.int .i64 (.nil)) (hdQ (.int .i64 (.nil)) ds.tail.tail.tail), .q (.int .i64 (.nil)) (hdQ (.int .i64 (.nil)) ds.tail.tail.tail.tail)]) k := by kernel_rfl
  have h2 := draymanref13_Due_l0_eq 1000 (hdQ (.int .i64 (.sl (.str (.int .i64 (.nil))) (.int .i64 (.nil)))) ds) (hdI ds.tail) (hdI ds.tail.tail) (hdQ (.int .i64 (.nil)) ds.tail.tail.tail) (hdQ (.int .i64 (.nil)) ds.tail.tail.tail.tail) k
  exact h1.trans h2

theorem draymanref13_Due_ev {α : Type} : EvOk (α := α) Go.Proofs.Tryd.prog (envOf (draymanref13_Due_C) draymanref13_Due_q draymanref13_Due_inl 1000 draymanref13_Due_ann false (draymanref13_Due_loops) (fun _ => none)) 6 (draymanref13_Due_sp (draymanref13_Due)) := by intro ds k; kernel_rfl

theorem draymanref13_Due_ok {α : Type} : (draymanref13_Due_spec : FunSpec α).ok Go.Proofs.Tryd.prog :=
  FunSpec.ok_of (sp := draymanref13_Due_spec) (C := draymanref13_Due_C) (q := draymanref13_Due_q) (inl := draymanref13_Due_inl) (N := 1000) (ann := draymanref13_Due_ann) (fr := false) (D := 6) (l := (draymanref13_Due_loops)) (hk := (fun _ => none)) okNil (lokCons (draymanref13_Due_l0_ok) lokNil) noHooks (draymanref13_Due_ev)

end
end Go.Rv.Tryd

set_option linter.unusedVariables false
set_option maxRecDepth 100000
set_option maxHeartbeats 4000000
namespace Go.Rv.Tryd
open Go Go.Rv Go.RowKit
noncomputable section

-- slices.Equal[[]drayman/api.Line,drayman/api.Line]

abbrev slices_Equal_api_Line_api_Line_T (α : Type) : Type := (Seq (ByteArray × Int × Unit)) → (Seq (ByteArray × Int × Unit)) → (Bool → Option α) → Option α

noncomputable def slices_Equal_api_Line_api_Line_l0_step {α : Type} (kr : (Bool) → Option α) (k0 : Option α) (rec : (Seq (ByteArray × Int × Unit)) → (Seq (ByteArray × Int × Unit)) → (Int) → (Int) → Option α) (x3 : Seq (ByteArray × Int × Unit)) (x4 : Seq (ByteArray × Int × Unit)) (x5 : Int) (x6 : Int) : Option α :=
  (cond (decide (x6 < x5))
    (cond (((decide ((0 : Int) ≤ x6)) && (decide (x6 < (x3.n : Int)))) && ((decide ((0 : Int) ≤ x6)) && (decide (x6 < (x3.n : Int)))))
      (cond (((decide ((0 : Int) ≤ x6)) && (decide (x6 < (x4.n : Int)))) && ((decide ((0 : Int) ≤ x6)) && (decide (x6 < (x4.n : Int)))))
        (cond (!(((x3.g x6.toNat).1.toList == (x4.g x6.toNat).1.toList) && (((x3.g x6.toNat).2.1 == (x4.g x6.toNat).2.1) && true)))
          (kr false)
          (rec x3 x4 x5 (IntKind.i64.wrap (x6 + 1))))
        none)
      none)
    (k0))

noncomputable def slices_Equal_api_Line_api_Line_l0_run {α : Type} (kr : (Bool) → Option α) (k0 : Option α) : Nat → (Seq (ByteArray × Int × Unit)) → (Seq (ByteArray × Int × Unit)) → (Int) → (Int) → Option α
  | 0, _, _, _, _ => none
  | n + 1, x3, x4, x5, x6 => slices_Equal_api_Line_api_Line_l0_step kr k0 (fun x3 x4 x5 x6 => slices_Equal_api_Line_api_Line_l0_run kr k0 n x3 x4 x5 x6) x3 x4 x5 x6

noncomputable def slices_Equal_api_Line_api_Line {α : Type} (x1 : Seq (ByteArray × Int × Unit)) (x2 : Seq (ByteArray × Int × Unit)) (k : Bool → Option α) : Option α :=
  (cond ((x1.n : Int) != (x2.n : Int))
    (k false)
    (slices_Equal_api_Line_api_Line_l0_run
      (fun x7 =>
        (k x7))
      ((k true))
      1000 x1 x2 (x1.n : Int) 0))

noncomputable def slices_Equal_api_Line_api_Line_sp {α : Type} (slices_Equal_api_Line_api_Line : slices_Equal_api_Line_api_Line_T α) : FunSpec α := ⟨106, [.sl (.str (.int .i64 (.nil))), .sl (.str (.int .i64 (.nil)))], [], fun ds k => slices_Equal_api_Line_api_Line (hdQ (.str (.int .i64 (.nil))) ds) (hdQ (.str (.int .i64 (.nil))) ds.tail) (fun r1 => k (enc dep (.bool) [.b r1]).1 [])⟩

noncomputable def slices_Equal_api_Line_api_Line_spec {α : Type} : FunSpec α := slices_Equal_api_Line_api_Line_sp slices_Equal_api_Line_api_Line

noncomputable def slices_Equal_api_Line_api_Line_C {α : Type} : List (FunSpec α) := []

noncomputable def slices_Equal_api_Line_api_Line_q : FuncId → Bool := fun f => false

noncomputable def slices_Equal_api_Line_api_Line_inl : FuncId → Bool := fun f => false

noncomputable def slices_Equal_api_Line_api_Line_ann : FuncId → AnnT := fun f p => if f = 106 then (if p = [true, false, true, true] then ⟨[0, 1, 12, 13], [], [], [4], 0, [], [], none⟩ else ⟨[], [], [], [], 0, [], [], none⟩) else ⟨[], [], [], [], 0, [], [], none⟩

noncomputable def slices_Equal_api_Line_api_Line_l0_t : List Sh := [.sl (.str (.int .i64 (.nil))), .sl (.str (.int .i64 (.nil))), .dead, .dead, .dead, .dead, .dead, .dead, .dead, .dead, .dead, .dead, .int .i64, .int .i64, .dead, .dead, .dead, .dead, .dead, .dead, .dead, .dead, .dead, .dead, .dead, .dead]
noncomputable def slices_Equal_api_Line_api_Line_l0_s : List (List Sh) := []
noncomputable def slices_Equal_api_Line_api_Line_l0_h : List BSh := []

noncomputable def slices_Equal_api_Line_api_Line_l0_spec {α : Type} : LoopSpec α := ⟨6, 106, [true, false, true, true], slices_Equal_api_Line_api_Line_l0_t, slices_Equal_api_Line_api_Line_l0_s, slices_Equal_api_Line_api_Line_l0_h, fun ds k => slices_Equal_api_Line_api_Line_l0_run (fun y1 => k .ret (encSt [.dead, .dead, .dead, .dead, .bool, .dead, .dead, .dead, .dead, .dead, .dead, .dead, .dead, .dead, .dead, .dead, .dead, .dead, .dead, .dead, .dead, .dead, .dead, .dead, .dead, .dead] [] [] [.b y1])) (k (.exit 0) (encSt [.dead, .dead, .dead, .dead, .dead, .dead, .dead, .dead, .dead, .dead, .dead, .dead, .dead, .dead, .dead, .dead, .dead, .dead, .dead, .dead, .dead, .dead, .dead, .dead, .dead, .dead] [] [] [])) 1000 (hdQ (.str (.int .i64 (.nil))) ds) (hdQ (.str (.int .i64 (.nil))) ds.tail) (hdI ds.tail.tail) (hdI ds.tail.tail.tail)⟩

noncomputable def slices_Equal_api_Line_api_Line_loops {α : Type} : List (LoopSpec α) := [slices_Equal_api_Line_api_Line_l0_spec]

noncomputable def slices_Equal_api_Line_api_Line_l0_ev {α : Type} (n : Nat) (st : St) (k : X → St → Option α) : Option α := loopN (evCode Go.Proofs.Tryd.prog (callD Go.Proofs.Tryd.prog (envOf (slices_Equal_api_Line_api_Line_C) slices_Equal_api_Line_api_Line_q slices_Equal_api_Line_api_Line_inl 1000 slices_Equal_api_Line_api_Line_ann false (slices_Equal_api_Line_api_Line_loops) (fun _ => none)) 6) (((envOf (slices_Equal_api_Line_api_Line_C) slices_Equal_api_Line_api_Line_q slices_Equal_api_Line_api_Line_inl 1000 slices_Equal_api_Line_api_Line_ann false (slices_Equal_api_Line_api_Line_loops) (fun _ => none)) : Env α).L 6 106) 1000 (slices_Equal_api_Line_api_Line_ann 106) (false :: [true, false, true, true]) (loopC Go.Proofs.Tryd.prog 106 [true, false, true, true])) ((slices_Equal_api_Line_api_Line_ann 106 [true, false, true, true]).head 0) ((slices_Equal_api_Line_api_Line_ann 106 [true, false, true, true]).leave 0) n st k

theorem slices_Equal_api_Line_api_Line_l0_eq {α : Type} : ∀ (n : Nat) (x3 : Seq (ByteArray × Int × Unit)) (x4 : Seq (ByteArray × Int × Unit)) (x5 : Int) (x6 : Int) (k : X → St → Option α), slices_Equal_api_Line_api_Line_l0_ev n (encSt slices_Equal_api_Line_api_Line_l0_t slices_Equal_api_Line_api_Line_l0_s slices_Equal_api_Line_api_Line_l0_h [.q (.str (.int .i64 (.nil))) x3, .q (.str (.int .i64 (.nil))) x4, .i x5, .i x6]) k = slices_Equal_api_Line_api_Line_l0_run (fun y1 => k .ret (encSt [.dead, .dead, .dead, .dead, .bool, .dead, .dead, .dead, .dead, .dead, .dead, .dead, .dead, .dead, .dead, .dead, .dead, .dead, .dead, .dead, .dead, .dead, .dead, .dead, .dead, .dead] [] [] [.b y1])) (k (.exit 0) (encSt [.dead, .dead, .dead, .dead, .dead, .dead, .dead, .dead, .dead, .dead, .dead, .dead, .dead, .dead, .dead, .dead, .dead, .dead, .dead, .dead, .dead, .dead, .dead, .dead, .dead, .dead] [] [] [])) n x3 x4 x5 x6 := by
  intro n
  induction n with
  | zero => intros; kernel_rfl
  | succ n ih =>
    intro x3 x4 x5 x6 k
    have e : (fun (x3 : Seq (ByteArray × Int × Unit)) (x4 : Seq (ByteArray × Int × Unit)) (x5 : Int) (x6 : Int) => slices_Equal_api_Line_api_Line_l0_ev n (encSt slices_Equal_api_Line_api_Line_l0_t slices_Equal_api_Line_api_Line_l0_s slices_Equal_api_Line_api_Line_l0_h [.q (.str (.int .i64 (.nil))) x3, .q (.str (.int .i64 (.nil))) x4, .i x5, .i x6]) k) = (fun (x3 : Seq (ByteArray × Int × Unit)) (x4 : Seq (ByteArray × Int × Unit)) (x5 : Int) (x6 : Int) => slices_Equal_api_Line_api_Line_l0_run (fun y1 => k .ret (encSt [.dead, .dead, .dead, .dead, .bool, .dead, .dead, .dead, .dead, .dead, .dead, .dead, .dead, .dead, .dead, .dead, .dead, .dead, .dead, .dead, .dead, .dead, .dead, .dead, .dead, .dead] [] [] [.b y1])) (k (.exit 0) (encSt [.dead, .dead, .dead, .dead, .dead, .dead, .dead, .dead, .dead, .dead, .dead, .dead, .dead, .dead, .dead, .dead, .dead, .dead, .dead, .dead, .dead, .dead, .dead, .dead, .dead, .dead] [] [] [])) n x3 x4 x5 x6) := by
      funext x3 x4 x5 x6
      exact ih x3 x4 x5 x6 k
    have h1 : slices_Equal_api_Line_api_Line_l0_ev (n + 1) (encSt slices_Equal_api_Line_api_Line_l0_t slices_Equal_api_Line_api_Line_l0_s slices_Equal_api_Line_api_Line_l0_h [.q (.str (.int .i64 (.nil))) x3, .q (.str (.int .i64 (.nil))) x4, .i x5, .i x6]) k = slices_Equal_api_Line_api_Line_l0_step (fun y1 => k .ret (encSt [.dead, .dead, .dead, .dead, .bool, .dead, .dead, .dead, .dead, .dead, .dead, .dead, .dead, .dead, .dead, .dead, .dead, .dead, .dead, .dead, .dead, .dead, .dead, .dead, .dead, .dead] [] [] [.b y1])) (k (.exit 0) (encSt [.dead, .dead, .dead, .dead, .dead, .dead, .dead, .dead, .dead, .dead, .dead, .dead, .dead, .dead, .dead, .dead, .dead, .dead, .dead, .dead, .dead, .dead, .dead, .dead, .dead, .dead] [] [] [])) (fun (x3 : Seq (ByteArray × Int × Unit)) (x4 : Seq (ByteArray × Int × Unit)) (x5 : Int) (x6 : Int) => slices_Equal_api_Line_api_Line_l0_ev n (encSt slices_Equal_api_Line_api_Line_l0_t slices_Equal_api_Line_api_Line_l0_s slices_Equal_api_Line_api_Line_l0_h [.q (.str (.int .i64 (.nil))) x3, .q (.str (.int .i64 (.nil))) x4, .i x5, .i x6]) k) x3 x4 x5 x6 := by kernel_rfl
    have h2 := congrArg (fun r => slices_Equal_api_Line_api_Line_l0_step (fun y1 => k .ret (encSt [.dead, .dead, .dead, .dead, .bool, .dead, .dead, .dead, .dead, .dead, .dead, .dead, .dead, .dead, .dead, .dead, .dead, .dead, .dead, .dead, .dead, .dead, .dead, .dead, .dead, .dead] [] [] [.b y1])) (k (.exit 0) (encSt [.dead, .dead, .dead, .dead, .dead, .dead, .dead, .dead, .dead, .dead, .dead, .dead, .dead, .dead, .dead, .dead, .dead, .dead, .dead, .dead, .dead, .dead, .dead, .dead, .dead, .dead] [] [] [])) r x3 x4 x5 x6) e
    have h3 : slices_Equal_api_Line_api_Line_l0_step (fun y1 => k .ret (encSt [.dead, .dead, .dead, .dead, .bool, .dead, .dead, .dead, .dead, .dead, .dead, .dead, .dead, .dead, .dead, .dead, .dead, .dead, .dead, .dead, .dead, .dead, .dead, .dead, .dead, .dead] [] [] [.b y1])) (k (.exit 0) (encSt [.dead, .dead, .dead, .dead, .dead, .dead, .dead, .dead, .dead, .dead, .dead, .dead, .dead, .dead, .dead, .dead, .dead, .dead, .dead, .dead, .dead, .dead, .dead, .dead, .dead, .dead] [] [] [])) (fun (x3 : Seq (ByteArray × Int × Unit)) (x4 : Seq (ByteArray × Int × Unit)) (x5 : Int) (x6 : Int) => slices_Equal_api_Line_api_Line_l0_run (fun y1 => k .ret (encSt [.dead, .dead, .dead, .dead, .bool, .dead, .dead, .dead, .dead, .dead, .dead, .dead, .dead, .dead, .dead, .dead, .dead, .dead, .dead, .dead, .dead, .dead, .dead, .dead, .dead, .dead] [] [] [.b y1])) (k (.exit 0) (encSt [.dead, .dead, .dead, .dead, .dead, .dead, .dead, .dead, .dead, .dead, .dead, .dead, .dead, .dead, .dead, .dead, .dead, .dead, .dead, .dead, .dead, .dead, .dead, .dead, .dead, .dead] [] [] [])) n x3 x4 x5 x6) x3 x4 x5 x6 = slices_Equal_api_Line_api_Line_l0_run (fun y1 => k .ret (encSt [.dead, .dead, .dead, .dead, .bool, .dead, .dead, .dead, .dead, .dead, .dead, .dead, .dead, .dead, .dead, .dead, .dead, .dead, .dead, .dead, .dead, .dead, .dead, .dead, .dead, .dead] [] [] [.b y1])) (k (.exit 0) (encSt [.dead, .dead, .dead, .dead, .dead, .dead, .dead, .dead, .dead, .dead, .dead, .dead, .dead, .dead, .dead, .dead, .dead, .dead, .dead, .dead, .dead, .dead, .dead, .dead, .dead, .dead] [] [] [])) (n + 1) x3 x4 x5 x6 := by kernel_rfl
    exact h1.trans (h2.trans h3)

theorem slices_Equal_api_Line_api_Line_l0_ok {α : Type} : (slices_Equal_api_Line_api_Line_l0_spec : LoopSpec α).ok Go.Proofs.Tryd.prog (envOf (slices_Equal_api_Line_api_Line_C) slices_Equal_api_Line_api_Line_q slices_Equal_api_Line_api_Line_inl 1000 slices_Equal_api_Line_api_Line_ann false (slices_Equal_api_Line_api_Line_loops) (fun _ => none)) := by
  intro ds k
  have h1 : slices_Equal_api_Line_api_Line_l0_ev 1000 (encSt slices_Equal_api_Line_api_Line_l0_t slices_Equal_api_Line_api_Line_l0_s slices_Equal_api_Line_api_Line_l0_h ds) k = slices_Equal_api_Line_api_Line_l0_ev 1000 (encSt slices_Equal_api_Line_api_Line_l0_t slices_Equal_api_Line_api_Line_l0_s slices_Equal_api_Line_api_Line_l0_h [.q (.str (.int .i64 (.nil))) (hdQ (.str (.int .i64 (.nil))) ds), .q (.str (.int .i64 (.nil))) (hdQ (.str (.int .i64 (.nil))) ds.tail), .i (hdI ds.tail.tail), .i (hdI ds.tail.tail.tail)]) k := by kernel_rfl
  have h2 := slices_Equal_api_Line_api_Line_l0_eq 1000 (hdQ (.str (.int .i64 (.nil))) ds) (hdQ (.str (.int .i64 (.nil))) ds.tail) (hdI ds.tail.tail) (hdI ds.tail.tail.tail) k
  exact h1.trans h2

theorem slices_Equal_api_Line_api_Line_ev {α : Type} : EvOk (α := α) Go.Proofs.Tryd.prog (envOf (slices_Equal_api_Line_api_Line_C) slices_Equal_api_Line_api_Line_q slices_Equal_api_Line_api_Line_inl 1000 slices_Equal_api_Line_api_Line_ann false (slices_Equal_api_Line_api_Line_loops) (fun _ => none)) 6 (slices_Equal_api_Line_api_Line_sp (slices_Equal_api_Line_api_Line)) := by intro ds k; kernel_rfl

theorem slices_Equal_api_Line_api_Line_ok {α : Type} : (slices_Equal_api_Line_api_Line_spec : FunSpec α).ok Go.Proofs.Tryd.prog :=
  FunSpec.ok_of (sp := slices_Equal_api_Line_api_Line_spec) (C := slices_Equal_api_Line_api_Line_C) (q := slices_Equal_api_Line_api_Line_q) (inl := slices_Equal_api_Line_api_Line_inl) (N := 1000) (ann := slices_Equal_api_Line_api_Line_ann) (fr := false) (D := 6) (l := (slices_Equal_api_Line_api_Line_loops)) (hk := (fun _ => none)) okNil (lokCons (slices_Equal_api_Line_api_Line_l0_ok) lokNil) noHooks (slices_Equal_api_Line_api_Line_ev)

end
end Go.Rv.Tryd

set_option linter.unusedVariables false
set_option maxRecDepth 100000
set_option maxHeartbeats 4000000
namespace Go.Rv.Tryd
open Go Go.Rv Go.RowKit
noncomputable section

-- drayman/lines.Same

abbrev lines_Same_T (α : Type) : Type := (Seq (ByteArray × Int × Unit)) → (Seq (ByteArray × Int × Unit)) → (Bool → Option α) → Option α

noncomputable def lines_Same_g {α : Type} (slices_Equal_api_Line_api_Line : slices_Equal_api_Line_api_Line_T α) (a1 : Seq (ByteArray × Int × Unit)) (b2 : Seq (ByteArray × Int × Unit)) (k : Bool → Option α) : Option α :=
  (slices_Equal_api_Line_api_Line a1 b2 fun r3 =>
    (k r3))

noncomputable def lines_Same {α : Type} : lines_Same_T α := lines_Same_g slices_Equal_api_Line_api_Line

noncomputable def lines_Same_sp {α : Type} (lines_Same : lines_Same_T α) : FunSpec α := ⟨72, [.sl (.str (.int .i64 (.nil))), .sl (.str (.int .i64 (.nil)))], [], fun ds k => lines_Same (hdQ (.str (.int .i64 (.nil))) ds) (hdQ (.str (.int .i64 (.nil))) ds.tail) (fun r1 => k (enc dep (.bool) [.b r1]).1 [])⟩

noncomputable def lines_Same_spec {α : Type} : FunSpec α := lines_Same_sp lines_Same

noncomputable def lines_Same_C {α : Type} (slices_Equal_api_Line_api_Line : slices_Equal_api_Line_api_Line_T α) : List (FunSpec α) := [slices_Equal_api_Line_api_Line_sp slices_Equal_api_Line_api_Line]

noncomputable def lines_Same_q : FuncId → Bool := fun f => Nat.beq f 106

noncomputable def lines_Same_inl : FuncId → Bool := fun f => false

noncomputable def lines_Same_ann : FuncId → AnnT := fun f p => ⟨[], [], [], [], 0, [], [], none⟩

noncomputable def lines_Same_loops {α : Type} (slices_Equal_api_Line_api_Line : slices_Equal_api_Line_api_Line_T α) : List (LoopSpec α) := []

theorem lines_Same_ev {α : Type} (slices_Equal_api_Line_api_Line : slices_Equal_api_Line_api_Line_T α) : EvOk (α := α) Go.Proofs.Tryd.prog (envOf (lines_Same_C slices_Equal_api_Line_api_Line) lines_Same_q lines_Same_inl 1000 lines_Same_ann false (lines_Same_loops slices_Equal_api_Line_api_Line) (fun _ => none)) 6 (lines_Same_sp (lines_Same_g slices_Equal_api_Line_api_Line)) := by intro ds k; kernel_rfl

theorem lines_Same_ok {α : Type} : (lines_Same_spec : FunSpec α).ok Go.Proofs.Tryd.prog :=
  FunSpec.ok_of (sp := lines_Same_spec) (C := lines_Same_C slices_Equal_api_Line_api_Line) (q := lines_Same_q) (inl := lines_Same_inl) (N := 1000) (ann := lines_Same_ann) (fr := false) (D := 6) (l := (lines_Same_loops slices_Equal_api_Line_api_Line)) (hk := (fun _ => none)) (okCons slices_Equal_api_Line_api_Line_ok okNil) lokNil noHooks (lines_Same_ev slices_Equal_api_Line_api_Line)

end
end Go.Rv.Tryd

set_option linter.unusedVariables false
set_option maxRecDepth 100000
set_option maxHeartbeats 4000000
namespace Go.Rv.Tryd
open Go Go.Rv Go.RowKit
noncomputable section

-- drayman/holds.Same$1

abbrev holds_Same_1_T (α : Type) : Type := (Int × (Seq (ByteArray × Int × Unit)) × Int × Unit) → (Int × (Seq (ByteArray × Int × Unit)) × Int × Unit) → (Bool → Option α) → Option α

noncomputable def holds_Same_1_g {α : Type} (lines_Same : lines_Same_T α) (x1 : Int × (Seq (ByteArray × Int × Unit)) × Int × Unit) (y2 : Int × (Seq (ByteArray × Int × Unit)) × Int × Unit) (k : Bool → Option α) : Option α :=
  (cond (x1.1 == y2.1)
    (cond (x1.2.2.1 == y2.2.2.1)
      (lines_Same x1.2.1 y2.2.1 fun r3 =>
        (k r3))
      (k false))
    (k false))

noncomputable def holds_Same_1 {α : Type} : holds_Same_1_T α := holds_Same_1_g lines_Same

noncomputable def holds_Same_1_sp {α : Type} (holds_Same_1 : holds_Same_1_T α) : FunSpec α := ⟨71, [.agg [.int .i64, .sl (.str (.int .i64 (.nil))), .int .i64], .agg [.int .i64, .sl (.str (.int .i64 (.nil))), .int .i64]], [], fun ds k => holds_Same_1 (hdI ds, hdQ (.str (.int .i64 (.nil))) ds.tail, hdI ds.tail.tail, ()) (hdI ds.tail.tail.tail, hdQ (.str (.int .i64 (.nil))) ds.tail.tail.tail.tail, hdI ds.tail.tail.tail.tail.tail, ()) (fun r1 => k (enc dep (.bool) [.b r1]).1 [])⟩

noncomputable def holds_Same_1_spec {α : Type} : FunSpec α := holds_Same_1_sp holds_Same_1

noncomputable def holds_Same_1_C {α : Type} (lines_Same : lines_Same_T α) : List (FunSpec α) := [lines_Same_sp lines_Same]

noncomputable def holds_Same_1_q : FuncId → Bool := fun f => Nat.beq f 72

noncomputable def holds_Same_1_inl : FuncId → Bool := fun f => false

noncomputable def holds_Same_1_ann : FuncId → AnnT := fun f p => ⟨[], [], [], [], 0, [], [], none⟩

noncomputable def holds_Same_1_loops {α : Type} (lines_Same : lines_Same_T α) : List (LoopSpec α) := []

theorem holds_Same_1_ev {α : Type} (lines_Same : lines_Same_T α) : EvOk (α := α) Go.Proofs.Tryd.prog (envOf (holds_Same_1_C lines_Same) holds_Same_1_q holds_Same_1_inl 1000 holds_Same_1_ann false (holds_Same_1_loops lines_Same) (fun _ => none)) 6 (holds_Same_1_sp (holds_Same_1_g lines_Same)) := by intro ds k; kernel_rfl

theorem holds_Same_1_ok {α : Type} : (holds_Same_1_spec : FunSpec α).ok Go.Proofs.Tryd.prog :=
  FunSpec.ok_of (sp := holds_Same_1_spec) (C := holds_Same_1_C lines_Same) (q := holds_Same_1_q) (inl := holds_Same_1_inl) (N := 1000) (ann := holds_Same_1_ann) (fr := false) (D := 6) (l := (holds_Same_1_loops lines_Same)) (hk := (fun _ => none)) (okCons lines_Same_ok okNil) lokNil noHooks (holds_Same_1_ev lines_Same)

end
end Go.Rv.Tryd
