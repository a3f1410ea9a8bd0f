/- What the functions of the program compute, each with the proof that its code computes it. Written by a program (rvp2.py). -/
import Derived.Test.YtpncgjpaecpcoaaDoorProg
import Derived.Test.YtpncgjpaecpcoaaDoorRvP
import Derived.Test.YtpncgjpaecpcoaaDoorFx
import Derived.Test.YtpncgjpaecpcoaaDoorUtf8
import Derived.Test.YtpncgjpaecpcoaaDoorHooks
import Derived.Test.YtpncgjpaecpcoaaDoorE0

set_option linter.unusedVariables false
set_option maxRecDepth 100000
set_option maxHeartbeats 4000000
namespace Go.Rv.Tryd
open Go Go.Rv Go.RowKit
noncomputable section

-- drayman/draymanref02.Fold

abbrev draymanref02_Fold_T (α : Type) : Type := ByteArray → (ByteArray → Int → Option α) → Option α

noncomputable def draymanref02_Fold_l0_step {α : Type} (draymanref02_Runes : draymanref02_Runes_T α) (draymanref02_Rune : draymanref02_Rune_T α) (draymanref02_octets : draymanref02_octets_T α) (draymanref02_Fit : draymanref02_Fit_T α) (kr : (ByteArray) → (Int) → Option α) (k0 : (ByteArray) → Option α) (rec : (Seq (Int × Unit)) → (ByteArray) → (Int) → Option α) (l4 : Seq (Int × Unit)) (out5 : ByteArray) (i6 : Int) : Option α :=
  (cond (decide (i6 < (l4.n : Int)))
    (cond ((decide ((0 : Int) ≤ i6)) && (decide (i6 < (l4.n : Int))))
      (cond (decide ((l4.g i6.toNat).1 ≥ 65))
        (cond (!(decide ((l4.g i6.toNat).1 ≤ 90)))
          (cond (decide ((l4.g i6.toNat).1 ≥ 192))
            (cond (decide ((l4.g i6.toNat).1 ≤ 222))
              (cond ((l4.g i6.toNat).1 != 215)
                (draymanref02_Rune (IntKind.i64.wrap ((l4.g i6.toNat).1 + 32)) fun r7 =>
                  (cond (!r7)
                    (kr (⟨#[]⟩ : ByteArray) 7)
                    (draymanref02_octets (IntKind.i64.wrap ((l4.g i6.toNat).1 + 32)) fun r8 =>
                      (cond (decide ((((out5).size + (r8).size : Nat) : Int) ≤ IntKind.i64.max))
                        (rec l4 (out5 ++ r8) (IntKind.i64.wrap (i6 + 1)))
                        none))))
                (draymanref02_Rune ((l4.g i6.toNat).1) fun r9 =>
                  (cond (!r9)
                    (kr (⟨#[]⟩ : ByteArray) 7)
                    (draymanref02_octets ((l4.g i6.toNat).1) fun r10 =>
                      (cond (decide ((((out5).size + (r10).size : Nat) : Int) ≤ IntKind.i64.max))
                        (rec l4 (out5 ++ r10) (IntKind.i64.wrap (i6 + 1)))
                        none)))))
              (draymanref02_Rune ((l4.g i6.toNat).1) fun r11 =>
                (cond (!r11)
                  (kr (⟨#[]⟩ : ByteArray) 7)
                  (draymanref02_octets ((l4.g i6.toNat).1) fun r12 =>
                    (cond (decide ((((out5).size + (r12).size : Nat) : Int) ≤ IntKind.i64.max))
                      (rec l4 (out5 ++ r12) (IntKind.i64.wrap (i6 + 1)))
                      none)))))
            (draymanref02_Rune ((l4.g i6.toNat).1) fun r13 =>
              (cond (!r13)
                (kr (⟨#[]⟩ : ByteArray) 7)
                (draymanref02_octets ((l4.g i6.toNat).1) fun r14 =>
                  (cond (decide ((((out5).size + (r14).size : Nat) : Int) ≤ IntKind.i64.max))
                    (rec l4 (out5 ++ r14) (IntKind.i64.wrap (i6 + 1)))
                    none)))))
          (draymanref02_Rune (IntKind.i64.wrap ((l4.g i6.toNat).1 + 32)) fun r15 =>
            (cond (!r15)
              (kr (⟨#[]⟩ : ByteArray) 7)
              (draymanref02_octets (IntKind.i64.wrap ((l4.g i6.toNat).1 + 32)) fun r16 =>
                (cond (decide ((((out5).size + (r16).size : Nat) : Int) ≤ IntKind.i64.max))
                  (rec l4 (out5 ++ r16) (IntKind.i64.wrap (i6 + 1)))
                  none)))))
        (cond (decide ((l4.g i6.toNat).1 ≥ 192))
          (cond (decide ((l4.g i6.toNat).1 ≤ 222))
            (cond ((l4.g i6.toNat).1 != 215)
              (draymanref02_Rune (IntKind.i64.wrap ((l4.g i6.toNat).1 + 32)) fun r17 =>
                (cond (!r17)
                  (kr (⟨#[]⟩ : ByteArray) 7)
                  (draymanref02_octets (IntKind.i64.wrap ((l4.g i6.toNat).1 + 32)) fun r18 =>
                    (cond (decide ((((out5).size + (r18).size : Nat) : Int) ≤ IntKind.i64.max))
                      (rec l4 (out5 ++ r18) (IntKind.i64.wrap (i6 + 1)))
                      none))))
              (draymanref02_Rune ((l4.g i6.toNat).1) fun r19 =>
                (cond (!r19)
                  (kr (⟨#[]⟩ : ByteArray) 7)
                  (draymanref02_octets ((l4.g i6.toNat).1) fun r20 =>
                    (cond (decide ((((out5).size + (r20).size : Nat) : Int) ≤ IntKind.i64.max))
                      (rec l4 (out5 ++ r20) (IntKind.i64.wrap (i6 + 1)))
                      none)))))
            (draymanref02_Rune ((l4.g i6.toNat).1) fun r21 =>
              (cond (!r21)
                (kr (⟨#[]⟩ : ByteArray) 7)
                (draymanref02_octets ((l4.g i6.toNat).1) fun r22 =>
                  (cond (decide ((((out5).size + (r22).size : Nat) : Int) ≤ IntKind.i64.max))
                    (rec l4 (out5 ++ r22) (IntKind.i64.wrap (i6 + 1)))
                    none)))))
          (draymanref02_Rune ((l4.g i6.toNat).1) fun r23 =>
            (cond (!r23)
              (kr (⟨#[]⟩ : ByteArray) 7)
              (draymanref02_octets ((l4.g i6.toNat).1) fun r24 =>
                (cond (decide ((((out5).size + (r24).size : Nat) : Int) ≤ IntKind.i64.max))
                  (rec l4 (out5 ++ r24) (IntKind.i64.wrap (i6 + 1)))
                  none))))))
      none)
    (k0 out5))

noncomputable def draymanref02_Fold_l0_run {α : Type} (draymanref02_Runes : draymanref02_Runes_T α) (draymanref02_Rune : draymanref02_Rune_T α) (draymanref02_octets : draymanref02_octets_T α) (draymanref02_Fit : draymanref02_Fit_T α) (kr : (ByteArray) → (Int) → Option α) (k0 : (ByteArray) → Option α) : Nat → (Seq (Int × Unit)) → (ByteArray) → (Int) → Option α
  | 0, _, _, _ => none
  | n + 1, l4, out5, i6 => draymanref02_Fold_l0_step draymanref02_Runes draymanref02_Rune draymanref02_octets draymanref02_Fit kr k0 (fun l4 out5 i6 => draymanref02_Fold_l0_run draymanref02_Runes draymanref02_Rune draymanref02_octets draymanref02_Fit kr k0 n l4 out5 i6) l4 out5 i6

noncomputable def draymanref02_Fold_g {α : Type} (draymanref02_Runes : draymanref02_Runes_T α) (draymanref02_Rune : draymanref02_Rune_T α) (draymanref02_octets : draymanref02_octets_T α) (draymanref02_Fit : draymanref02_Fit_T α) (s1 : ByteArray) (k : ByteArray → Int → Option α) : Option α :=
  (cond (decide ((s1.size : Int) > 48))
    (k (⟨#[]⟩ : ByteArray) 7)
    (draymanref02_Runes s1 fun r2 r3 =>
      (cond (!r3)
        (k (⟨#[]⟩ : ByteArray) 7)
        (draymanref02_Fold_l0_run draymanref02_Runes draymanref02_Rune draymanref02_octets draymanref02_Fit
          (fun x25 x26 =>
            (k x25 x26))
          (fun x27 =>
            (draymanref02_Fit x27 fun r28 =>
              (cond (!r28)
                (k (⟨#[]⟩ : ByteArray) 7)
                (k x27 0))))
          1000 r2 (⟨#[]⟩ : ByteArray) 0))))

noncomputable def draymanref02_Fold {α : Type} : draymanref02_Fold_T α := draymanref02_Fold_g draymanref02_Runes draymanref02_Rune draymanref02_octets draymanref02_Fit

noncomputable def draymanref02_Fold_sp {α : Type} (draymanref02_Fold : draymanref02_Fold_T α) : FunSpec α := ⟨16, [.str], [], fun ds k => draymanref02_Fold (hdS ds) (fun r1 r2 => k (enc dep (.tup [.str, .int .i64]) [.s r1, .i r2]).1 [])⟩

noncomputable def draymanref02_Fold_spec {α : Type} : FunSpec α := draymanref02_Fold_sp draymanref02_Fold

noncomputable def draymanref02_Fold_C {α : Type} (draymanref02_Runes : draymanref02_Runes_T α) (draymanref02_Rune : draymanref02_Rune_T α) (draymanref02_octets : draymanref02_octets_T α) (draymanref02_Fit : draymanref02_Fit_T α) : List (FunSpec α) := [draymanref02_Runes_sp draymanref02_Runes, draymanref02_Rune_sp draymanref02_Rune, draymanref02_octets_sp draymanref02_octets, draymanref02_Fit_sp draymanref02_Fit]

noncomputable def draymanref02_Fold_q : FuncId → Bool := fun f => Nat.beq f 10 || Nat.beq f 14 || Nat.beq f 26

noncomputable def draymanref02_Fold_inl : FuncId → Bool := fun f => false

noncomputable def draymanref02_Fold_ann : FuncId → AnnT := fun f p => if f = 16 then (if p = [true, false, true, true, true, true, true] then ⟨[4, 6, 7], [], [6], [2, 3], 0, [], []⟩ else ⟨[], [], [], [], 0, [], []⟩) else ⟨[], [], [], [], 0, [], []⟩

noncomputable def draymanref02_Fold_l0_t : List Sh := [.dead, .dead, .dead, .dead, .sl (.int .i64 (.nil)), .dead, .str, .int .i64, .dead, .dead, .dead, .dead, .dead, .dead, .dead, .dead, .dead, .dead, .dead, .dead, .dead, .dead, .dead, .dead, .dead, .dead, .dead, .dead, .dead, .dead, .dead, .dead, .dead, .dead, .dead, .dead, .dead, .dead, .dead, .dead, .dead, .dead, .dead, .dead, .dead, .dead, .dead, .dead, .dead, .dead, .dead, .dead, .dead, .dead, .dead, .dead, .dead, .dead, .dead, .dead]
noncomputable def draymanref02_Fold_l0_s : List (List Sh) := []
noncomputable def draymanref02_Fold_l0_h : List BSh := []

noncomputable def draymanref02_Fold_l0_spec {α : Type} (draymanref02_Runes : draymanref02_Runes_T α) (draymanref02_Rune : draymanref02_Rune_T α) (draymanref02_octets : draymanref02_octets_T α) (draymanref02_Fit : draymanref02_Fit_T α) : LoopSpec α := ⟨6, 16, [true, false, true, true, true, true, true], draymanref02_Fold_l0_t, draymanref02_Fold_l0_s, draymanref02_Fold_l0_h, fun ds k => draymanref02_Fold_l0_run draymanref02_Runes draymanref02_Rune draymanref02_octets draymanref02_Fit (fun y1 y2 => k .ret (encSt [.dead, .dead, .str, .int .i64, .dead, .dead, .dead, .dead, .dead, .dead, .dead, .dead, .dead, .dead, .dead, .dead, .dead, .dead, .dead, .dead, .dead, .dead, .dead, .dead, .dead, .dead, .dead, .dead, .dead, .dead, .dead, .dead, .dead, .dead, .dead, .dead, .dead, .dead, .dead, .dead, .dead, .dead, .dead, .dead, .dead, .dead, .dead, .dead, .dead, .dead, .dead, .dead, .dead, .dead, .dead, .dead, .dead, .dead, .dead, .dead] [] [] [.s y1, .i y2])) (fun y1 => k (.exit 0) (encSt [.dead, .dead, .dead, .dead, .dead, .dead, .str, .dead, .dead, .dead, .dead, .dead, .dead, .dead, .dead, .dead, .dead, .dead, .dead, .dead, .dead, .dead, .dead, .dead, .dead, .dead, .dead, .dead, .dead, .dead, .dead, .dead, .dead, .dead, .dead, .dead, .dead, .dead, .dead, .dead, .dead, .dead, .dead, .dead, .dead, .dead, .dead, .dead, .dead, .dead, .dead, .dead, .dead, .dead, .dead, .dead, .dead, .dead, .dead, .dead] [] [] [.s y1])) 1000 (hdQ (.int .i64 (.nil)) ds) (hdS ds.tail) (hdI ds.tail.tail)⟩

noncomputable def draymanref02_Fold_loops {α : Type} (draymanref02_Runes : draymanref02_Runes_T α) (draymanref02_Rune : draymanref02_Rune_T α) (draymanref02_octets : draymanref02_octets_T α) (draymanref02_Fit : draymanref02_Fit_T α) : List (LoopSpec α) := [draymanref02_Fold_l0_spec draymanref02_Runes draymanref02_Rune draymanref02_octets draymanref02_Fit]

noncomputable def draymanref02_Fold_l0_ev {α : Type} (draymanref02_Runes : draymanref02_Runes_T α) (draymanref02_Rune : draymanref02_Rune_T α) (draymanref02_octets : draymanref02_octets_T α) (draymanref02_Fit : draymanref02_Fit_T α) (n : Nat) (st : St) (k : X → St → Option α) : Option α := loopN (evCode Go.Proofs.Tryd.prog (callD Go.Proofs.Tryd.prog (envOf (draymanref02_Fold_C draymanref02_Runes draymanref02_Rune draymanref02_octets draymanref02_Fit) draymanref02_Fold_q draymanref02_Fold_inl 1000 draymanref02_Fold_ann false (draymanref02_Fold_loops draymanref02_Runes draymanref02_Rune draymanref02_octets draymanref02_Fit) (fun _ => none)) 6) (((envOf (draymanref02_Fold_C draymanref02_Runes draymanref02_Rune draymanref02_octets draymanref02_Fit) draymanref02_Fold_q draymanref02_Fold_inl 1000 draymanref02_Fold_ann false (draymanref02_Fold_loops draymanref02_Runes draymanref02_Rune draymanref02_octets draymanref02_Fit) (fun _ => none)) : Env α).L 6 16) 1000 (draymanref02_Fold_ann 16) (false :: [true, false, true, true, true, true, true]) (loopC Go.Proofs.Tryd.prog 16 [true, false, true, true, true, true, true])) ((draymanref02_Fold_ann 16 [true, false, true, true, true, true, true]).head 0) ((draymanref02_Fold_ann 16 [true, false, true, true, true, true, true]).leave 0) n st k

theorem draymanref02_Fold_l0_eq {α : Type} (draymanref02_Runes : draymanref02_Runes_T α) (draymanref02_Rune : draymanref02_Rune_T α) (draymanref02_octets : draymanref02_octets_T α) (draymanref02_Fit : draymanref02_Fit_T α) : ∀ (n : Nat) (l4 : Seq (Int × Unit)) (out5 : ByteArray) (i6 : Int) (k : X → St → Option α), draymanref02_Fold_l0_ev draymanref02_Runes draymanref02_Rune draymanref02_octets draymanref02_Fit n (encSt draymanref02_Fold_l0_t draymanref02_Fold_l0_s draymanref02_Fold_l0_h [.q (.int .i64 (.nil)) l4, .s out5, .i i6]) k = draymanref02_Fold_l0_run draymanref02_Runes draymanref02_Rune draymanref02_octets draymanref02_Fit (fun y1 y2 => k .ret (encSt [.dead, .dead, .str, .int .i64, .dead, .dead, .dead, .dead, .dead, .dead, .dead, .dead, .dead, .dead, .dead, .dead, .dead, .dead, .dead, .dead, .dead, .dead, .dead, .dead, .dead, .dead, .dead, .dead, .dead, .dead, .dead, .dead, .dead, .dead, .dead, .dead, .dead, .dead, .dead, .dead, .dead, .dead, .dead, .dead, .dead, .dead, .dead, .dead, .dead, .dead, .dead, .dead, .dead, .dead, .dead, .dead, .dead, .dead, .dead, .dead] [] [] [.s y1, .i y2])) (fun y1 => k (.exit 0) (encSt [.dead, .dead, .dead, .dead, .dead, .dead, .str, .dead, .dead, .dead, .dead, .dead, .dead, .dead, .dead, .dead, .dead, .dead, .dead, .dead, .dead, .dead, .dead, .dead, .dead, .dead, .dead, .dead, .dead, .dead, .dead, .dead, .dead, .dead, .dead, .dead, .dead, .dead, .dead, .dead, .dead, .dead, .dead, .dead, .dead, .dead, .dead, .dead, .dead, .dead, .dead, .dead, .dead, .dead, .dead, .dead, .dead, .dead, .dead, .dead] [] [] [.s y1])) n l4 out5 i6 := by
  intro n
  induction n with
  | zero => intros; kernel_rfl
  | succ n ih =>
    intro l4 out5 i6 k
    have e : (fun (l4 : Seq (Int × Unit)) (out5 : ByteArray) (i6 : Int) => draymanref02_Fold_l0_ev draymanref02_Runes draymanref02_Rune draymanref02_octets draymanref02_Fit n (encSt draymanref02_Fold_l0_t draymanref02_Fold_l0_s draymanref02_Fold_l0_h [.q (.int .i64 (.nil)) l4, .s out5, .i i6]) k) = (fun (l4 : Seq (Int × Unit)) (out5 : ByteArray) (i6 : Int) => draymanref02_Fold_l0_run draymanref02_Runes draymanref02_Rune draymanref02_octets draymanref02_Fit (fun y1 y2 => k .ret (encSt [.dead, .dead, .str, .int .i64, .dead, .dead, .dead, .dead, .dead, .dead, .dead, .dead, .dead, .dead, .dead, .dead, .dead, .dead, .dead, .dead, .dead, .dead, .dead, .dead, .dead, .dead, .dead, .dead, .dead, .dead, .dead, .dead, .dead, .dead, .dead, .dead, .dead, .dead, .dead, .dead, .dead, .dead, .dead, .dead, .dead, .dead, .dead, .dead, .dead, .dead, .dead, .dead, .dead, .dead, .dead, .dead, .dead, .dead, .dead, .dead] [] [] [.s y1, .i y2])) (fun y1 => k (.exit 0) (encSt [.dead, .dead, .dead, .dead, .dead, .dead, .str, .dead, .dead, .dead, .dead, .dead, .dead, .dead, .dead, .dead, .dead, .dead, .dead, .dead, .dead, .dead, .dead, .dead, .dead, .dead, .dead, .dead, .dead, .dead, .dead, .dead, .dead, .dead, .dead, .dead, .dead, .dead, .dead, .dead, .dead, .dead, .dead, .dead, .dead, .dead, .dead, .dead, .dead, .dead, .dead, .dead, .dead, .dead, .dead, .dead, .dead, .dead, .dead, .dead] [] [] [.s y1])) n l4 out5 i6) := by
      funext l4 out5 i6
      exact ih l4 out5 i6 k
    have h1 : draymanref02_Fold_l0_ev draymanref02_Runes draymanref02_Rune draymanref02_octets draymanref02_Fit (n + 1) (encSt draymanref02_Fold_l0_t draymanref02_Fold_l0_s draymanref02_Fold_l0_h [.q (.int .i64 (.nil)) l4, .s out5, .i i6]) k = draymanref02_Fold_l0_step draymanref02_Runes draymanref02_Rune draymanref02_octets draymanref02_Fit (fun y1 y2 => k .ret (encSt [.dead, .dead, .str, .int .i64, .dead, .dead, .dead, .dead, .dead, .dead, .dead, .dead, .dead, .dead, .dead, .dead, .dead, .dead, .dead, .dead, .dead, .dead, .dead, .dead, .dead, .dead, .dead, .dead, .dead, .dead, .dead, .dead, .dead, .dead, .dead, .dead, .dead, .dead, .dead, .dead, .dead, .dead, .dead, .dead, .dead, .dead, .dead, .dead, .dead, .dead, .dead, .dead, .dead, .dead, .dead, .dead, .dead, .dead, .dead, .dead] [] [] [.s y1, .i y2])) (fun y1 => k (.exit 0) (encSt [.dead, .dead, .dead, .dead, .dead, .dead, .str, .dead, .dead, .dead, .dead, .dead, .dead, .dead, .dead, .dead, .dead, .dead, .dead, .dead, .dead, .dead, .dead, .dead, .dead, .dead, .dead, .dead, .dead, .dead, .dead, .dead, .dead, .dead, .dead, .dead, .dead, .dead, .dead, .dead, .dead, .dead, .dead, .dead, .dead, .dead, .dead, .dead, .dead, .dead, .dead, .dead, .dead, .dead, .dead, .dead, .dead, .dead, .dead, .dead] [] [] [.s y1])) (fun (l4 : Seq (Int × Unit)) (out5 : ByteArray) (i6 : Int) => draymanref02_Fold_l0_ev draymanref02_Runes draymanref02_Rune draymanref02_octets draymanref02_Fit n (encSt draymanref02_Fold_l0_t draymanref02_Fold_l0_s draymanref02_Fold_l0_h [.q (.int .i64 (.nil)) l4, .s out5, .i i6]) k) l4 out5 i6 := by kernel_rfl
    have h2 := congrArg (fun r => draymanref02_Fold_l0_step draymanref02_Runes draymanref02_Rune draymanref02_octets draymanref02_Fit (fun y1 y2 => k .ret (encSt [.dead, .dead, .str, .int .i64, .dead, .dead, .dead, .dead, .dead, .dead, .dead, .dead, .dead, .dead, .dead, .dead, .dead, .dead, .dead, .dead, .dead, .dead, .dead, .dead, .dead, .dead, .dead, .dead, .dead, .dead, .dead, .dead, .dead, .dead, .dead, .dead, .dead, .dead, .dead, .dead, .dead, .dead, .dead, .dead, .dead, .dead, .dead, .dead, .dead, .dead, .dead, .dead, .dead, .dead, .dead, .dead, .dead, .dead, .dead, .dead] [] [] [.s y1, .i y2])) (fun y1 => k (.exit 0) (encSt [.dead, .dead, .dead, .dead, .dead, .dead, .str, .dead, .dead, .dead, .dead, .dead, .dead, .dead, .dead, .dead, .dead, .dead, .dead, .dead, .dead, .dead, .dead, .dead, .dead, .dead, .dead, .dead, .dead, .dead, .dead, .dead, .dead, .dead, .dead, .dead, .dead, .dead, .dead, .dead, .dead, .dead, .dead, .dead, .dead, .dead, .dead, .dead, .dead, .dead, .dead, .dead, .dead, .dead, .dead, .dead, .dead, .dead, .dead, .dead] [] [] [.s y1])) r l4 out5 i6) e
    have h3 : draymanref02_Fold_l0_step draymanref02_Runes draymanref02_Rune draymanref02_octets draymanref02_Fit (fun y1 y2 => k .ret (encSt [.dead, .dead, .str, .int .i64, .dead, .dead, .dead, .dead, .dead, .dead, .dead, .dead, .dead, .dead, .dead, .dead, .dead, .dead, .dead, .dead, .dead, .dead, .dead, .dead, .dead, .dead, .dead, .dead, .dead, .dead, .dead, .dead, .dead, .dead, .dead, .dead, .dead, .dead, .dead, .dead, .dead, .dead, .dead, .dead, .dead, .dead, .dead, .dead, .dead, .dead, .dead, .dead, .dead, .dead, .dead, .dead, .dead, .dead, .dead, .dead] [] [] [.s y1, .i y2])) (fun y1 => k (.exit 0) (encSt [.dead, .dead, .dead, .dead, .dead, .dead, .str, .dead, .dead, .dead, .dead, .dead, .dead, .dead, .dead, .dead, .dead, .dead, .dead, .dead, .dead, .dead, .dead, .dead, .dead, .dead, .dead, .dead, .dead, .dead, .dead, .dead, .dead, .dead, .dead, .dead, .dead, .dead, .dead, .dead, .dead, .dead, .dead, .dead, .dead, .dead, .dead, .dead, .dead, .dead, .dead, .dead, .dead, .dead, .dead, .dead, .dead, .dead, .dead, .dead] [] [] [.s y1])) (fun (l4 : Seq (Int × Unit)) (out5 : ByteArray) (i6 : Int) => draymanref02_Fold_l0_run draymanref02_Runes draymanref02_Rune draymanref02_octets draymanref02_Fit (fun y1 y2 => k .ret (encSt [.dead, .dead, .str, .int .i64, .dead, .dead, .dead, .dead, .dead, .dead, .dead, .dead, .dead, .dead, .dead, .dead, .dead, .dead, .dead, .dead, .dead, .dead, .dead, .dead, .dead, .dead, .dead, .dead, .dead, .dead, .dead, .dead, .dead, .dead, .dead, .dead, .dead, .dead, .dead, .dead, .dead, .dead, .dead, .dead, .dead, .dead, .dead, .dead, .dead, .dead, .dead, .dead, .dead, .dead, .dead, .dead, .dead, .dead, .dead, .dead] [] [] [.s y1, .i y2])) (fun y1 => k (.exit 0) (encSt [.dead, .dead, .dead, .dead, .dead, .dead, .str, .dead, .dead, .dead, .dead, .dead, .dead, .dead, .dead, .dead, .dead, .dead, .dead, .dead, .dead, .dead, .dead, .dead, .dead, .dead, .dead, .dead, .dead, .dead, .dead, .dead, .dead, .dead, .dead, .dead, .dead, .dead, .dead, .dead, .dead, .dead, .dead, .dead, .dead, .dead, .dead, .dead, .dead, .dead, .dead, .dead, .dead, .dead, .dead, .dead, .dead, .dead, .dead, .dead] [] [] [.s y1])) n l4 out5 i6) l4 out5 i6 = draymanref02_Fold_l0_run draymanref02_Runes draymanref02_Rune draymanref02_octets draymanref02_Fit (fun y1 y2 => k .ret (encSt [.dead, .dead, .str, .int .i64, .dead, .dead, .dead, .dead, .dead, .dead, .dead, .dead, .dead, .dead, .dead, .dead, .dead, .dead, .dead, .dead, .dead, .dead, .dead, .dead, .dead, .dead, .dead, .dead, .dead, .dead, .dead, .dead, .dead, .dead, .dead, .dead, .dead, .dead, .dead, .dead, .dead, .dead, .dead, .dead, .dead, .dead, .dead, .dead, .dead, .dead, .dead, .dead, .dead, .dead, .dead, .dead, .dead, .dead, .dead, .dead] [] [] [.s y1, .i y2])) (fun y1 => k (.exit 0) (encSt [.dead, .dead, .dead, .dead, .dead, .dead, .str, .dead, .dead, .dead, .dead, .dead, .dead, .dead, .dead, .dead, .dead, .dead, .dead, .dead, .dead, .dead, .dead, .dead, .dead, .dead, .dead, .dead, .dead, .dead, .dead, .dead, .dead, .dead, .dead, .dead, .dead, .dead, .dead, .dead, .dead, .dead, .dead, .dead, .dead, .dead, .dead, .dead, .dead, .dead, .dead, .dead, .dead, .dead, .dead, .dead, .dead, .dead, .dead, .dead] [] [] [.s y1])) (n + 1) l4 out5 i6 := by kernel_rfl
    exact h1.trans (h2.trans h3)

theorem draymanref02_Fold_l0_ok {α : Type} (draymanref02_Runes : draymanref02_Runes_T α) (draymanref02_Rune : draymanref02_Rune_T α) (draymanref02_octets : draymanref02_octets_T α) (draymanref02_Fit : draymanref02_Fit_T α) : (draymanref02_Fold_l0_spec draymanref02_Runes draymanref02_Rune draymanref02_octets draymanref02_Fit : LoopSpec α).ok Go.Proofs.Tryd.prog (envOf (draymanref02_Fold_C draymanref02_Runes draymanref02_Rune draymanref02_octets draymanref02_Fit) draymanref02_Fold_q draymanref02_Fold_inl 1000 draymanref02_Fold_ann false (draymanref02_Fold_loops draymanref02_Runes draymanref02_Rune draymanref02_octets draymanref02_Fit) (fun _ => none)) := by
  intro ds k
  have h1 : draymanref02_Fold_l0_ev draymanref02_Runes draymanref02_Rune draymanref02_octets draymanref02_Fit 1000 (encSt draymanref02_Fold_l0_t draymanref02_Fold_l0_s draymanref02_Fold_l0_h ds) k = draymanref02_Fold_l0_ev draymanref02_Runes draymanref02_Rune draymanref02_octets draymanref02_Fit 1000 (encSt draymanref02_Fold_l0_t draymanref02_Fold_l0_s draymanref02_Fold_l0_h [.q (.int .i64 (.nil)) (hdQ (.int .i64 (.nil)) ds), .s (hdS ds.tail), .i (hdI ds.tail.tail)]) k := by kernel_rfl
  have h2 := draymanref02_Fold_l0_eq draymanref02_Runes draymanref02_Rune draymanref02_octets draymanref02_Fit 1000 (hdQ (.int .i64 (.nil)) ds) (hdS ds.tail) (hdI ds.tail.tail) k
  exact h1.trans h2

theorem draymanref02_Fold_ev {α : Type} (draymanref02_Runes : draymanref02_Runes_T α) (draymanref02_Rune : draymanref02_Rune_T α) (draymanref02_octets : draymanref02_octets_T α) (draymanref02_Fit : draymanref02_Fit_T α) : EvOk (α := α) Go.Proofs.Tryd.prog (envOf (draymanref02_Fold_C draymanref02_Runes draymanref02_Rune draymanref02_octets draymanref02_Fit) draymanref02_Fold_q draymanref02_Fold_inl 1000 draymanref02_Fold_ann false (draymanref02_Fold_loops draymanref02_Runes draymanref02_Rune draymanref02_octets draymanref02_Fit) (fun _ => none)) 6 (draymanref02_Fold_sp (draymanref02_Fold_g draymanref02_Runes draymanref02_Rune draymanref02_octets draymanref02_Fit)) := by intro ds k; kernel_rfl

theorem draymanref02_Fold_ok {α : Type} : (draymanref02_Fold_spec : FunSpec α).ok Go.Proofs.Tryd.prog :=
  FunSpec.ok_of (sp := draymanref02_Fold_spec) (C := draymanref02_Fold_C draymanref02_Runes draymanref02_Rune draymanref02_octets draymanref02_Fit) (q := draymanref02_Fold_q) (inl := draymanref02_Fold_inl) (N := 1000) (ann := draymanref02_Fold_ann) (fr := false) (D := 6) (l := (draymanref02_Fold_loops draymanref02_Runes draymanref02_Rune draymanref02_octets draymanref02_Fit)) (hk := (fun _ => none)) (okCons draymanref02_Runes_ok (okCons draymanref02_Rune_ok (okCons draymanref02_octets_ok (okCons draymanref02_Fit_ok okNil)))) (lokCons (draymanref02_Fold_l0_ok draymanref02_Runes draymanref02_Rune draymanref02_octets draymanref02_Fit) lokNil) noHooks (draymanref02_Fold_ev draymanref02_Runes draymanref02_Rune draymanref02_octets draymanref02_Fit)

end
end Go.Rv.Tryd

set_option linter.unusedVariables false
set_option maxRecDepth 100000
set_option maxHeartbeats 4000000
namespace Go.Rv.Tryd
open Go Go.Rv Go.RowKit
noncomputable section

-- drayman/draymanref02.Count

abbrev draymanref02_Count_T (α : Type) : Type := ByteArray → (Int → Option α) → Option α

noncomputable def draymanref02_Count_g {α : Type} (draymanref02_Runes : draymanref02_Runes_T α) (s1 : ByteArray) (k : Int → Option α) : Option α :=
  (draymanref02_Runes s1 fun r2 r3 =>
    (cond (!r3)
      (k (-1))
      (k (r2.n : Int))))

noncomputable def draymanref02_Count {α : Type} : draymanref02_Count_T α := draymanref02_Count_g draymanref02_Runes

noncomputable def draymanref02_Count_sp {α : Type} (draymanref02_Count : draymanref02_Count_T α) : FunSpec α := ⟨12, [.str], [], fun ds k => draymanref02_Count (hdS ds) (fun r1 => k (enc dep (.int .i64) [.i r1]).1 [])⟩

noncomputable def draymanref02_Count_spec {α : Type} : FunSpec α := draymanref02_Count_sp draymanref02_Count

noncomputable def draymanref02_Count_C {α : Type} (draymanref02_Runes : draymanref02_Runes_T α) : List (FunSpec α) := [draymanref02_Runes_sp draymanref02_Runes]

noncomputable def draymanref02_Count_q : FuncId → Bool := fun f => false

noncomputable def draymanref02_Count_inl : FuncId → Bool := fun f => false

noncomputable def draymanref02_Count_ann : FuncId → AnnT := fun f p => ⟨[], [], [], [], 0, [], []⟩

noncomputable def draymanref02_Count_loops {α : Type} (draymanref02_Runes : draymanref02_Runes_T α) : List (LoopSpec α) := []

theorem draymanref02_Count_ev {α : Type} (draymanref02_Runes : draymanref02_Runes_T α) : EvOk (α := α) Go.Proofs.Tryd.prog (envOf (draymanref02_Count_C draymanref02_Runes) draymanref02_Count_q draymanref02_Count_inl 1000 draymanref02_Count_ann false (draymanref02_Count_loops draymanref02_Runes) (fun _ => none)) 6 (draymanref02_Count_sp (draymanref02_Count_g draymanref02_Runes)) := by intro ds k; kernel_rfl

theorem draymanref02_Count_ok {α : Type} : (draymanref02_Count_spec : FunSpec α).ok Go.Proofs.Tryd.prog :=
  FunSpec.ok_of (sp := draymanref02_Count_spec) (C := draymanref02_Count_C draymanref02_Runes) (q := draymanref02_Count_q) (inl := draymanref02_Count_inl) (N := 1000) (ann := draymanref02_Count_ann) (fr := false) (D := 6) (l := (draymanref02_Count_loops draymanref02_Runes)) (hk := (fun _ => none)) (okCons draymanref02_Runes_ok okNil) lokNil noHooks (draymanref02_Count_ev draymanref02_Runes)

end
end Go.Rv.Tryd
