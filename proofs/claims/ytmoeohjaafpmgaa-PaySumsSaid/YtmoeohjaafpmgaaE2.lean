/- What the functions of the program compute, each with the proof that its code computes it. Written by a program (rvp2.py). -/
import Derived.Test.YtmoeohjaafpmgaaProg
import Derived.Test.YtmoeohjaafpmgaaRvP
import Derived.Test.YtmoeohjaafpmgaaFx
import Derived.Test.YtmoeohjaafpmgaaE1

set_option linter.unusedVariables false
set_option maxRecDepth 100000
set_option maxHeartbeats 4000000
namespace Go.Rv.Try
open Go Go.Rv Go.RowKit
noncomputable section

-- drayman/draymanlaw32.PaySums

abbrev draymanlaw32_PaySums_T (α : Type) : Type := (Seq (Int × Int × Int × Bool × Int × Int × Bool × Int × Unit)) → (Bool → Option α) → Option α

noncomputable def draymanlaw32_PaySums_l0_step {α : Type} (draymanlaw32_awake : draymanlaw32_awake_T α) (pay_New : pay_New_T α) (pay_Come : pay_Come_T α) (pay_Fit : pay_Fit_T α) (draymanref31_Fit : draymanref31_Fit_T α) (kr : (Bool) → ((Seq Z1) × Int × Int × Int × Unit) → Option α) (k0 : ((Seq Z1) × Int × Int × Int × Unit) → Option α) (rec : (Seq (Int × Int × Int × Bool × Int × Int × Bool × Int × Unit)) → (Int) → (Int) → ((Seq Z1) × Int × Int × Int × Unit) → Option α) (x4 : Seq (Int × Int × Int × Bool × Int × Int × Bool × Int × Unit)) (x5 : Int) (x6 : Int) (x7 : (Seq Z1) × Int × Int × Int × Unit) : Option α :=
  (cond (decide (x6 < (x4.n : Int)))
    (cond ((decide ((0 : Int) ≤ x6)) && (decide (x6 < (x4.n : Int))))
      (cond ((iAnd .i64 (x4.g x6.toNat).2.2.1 1) == 1)
        (cond ((decide ((0 : Int) ≤ x6)) && (decide (x6 < (x4.n : Int))))
          (pay_Come x7 ((x4.g x6.toNat).1, (x4.g x6.toNat).2.1, (x4.g x6.toNat).2.2.1, (x4.g x6.toNat).2.2.2.1, 6, (x4.g x6.toNat).2.2.2.2.2.1, (x4.g x6.toNat).2.2.2.2.2.2.1, ()) ((x4.g x6.toNat).2.2.2.2.2.2.2.1) fun r8 r9 r10 =>
            (cond (r10 != 0)
              (cond (!(r10 == 12))
                (cond (r10 == 5)
                  (kr false x7)
                  (rec x4 x5 (IntKind.i64.wrap (x6 + 1)) x7))
                (kr false x7))
              (cond (!(r9.2.1 != (IntKind.i64.wrap (x5 + 1))))
                (cond (!(r8.2.1 != (IntKind.i64.wrap ((IntKind.i64.wrap (x5 + 1)) + 1))))
                  (cond (!(r9.2.2.2.2.2.1 != (x4.g x6.toNat).1))
                    (cond (!(r9.2.2.1 != (x4.g x6.toNat).2.1))
                      (cond (!(r9.2.2.2.1 != (x4.g x6.toNat).2.2.1))
                        (cond (!(!(r9.2.2.2.2.1 == (x4.g x6.toNat).2.2.2.1)))
                          (cond (r9.1 != 1)
                            (kr false x7)
                            (rec x4 (IntKind.i64.wrap (x5 + 1)) (IntKind.i64.wrap (x6 + 1)) r8))
                          (kr false x7))
                        (kr false x7))
                      (kr false x7))
                    (kr false x7))
                  (kr false x7))
                (kr false x7))))
          none)
        (cond ((decide ((0 : Int) ≤ x6)) && (decide (x6 < (x4.n : Int))))
          (pay_Come x7 ((x4.g x6.toNat).1, (x4.g x6.toNat).2.1, (x4.g x6.toNat).2.2.1, (x4.g x6.toNat).2.2.2.1, 2, (x4.g x6.toNat).2.2.2.2.2.1, (x4.g x6.toNat).2.2.2.2.2.2.1, ()) ((x4.g x6.toNat).2.2.2.2.2.2.2.1) fun r11 r12 r13 =>
            (cond (r13 != 0)
              (cond (!(r13 == 12))
                (cond (r13 == 5)
                  (kr false x7)
                  (rec x4 x5 (IntKind.i64.wrap (x6 + 1)) x7))
                (kr false x7))
              (cond (!(r12.2.1 != (IntKind.i64.wrap (x5 + 1))))
                (cond (!(r11.2.1 != (IntKind.i64.wrap ((IntKind.i64.wrap (x5 + 1)) + 1))))
                  (cond (!(r12.2.2.2.2.2.1 != (x4.g x6.toNat).1))
                    (cond (!(r12.2.2.1 != (x4.g x6.toNat).2.1))
                      (cond (!(r12.2.2.2.1 != (x4.g x6.toNat).2.2.1))
                        (cond (!(!(r12.2.2.2.2.1 == (x4.g x6.toNat).2.2.2.1)))
                          (cond (r12.1 != 1)
                            (kr false x7)
                            (rec x4 (IntKind.i64.wrap (x5 + 1)) (IntKind.i64.wrap (x6 + 1)) r11))
                          (kr false x7))
                        (kr false x7))
                      (kr false x7))
                    (kr false x7))
                  (kr false x7))
                (kr false x7))))
          none))
      none)
    (k0 x7))

noncomputable def draymanlaw32_PaySums_l0_run {α : Type} (draymanlaw32_awake : draymanlaw32_awake_T α) (pay_New : pay_New_T α) (pay_Come : pay_Come_T α) (pay_Fit : pay_Fit_T α) (draymanref31_Fit : draymanref31_Fit_T α) (kr : (Bool) → ((Seq Z1) × Int × Int × Int × Unit) → Option α) (k0 : ((Seq Z1) × Int × Int × Int × Unit) → Option α) : Nat → (Seq (Int × Int × Int × Bool × Int × Int × Bool × Int × Unit)) → (Int) → (Int) → ((Seq Z1) × Int × Int × Int × Unit) → Option α
  | 0, _, _, _, _ => none
  | n + 1, x4, x5, x6, x7 => draymanlaw32_PaySums_l0_step draymanlaw32_awake pay_New pay_Come pay_Fit draymanref31_Fit kr k0 (fun x4 x5 x6 x7 => draymanlaw32_PaySums_l0_run draymanlaw32_awake pay_New pay_Come pay_Fit draymanref31_Fit kr k0 n x4 x5 x6 x7) x4 x5 x6 x7

noncomputable def draymanlaw32_PaySums_l1_step {α : Type} (draymanlaw32_awake : draymanlaw32_awake_T α) (pay_New : pay_New_T α) (pay_Come : pay_Come_T α) (pay_Fit : pay_Fit_T α) (draymanref31_Fit : draymanref31_Fit_T α) (k2 : (Int) → (Int) → ((Seq Z1) × Int × Int × Int × Unit) → Option α) (rec : (Int) → (Int) → (Int) → ((Seq Z1) × Int × Int × Int × Unit) → Option α) (x17 : Int) (x18 : Int) (x19 : Int) (x20 : (Seq Z1) × Int × Int × Int × Unit) : Option α :=
  (cond (decide (x19 < (x20.1.n : Int)))
    (cond ((decide ((0 : Int) ≤ x19)) && (decide (x19 < (x20.1.n : Int))))
      (cond ((x20.1.g x19.toNat).2.2.1 == 2)
        (cond ((iAnd .i64 (x20.1.g x19.toNat).2.1 1) == 0)
          (cond ((x20.1.g x19.toNat).2.2.1 == 2)
            (cond ((iAnd .i64 (x20.1.g x19.toNat).2.1 1) == 1)
              (rec (IntKind.i64.wrap ((IntKind.i64.wrap (x17 + (x20.1.g x19.toNat).2.2.2.2.2.1)) - (x20.1.g x19.toNat).2.2.2.2.2.1)) (IntKind.i64.wrap (x18 + (x20.1.g x19.toNat).2.2.2.2.2.1)) (IntKind.i64.wrap (x19 + 1)) x20)
              (rec (IntKind.i64.wrap (x17 + (x20.1.g x19.toNat).2.2.2.2.2.1)) x18 (IntKind.i64.wrap (x19 + 1)) x20))
            (rec (IntKind.i64.wrap (x17 + (x20.1.g x19.toNat).2.2.2.2.2.1)) x18 (IntKind.i64.wrap (x19 + 1)) x20))
          (cond ((x20.1.g x19.toNat).2.2.1 == 2)
            (cond ((iAnd .i64 (x20.1.g x19.toNat).2.1 1) == 1)
              (rec (IntKind.i64.wrap (x17 - (x20.1.g x19.toNat).2.2.2.2.2.1)) (IntKind.i64.wrap (x18 + (x20.1.g x19.toNat).2.2.2.2.2.1)) (IntKind.i64.wrap (x19 + 1)) x20)
              (rec x17 x18 (IntKind.i64.wrap (x19 + 1)) x20))
            (rec x17 x18 (IntKind.i64.wrap (x19 + 1)) x20)))
        (cond ((x20.1.g x19.toNat).2.2.1 == 2)
          (cond ((iAnd .i64 (x20.1.g x19.toNat).2.1 1) == 1)
            (rec (IntKind.i64.wrap (x17 - (x20.1.g x19.toNat).2.2.2.2.2.1)) (IntKind.i64.wrap (x18 + (x20.1.g x19.toNat).2.2.2.2.2.1)) (IntKind.i64.wrap (x19 + 1)) x20)
            (rec x17 x18 (IntKind.i64.wrap (x19 + 1)) x20))
          (rec x17 x18 (IntKind.i64.wrap (x19 + 1)) x20)))
      none)
    (k2 x17 x18 x20))

noncomputable def draymanlaw32_PaySums_l1_run {α : Type} (draymanlaw32_awake : draymanlaw32_awake_T α) (pay_New : pay_New_T α) (pay_Come : pay_Come_T α) (pay_Fit : pay_Fit_T α) (draymanref31_Fit : draymanref31_Fit_T α) (k2 : (Int) → (Int) → ((Seq Z1) × Int × Int × Int × Unit) → Option α) : Nat → (Int) → (Int) → (Int) → ((Seq Z1) × Int × Int × Int × Unit) → Option α
  | 0, _, _, _, _ => none
  | n + 1, x17, x18, x19, x20 => draymanlaw32_PaySums_l1_step draymanlaw32_awake pay_New pay_Come pay_Fit draymanref31_Fit k2 (fun x17 x18 x19 x20 => draymanlaw32_PaySums_l1_run draymanlaw32_awake pay_New pay_Come pay_Fit draymanref31_Fit k2 n x17 x18 x19 x20) x17 x18 x19 x20

noncomputable def draymanlaw32_PaySums_g {α : Type} (draymanlaw32_awake : draymanlaw32_awake_T α) (pay_New : pay_New_T α) (pay_Come : pay_Come_T α) (pay_Fit : pay_Fit_T α) (draymanref31_Fit : draymanref31_Fit_T α) (x1 : Seq (Int × Int × Int × Bool × Int × Int × Bool × Int × Unit)) (k : Bool → Option α) : Option α :=
  (cond (decide ((x1.n : Int) > 40))
    (draymanlaw32_awake fun r2 =>
      (k r2))
    (pay_New fun r3 =>
      (draymanlaw32_PaySums_l0_run draymanlaw32_awake pay_New pay_Come pay_Fit draymanref31_Fit
        (fun x14 x15 =>
          (k x14))
        (fun x16 =>
          (draymanlaw32_PaySums_l1_run draymanlaw32_awake pay_New pay_Come pay_Fit draymanref31_Fit
            (fun x21 x22 x23 =>
              (cond (x23.2.2.1 == x21)
                (cond (x23.2.2.2.1 == x22)
                  (pay_Fit x23 fun r24 =>
                    (cond r24
                      (draymanref31_Fit x23.1 fun r25 =>
                        (cond r25
                          (draymanlaw32_awake fun r26 =>
                            (k r26))
                          (k false)))
                      (k false)))
                  (k false))
                (k false)))
            1000 0 0 0 x16))
        1000 x1 0 0 r3)))

noncomputable def draymanlaw32_PaySums {α : Type} : draymanlaw32_PaySums_T α := draymanlaw32_PaySums_g draymanlaw32_awake pay_New pay_Come pay_Fit draymanref31_Fit

noncomputable def draymanlaw32_PaySums_sp {α : Type} (draymanlaw32_PaySums : draymanlaw32_PaySums_T α) : FunSpec α := ⟨3, [.sl (.int .i64 (.int .i64 (.int .i64 (.bool (.int .i64 (.int .i64 (.bool (.int .i64 (.nil)))))))))], [], fun ds k => draymanlaw32_PaySums (hdQ (.int .i64 (.int .i64 (.int .i64 (.bool (.int .i64 (.int .i64 (.bool (.int .i64 (.nil))))))))) ds) (fun r1 => k (enc dep (.bool) [.b r1]).1 [])⟩

noncomputable def draymanlaw32_PaySums_spec {α : Type} : FunSpec α := draymanlaw32_PaySums_sp draymanlaw32_PaySums

noncomputable def draymanlaw32_PaySums_C {α : Type} (draymanlaw32_awake : draymanlaw32_awake_T α) (pay_New : pay_New_T α) (pay_Come : pay_Come_T α) (pay_Fit : pay_Fit_T α) (draymanref31_Fit : draymanref31_Fit_T α) : List (FunSpec α) := [draymanlaw32_awake_sp draymanlaw32_awake, pay_New_sp pay_New, pay_Come_sp pay_Come, pay_Fit_sp pay_Fit, draymanref31_Fit_sp draymanref31_Fit]

noncomputable def draymanlaw32_PaySums_q : FuncId → Bool := fun f => Nat.beq f 7 || Nat.beq f 10 || Nat.beq f 11

noncomputable def draymanlaw32_PaySums_inl : FuncId → Bool := fun f => false

noncomputable def draymanlaw32_PaySums_ann : FuncId → AnnT := fun f p => if f = 3 then (if p = [true, false, true, true, true, true, true, true] then ⟨[3, 10, 11, 12], [], [3, 10, 11], [2], 0, [], [], none⟩ else if p = [true, false, true, true, true, true] then ⟨[0, 3, 4, 5], [], [3], [2], 0, [], [], none⟩ else if p = [false, true, true, true, false, true, false, true, false, true, true, true, true] then ⟨[], [], [], [], 2, [], [], none⟩ else ⟨[], [], [], [], 0, [], [], none⟩) else ⟨[], [], [], [], 0, [], [], none⟩

noncomputable def draymanlaw32_PaySums_l0_t : List Sh := [.sl (.int .i64 (.int .i64 (.int .i64 (.bool (.int .i64 (.int .i64 (.bool (.int .i64 (.nil))))))))), .dead, .dead, .ref 0 0, .int .i64, .int .i64, .dead, .dead, .dead, .dead, .dead, .dead, .dead, .dead, .dead, .dead, .dead, .dead, .dead, .dead, .dead, .dead, .dead, .dead, .dead, .dead, .dead, .dead, .dead, .dead, .dead, .dead, .dead, .dead, .dead, .dead, .dead, .dead, .dead, .dead, .dead, .dead, .dead, .dead, .dead, .dead, .dead, .dead, .dead, .dead, .dead, .dead, .dead, .dead, .dead, .dead, .dead, .dead, .dead, .dead, .dead, .dead, .dead, .dead, .dead, .dead, .dead, .dead, .dead, .dead, .dead, .dead, .dead, .dead, .dead, .dead, .dead, .dead, .dead, .dead, .dead, .dead, .dead, .dead, .dead, .dead, .dead, .dead, .dead, .dead, .dead, .dead, .dead, .dead, .dead, .dead, .dead, .dead, .dead, .dead, .dead, .dead, .dead, .dead, .dead, .dead, .dead, .dead, .dead, .dead, .dead, .dead, .dead, .dead, .dead, .dead, .dead, .dead, .dead, .dead, .dead, .dead, .dead, .dead, .dead, .dead, .dead, .dead, .dead, .dead, .dead, .dead, .dead, .dead, .dead, .dead, .dead, .dead, .dead, .dead, .dead, .dead, .dead, .dead, .dead, .dead, .dead, .dead, .dead, .dead, .dead, .dead, .dead, .dead, .dead, .dead, .dead, .dead, .dead, .dead, .dead, .dead, .dead, .dead, .dead, .dead, .dead]
noncomputable def draymanlaw32_PaySums_l0_s : List (List Sh) := []
noncomputable def draymanlaw32_PaySums_l0_h : List BSh := [.box [.sl (.int .i64 (.int .i64 (.int .i64 (.int .i64 (.int .i64 (.int .i64 (.nil))))))), .int .i64, .int .i64, .int .i64]]

noncomputable def draymanlaw32_PaySums_l0_spec {α : Type} (draymanlaw32_awake : draymanlaw32_awake_T α) (pay_New : pay_New_T α) (pay_Come : pay_Come_T α) (pay_Fit : pay_Fit_T α) (draymanref31_Fit : draymanref31_Fit_T α) : LoopSpec α := ⟨6, 3, [true, false, true, true, true, true], draymanlaw32_PaySums_l0_t, draymanlaw32_PaySums_l0_s, draymanlaw32_PaySums_l0_h, fun ds k => draymanlaw32_PaySums_l0_run draymanlaw32_awake pay_New pay_Come pay_Fit draymanref31_Fit (fun y1 y2 => k .ret (encSt [.dead, .dead, .bool, .dead, .dead, .dead, .dead, .dead, .dead, .dead, .dead, .dead, .dead, .dead, .dead, .dead, .dead, .dead, .dead, .dead, .dead, .dead, .dead, .dead, .dead, .dead, .dead, .dead, .dead, .dead, .dead, .dead, .dead, .dead, .dead, .dead, .dead, .dead, .dead, .dead, .dead, .dead, .dead, .dead, .dead, .dead, .dead, .dead, .dead, .dead, .dead, .dead, .dead, .dead, .dead, .dead, .dead, .dead, .dead, .dead, .dead, .dead, .dead, .dead, .dead, .dead, .dead, .dead, .dead, .dead, .dead, .dead, .dead, .dead, .dead, .dead, .dead, .dead, .dead, .dead, .dead, .dead, .dead, .dead, .dead, .dead, .dead, .dead, .dead, .dead, .dead, .dead, .dead, .dead, .dead, .dead, .dead, .dead, .dead, .dead, .dead, .dead, .dead, .dead, .dead, .dead, .dead, .dead, .dead, .dead, .dead, .dead, .dead, .dead, .dead, .dead, .dead, .dead, .dead, .dead, .dead, .dead, .dead, .dead, .dead, .dead, .dead, .dead, .dead, .dead, .dead, .dead, .dead, .dead, .dead, .dead, .dead, .dead, .dead, .dead, .dead, .dead, .dead, .dead, .dead, .dead, .dead, .dead, .dead, .dead, .dead, .dead, .dead, .dead, .dead, .dead, .dead, .dead, .dead, .dead, .dead, .dead, .dead, .dead, .dead, .dead, .dead] [] [.box [.sl (.int .i64 (.int .i64 (.int .i64 (.int .i64 (.int .i64 (.int .i64 (.nil))))))), .int .i64, .int .i64, .int .i64]] [.b y1, .q (.int .i64 (.int .i64 (.int .i64 (.int .i64 (.int .i64 (.int .i64 (.nil))))))) y2.1, .i y2.2.1, .i y2.2.2.1, .i y2.2.2.2.1])) (fun y1 => k (.exit 0) (encSt [.dead, .dead, .dead, .ref 0 0, .dead, .dead, .dead, .dead, .dead, .dead, .dead, .dead, .dead, .dead, .dead, .dead, .dead, .dead, .dead, .dead, .dead, .dead, .dead, .dead, .dead, .dead, .dead, .dead, .dead, .dead, .dead, .dead, .dead, .dead, .dead, .dead, .dead, .dead, .dead, .dead, .dead, .dead, .dead, .dead, .dead, .dead, .dead, .dead, .dead, .dead, .dead, .dead, .dead, .dead, .dead, .dead, .dead, .dead, .dead, .dead, .dead, .dead, .dead, .dead, .dead, .dead, .dead, .dead, .dead, .dead, .dead, .dead, .dead, .dead, .dead, .dead, .dead, .dead, .dead, .dead, .dead, .dead, .dead, .dead, .dead, .dead, .dead, .dead, .dead, .dead, .dead, .dead, .dead, .dead, .dead, .dead, .dead, .dead, .dead, .dead, .dead, .dead, .dead, .dead, .dead, .dead, .dead, .dead, .dead, .dead, .dead, .dead, .dead, .dead, .dead, .dead, .dead, .dead, .dead, .dead, .dead, .dead, .dead, .dead, .dead, .dead, .dead, .dead, .dead, .dead, .dead, .dead, .dead, .dead, .dead, .dead, .dead, .dead, .dead, .dead, .dead, .dead, .dead, .dead, .dead, .dead, .dead, .dead, .dead, .dead, .dead, .dead, .dead, .dead, .dead, .dead, .dead, .dead, .dead, .dead, .dead, .dead, .dead, .dead, .dead, .dead, .dead] [] [.box [.sl (.int .i64 (.int .i64 (.int .i64 (.int .i64 (.int .i64 (.int .i64 (.nil))))))), .int .i64, .int .i64, .int .i64]] [.q (.int .i64 (.int .i64 (.int .i64 (.int .i64 (.int .i64 (.int .i64 (.nil))))))) y1.1, .i y1.2.1, .i y1.2.2.1, .i y1.2.2.2.1])) 1000 (hdQ (.int .i64 (.int .i64 (.int .i64 (.bool (.int .i64 (.int .i64 (.bool (.int .i64 (.nil))))))))) ds) (hdI ds.tail) (hdI ds.tail.tail) (hdQ (.int .i64 (.int .i64 (.int .i64 (.int .i64 (.int .i64 (.int .i64 (.nil))))))) ds.tail.tail.tail, hdI ds.tail.tail.tail.tail, hdI ds.tail.tail.tail.tail.tail, hdI ds.tail.tail.tail.tail.tail.tail, ())⟩

noncomputable def draymanlaw32_PaySums_l1_t : List Sh := [.dead, .dead, .dead, .ref 0 0, .dead, .dead, .dead, .dead, .dead, .dead, .int .i64, .int .i64, .int .i64, .dead, .dead, .dead, .dead, .dead, .dead, .dead, .dead, .dead, .dead, .dead, .dead, .dead, .dead, .dead, .dead, .dead, .dead, .dead, .dead, .dead, .dead, .dead, .dead, .dead, .dead, .dead, .dead, .dead, .dead, .dead, .dead, .dead, .dead, .dead, .dead, .dead, .dead, .dead, .dead, .dead, .dead, .dead, .dead, .dead, .dead, .dead, .dead, .dead, .dead, .dead, .dead, .dead, .dead, .dead, .dead, .dead, .dead, .dead, .dead, .dead, .dead, .dead, .dead, .dead, .dead, .dead, .dead, .dead, .dead, .dead, .dead, .dead, .dead, .dead, .dead, .dead, .dead, .dead, .dead, .dead, .dead, .dead, .dead, .dead, .dead, .dead, .dead, .dead, .dead, .dead, .dead, .dead, .dead, .dead, .dead, .dead, .dead, .dead, .dead, .dead, .dead, .dead, .dead, .dead, .dead, .dead, .dead, .dead, .dead, .dead, .dead, .dead, .dead, .dead, .dead, .dead, .dead, .dead, .dead, .dead, .dead, .dead, .dead, .dead, .dead, .dead, .dead, .dead, .dead, .dead, .dead, .dead, .dead, .dead, .dead, .dead, .dead, .dead, .dead, .dead, .dead, .dead, .dead, .dead, .dead, .dead, .dead, .dead, .dead, .dead, .dead, .dead, .dead]
noncomputable def draymanlaw32_PaySums_l1_s : List (List Sh) := []
noncomputable def draymanlaw32_PaySums_l1_h : List BSh := [.box [.sl (.int .i64 (.int .i64 (.int .i64 (.int .i64 (.int .i64 (.int .i64 (.nil))))))), .int .i64, .int .i64, .int .i64]]

noncomputable def draymanlaw32_PaySums_l1_spec {α : Type} (draymanlaw32_awake : draymanlaw32_awake_T α) (pay_New : pay_New_T α) (pay_Come : pay_Come_T α) (pay_Fit : pay_Fit_T α) (draymanref31_Fit : draymanref31_Fit_T α) : LoopSpec α := ⟨6, 3, [true, false, true, true, true, true, true, true], draymanlaw32_PaySums_l1_t, draymanlaw32_PaySums_l1_s, draymanlaw32_PaySums_l1_h, fun ds k => draymanlaw32_PaySums_l1_run draymanlaw32_awake pay_New pay_Come pay_Fit draymanref31_Fit (fun y1 y2 y3 => k (.exit 2) (encSt [.dead, .dead, .dead, .ref 0 0, .dead, .dead, .dead, .dead, .dead, .dead, .int .i64, .int .i64, .dead, .dead, .dead, .dead, .dead, .dead, .dead, .dead, .dead, .dead, .dead, .dead, .dead, .dead, .dead, .dead, .dead, .dead, .dead, .dead, .dead, .dead, .dead, .dead, .dead, .dead, .dead, .dead, .dead, .dead, .dead, .dead, .dead, .dead, .dead, .dead, .dead, .dead, .dead, .dead, .dead, .dead, .dead, .dead, .dead, .dead, .dead, .dead, .dead, .dead, .dead, .dead, .dead, .dead, .dead, .dead, .dead, .dead, .dead, .dead, .dead, .dead, .dead, .dead, .dead, .dead, .dead, .dead, .dead, .dead, .dead, .dead, .dead, .dead, .dead, .dead, .dead, .dead, .dead, .dead, .dead, .dead, .dead, .dead, .dead, .dead, .dead, .dead, .dead, .dead, .dead, .dead, .dead, .dead, .dead, .dead, .dead, .dead, .dead, .dead, .dead, .dead, .dead, .dead, .dead, .dead, .dead, .dead, .dead, .dead, .dead, .dead, .dead, .dead, .dead, .dead, .dead, .dead, .dead, .dead, .dead, .dead, .dead, .dead, .dead, .dead, .dead, .dead, .dead, .dead, .dead, .dead, .dead, .dead, .dead, .dead, .dead, .dead, .dead, .dead, .dead, .dead, .dead, .dead, .dead, .dead, .dead, .dead, .dead, .dead, .dead, .dead, .dead, .dead, .dead] [] [.box [.sl (.int .i64 (.int .i64 (.int .i64 (.int .i64 (.int .i64 (.int .i64 (.nil))))))), .int .i64, .int .i64, .int .i64]] [.i y1, .i y2, .q (.int .i64 (.int .i64 (.int .i64 (.int .i64 (.int .i64 (.int .i64 (.nil))))))) y3.1, .i y3.2.1, .i y3.2.2.1, .i y3.2.2.2.1])) 1000 (hdI ds) (hdI ds.tail) (hdI ds.tail.tail) (hdQ (.int .i64 (.int .i64 (.int .i64 (.int .i64 (.int .i64 (.int .i64 (.nil))))))) ds.tail.tail.tail, hdI ds.tail.tail.tail.tail, hdI ds.tail.tail.tail.tail.tail, hdI ds.tail.tail.tail.tail.tail.tail, ())⟩

noncomputable def draymanlaw32_PaySums_loops {α : Type} (draymanlaw32_awake : draymanlaw32_awake_T α) (pay_New : pay_New_T α) (pay_Come : pay_Come_T α) (pay_Fit : pay_Fit_T α) (draymanref31_Fit : draymanref31_Fit_T α) : List (LoopSpec α) := [draymanlaw32_PaySums_l0_spec draymanlaw32_awake pay_New pay_Come pay_Fit draymanref31_Fit, draymanlaw32_PaySums_l1_spec draymanlaw32_awake pay_New pay_Come pay_Fit draymanref31_Fit]

noncomputable def draymanlaw32_PaySums_l0_ev {α : Type} (draymanlaw32_awake : draymanlaw32_awake_T α) (pay_New : pay_New_T α) (pay_Come : pay_Come_T α) (pay_Fit : pay_Fit_T α) (draymanref31_Fit : draymanref31_Fit_T α) (n : Nat) (st : St) (k : X → St → Option α) : Option α := loopN (evCode Go.Proofs.Try.prog (callD Go.Proofs.Try.prog (envOf (draymanlaw32_PaySums_C draymanlaw32_awake pay_New pay_Come pay_Fit draymanref31_Fit) draymanlaw32_PaySums_q draymanlaw32_PaySums_inl 1000 draymanlaw32_PaySums_ann false (draymanlaw32_PaySums_loops draymanlaw32_awake pay_New pay_Come pay_Fit draymanref31_Fit) (fun _ => none)) 6) (((envOf (draymanlaw32_PaySums_C draymanlaw32_awake pay_New pay_Come pay_Fit draymanref31_Fit) draymanlaw32_PaySums_q draymanlaw32_PaySums_inl 1000 draymanlaw32_PaySums_ann false (draymanlaw32_PaySums_loops draymanlaw32_awake pay_New pay_Come pay_Fit draymanref31_Fit) (fun _ => none)) : Env α).L 6 3) 1000 (draymanlaw32_PaySums_ann 3) (false :: [true, false, true, true, true, true]) (loopC Go.Proofs.Try.prog 3 [true, false, true, true, true, true])) ((draymanlaw32_PaySums_ann 3 [true, false, true, true, true, true]).head 1) ((draymanlaw32_PaySums_ann 3 [true, false, true, true, true, true]).leave 1) n st k

theorem draymanlaw32_PaySums_l0_eq {α : Type} (draymanlaw32_awake : draymanlaw32_awake_T α) (pay_New : pay_New_T α) (pay_Come : pay_Come_T α) (pay_Fit : pay_Fit_T α) (draymanref31_Fit : draymanref31_Fit_T α) : ∀ (n : Nat) (x4 : Seq (Int × Int × Int × Bool × Int × Int × Bool × Int × Unit)) (x5 : Int) (x6 : Int) (x7 : (Seq Z1) × Int × Int × Int × Unit) (k : X → St → Option α), draymanlaw32_PaySums_l0_ev draymanlaw32_awake pay_New pay_Come pay_Fit draymanref31_Fit n (encSt draymanlaw32_PaySums_l0_t draymanlaw32_PaySums_l0_s draymanlaw32_PaySums_l0_h [.q (.int .i64 (.int .i64 (.int .i64 (.bool (.int .i64 (.int .i64 (.bool (.int .i64 (.nil))))))))) x4, .i x5, .i x6, .q (.int .i64 (.int .i64 (.int .i64 (.int .i64 (.int .i64 (.int .i64 (.nil))))))) x7.1, .i x7.2.1, .i x7.2.2.1, .i x7.2.2.2.1]) k = draymanlaw32_PaySums_l0_run draymanlaw32_awake pay_New pay_Come pay_Fit draymanref31_Fit (fun y1 y2 => k .ret (encSt [.dead, .dead, .bool, .dead, .dead, .dead, .dead, .dead, .dead, .dead, .dead, .dead, .dead, .dead, .dead, .dead, .dead, .dead, .dead, .dead, .dead, .dead, .dead, .dead, .dead, .dead, .dead, .dead, .dead, .dead, .dead, .dead, .dead, .dead, .dead, .dead, .dead, .dead, .dead, .dead, .dead, .dead, .dead, .dead, .dead, .dead, .dead, .dead, .dead, .dead, .dead, .dead, .dead, .dead, .dead, .dead, .dead, .dead, .dead, .dead, .dead, .dead, .dead, .dead, .dead, .dead, .dead, .dead, .dead, .dead, .dead, .dead, .dead, .dead, .dead, .dead, .dead, .dead, .dead, .dead, .dead, .dead, .dead, .dead, .dead, .dead, .dead, .dead, .dead, .dead, .dead, .dead, .dead, .dead, .dead, .dead, .dead, .dead, .dead, .dead, .dead, .dead, .dead, .dead, .dead, .dead, .dead, .dead, .dead, .dead, .dead, .dead, .dead, .dead, .dead, .dead, .dead, .dead, .dead, .dead, .dead, .dead, .dead, .dead, .dead, .dead, .dead, .dead, .dead, .dead, .dead, .dead, .dead, .dead, .dead, .dead, .dead, .dead, .dead, .dead, .dead, .dead, .dead, .dead, .dead, .dead, .dead, .dead, .dead, .dead, .dead, .dead, .dead, .dead, .dead, .dead, .dead, .dead, .dead, .dead, .dead, .dead, .dead, .dead, .dead, .dead, .dead] [] [.box [.sl (.int .i64 (.int .i64 (.int .i64 (.int .i64 (.int .i64 (.int .i64 (.nil))))))), .int .i64, .int .i64, .int .i64]] [.b y1, .q (.int .i64 (.int .i64 (.int .i64 (.int .i64 (.int .i64 (.int .i64 (.nil))))))) y2.1, .i y2.2.1, .i y2.2.2.1, .i y2.2.2.2.1])) (fun y1 => k (.exit 0) (encSt [.dead, .dead, .dead, .ref 0 0, .dead, .dead, .dead, .dead, .dead, .dead, .dead, .dead, .dead, .dead, .dead, .dead, .dead, .dead, .dead, .dead, .dead, .dead, .dead, .dead, .dead, .dead, .dead, .dead, .dead, .dead, .dead, .dead, .dead, .dead, .dead, .dead, .dead, .dead, .dead, .dead, .dead, .dead, .dead, .dead, .dead, .dead, .dead, .dead, .dead, .dead, .dead, .dead, .dead, .dead, .dead, .dead, .dead, .dead, .dead, .dead, .dead, .dead, .dead, .dead, .dead, .dead, .dead, .dead, .dead, .dead, .dead, .dead, .dead, .dead, .dead, .dead, .dead, .dead, .dead, .dead, .dead, .dead, .dead, .dead, .dead, .dead, .dead, .dead, .dead, .dead, .dead, .dead, .dead, .dead, .dead, .dead, .dead, .dead, .dead, .dead, .dead, .dead, .dead, .dead, .dead, .dead, .dead, .dead, .dead, .dead, .dead, .dead, .dead, .dead, .dead, .dead, .dead, .dead, .dead, .dead, .dead, .dead, .dead, .dead, .dead, .dead, .dead, .dead, .dead, .dead, .dead, .dead, .dead, .dead, .dead, .dead, .dead, .dead, .dead, .dead, .dead, .dead, .dead, .dead, .dead, .dead, .dead, .dead, .dead, .dead, .dead, .dead, .dead, .dead, .dead, .dead, .dead, .dead, .dead, .dead, .dead, .dead, .dead, .dead, .dead, .dead, .dead] [] [.box [.sl (.int .i64 (.int .i64 (.int .i64 (.int .i64 (.int .i64 (.int .i64 (.nil))))))), .int .i64, .int .i64, .int .i64]] [.q (.int .i64 (.int .i64 (.int .i64 (.int .i64 (.int .i64 (.int .i64 (.nil))))))) y1.1, .i y1.2.1, .i y1.2.2.1, .i y1.2.2.2.1])) n x4 x5 x6 x7 := by
  intro n
  induction n with
  | zero => intros; kernel_rfl
  | succ n ih =>
    intro x4 x5 x6 x7 k
    have e : (fun (x4 : Seq (Int × Int × Int × Bool × Int × Int × Bool × Int × Unit)) (x5 : Int) (x6 : Int) (x7 : (Seq Z1) × Int × Int × Int × Unit) => draymanlaw32_PaySums_l0_ev draymanlaw32_awake pay_New pay_Come pay_Fit draymanref31_Fit n (encSt draymanlaw32_PaySums_l0_t draymanlaw32_PaySums_l0_s draymanlaw32_PaySums_l0_h [.q (.int .i64 (.int .i64 (.int .i64 (.bool (.int .i64 (.int .i64 (.bool (.int .i64 (.nil))))))))) x4, .i x5, .i x6, .q (.int .i64 (.int .i64 (.int .i64 (.int .i64 (.int .i64 (.int .i64 (.nil))))))) x7.1, .i x7.2.1, .i x7.2.2.1, .i x7.2.2.2.1]) k) = (fun (x4 : Seq (Int × Int × Int × Bool × Int × Int × Bool × Int × Unit)) (x5 : Int) (x6 : Int) (x7 : (Seq Z1) × Int × Int × Int × Unit) => draymanlaw32_PaySums_l0_run draymanlaw32_awake pay_New pay_Come pay_Fit draymanref31_Fit (fun y1 y2 => k .ret (encSt [.dead, .dead, .bool, .dead, .dead, .dead, .dead, .dead, .dead, .dead, .dead, .dead, .dead, .dead, .dead, .dead, .dead, .dead, .dead, .dead, .dead, .dead, .dead, .dead, .dead, .dead, .dead, .dead, .dead, .dead, .dead, .dead, .dead, .dead, .dead, .dead, .dead, .dead, .dead, .dead, .dead, .dead, .dead, .dead, .dead, .dead, .dead, .dead, .dead, .dead, .dead, .dead, .dead, .dead, .dead, .dead, .dead, .dead, .dead, .dead, .dead, .dead, .dead, .dead, .dead, .dead, .dead, .dead, .dead, .dead, .dead, .dead, .dead, .dead, .dead, .dead, .dead, .dead, .dead, .dead, .dead, .dead, .dead, .dead, .dead, .dead, .dead, .dead, .dead, .dead, .dead, .dead, .dead, .dead, .dead, .dead, .dead, .dead, .dead, .dead, .dead, .dead, .dead, .dead, .dead, .dead, .dead, .dead, .dead, .dead, .dead, .dead, .dead, .dead, .dead, .dead, .dead, .dead, .dead, .dead, .dead, .dead, .dead, .dead, .dead, .dead, .dead, .dead, .dead, .dead, .dead, .dead, .dead, .dead, .dead, .dead, .dead, .dead, .dead, .dead, .dead, .dead, .dead, .dead, .dead, .dead, .dead, .dead, .dead, .dead, .dead, .dead, .dead, .dead, .dead, .dead, .dead, .dead, .dead, .dead, .dead, .dead, .dead, .dead, .dead, .dead, .dead] [] [.box [.sl (.int .i64 (.int .i64 (.int .i64 (.int .i64 (.int .i64 (.int .i64 (.nil))))))), .int .i64, .int .i64, .int .i64]] [.b y1, .q (.int .i64 (.int .i64 (.int .i64 (.int .i64 (.int .i64 (.int .i64 (.nil))))))) y2.1, .i y2.2.1, .i y2.2.2.1, .i y2.2.2.2.1])) (fun y1 => k (.exit 0) (encSt [.dead, .dead, .dead, .ref 0 0, .dead, .dead, .dead, .dead, .dead, .dead, .dead, .dead, .dead, .dead, .dead, .dead, .dead, .dead, .dead, .dead, .dead, .dead, .dead, .dead, .dead, .dead, .dead, .dead, .dead, .dead, .dead, .dead, .dead, .dead, .dead, .dead, .dead, .dead, .dead, .dead, .dead, .dead, .dead, .dead, .dead, .dead, .dead, .dead, .dead, .dead, .dead, .dead, .dead, .dead, .dead, .dead, .dead, .dead, .dead, .dead, .dead, .dead, .dead, .dead, .dead, .dead, .dead, .dead, .dead, .dead, .dead, .dead, .dead, .dead, .dead, .dead, .dead, .dead, .dead, .dead, .dead, .dead, .dead, .dead, .dead, .dead, .dead, .dead, .dead, .dead, .dead, .dead, .dead, .dead, .dead, .dead, .dead, .dead, .dead, .dead, .dead, .dead, .dead, .dead, .dead, .dead, .dead, .dead, .dead, .dead, .dead, .dead, .dead, .dead, .dead, .dead, .dead, .dead, .dead, .dead, .dead, .dead, .dead, .dead, .dead, .dead, .dead, .dead, .dead, .dead, .dead, .dead, .dead, .dead, .dead, .dead, .dead, .dead, .dead, .dead, .dead, .dead, .dead, .dead, .dead, .dead, .dead, .dead, .dead, .dead, .dead, .dead, .dead, .dead, .dead, .dead, .dead, .dead, .dead, .dead, .dead, .dead, .dead, .dead, .dead, .dead, .dead] [] [.box [.sl (.int .i64 (.int .i64 (.int .i64 (.int .i64 (.int .i64 (.int .i64 (.nil))))))), .int .i64, .int .i64, .int .i64]] [.q (.int .i64 (.int .i64 (.int .i64 (.int .i64 (.int .i64 (.int .i64 (.nil))))))) y1.1, .i y1.2.1, .i y1.2.2.1, .i y1.2.2.2.1])) n x4 x5 x6 x7) := by
      funext x4 x5 x6 x7
      exact ih x4 x5 x6 x7 k
    have h1 : draymanlaw32_PaySums_l0_ev draymanlaw32_awake pay_New pay_Come pay_Fit draymanref31_Fit (n + 1) (encSt draymanlaw32_PaySums_l0_t draymanlaw32_PaySums_l0_s draymanlaw32_PaySums_l0_h [.q (.int .i64 (.int .i64 (.int .i64 (.bool (.int .i64 (.int .i64 (.bool (.int .i64 (.nil))))))))) x4, .i x5, .i x6, .q (.int .i64 (.int .i64 (.int .i64 (.int .i64 (.int .i64 (.int .i64 (.nil))))))) x7.1, .i x7.2.1, .i x7.2.2.1, .i x7.2.2.2.1]) k = draymanlaw32_PaySums_l0_step draymanlaw32_awake pay_New pay_Come pay_Fit draymanref31_Fit (fun y1 y2 => k .ret (encSt [.dead, .dead, .bool, .dead, .dead, .dead, .dead, .dead, .dead, .dead, .dead, .dead, .dead, .dead, .dead, .dead, .dead, .dead, .dead, .dead, .dead, .dead, .dead, .dead, .dead, .dead, .dead, .dead, .dead, .dead, .dead, .dead, .dead, .dead, .dead, .dead, .dead, .dead, .dead, .dead, .dead, .dead, .dead, .dead, .dead, .dead, .dead, .dead, .dead, .dead, .dead, .dead, .dead, .dead, .dead, .dead, .dead, .dead, .dead, .dead, .dead, .dead, .dead, .dead, .dead, .dead, .dead, .dead, .dead, .dead, .dead, .dead, .dead, .dead, .dead, .dead, .dead, .dead, .dead, .dead, .dead, .dead, .dead, .dead, .dead, .dead, .dead, .dead, .dead, .dead, .dead, .dead, .dead, .dead, .dead, .dead, .dead, .dead, .dead, .dead, .dead, .dead, .dead, .dead, .dead, .dead, .dead, .dead, .dead, .dead, .dead, .dead, .dead, .dead, .dead, .dead, .dead, .dead, .dead, .dead, .dead, .dead, .dead, .dead, .dead, .dead, .dead, .dead, .dead, .dead, .dead, .dead, .dead, .dead, .dead, .dead, .dead, .dead, .dead, .dead, .dead, .dead, .dead, .dead, .dead, .dead, .dead, .dead, .dead, .dead, .dead, .dead, .dead, .dead, .dead, .dead, .dead, .dead, .dead, .dead, .dead, .dead, .dead, .dead, .dead, .dead, .dead] [] [.box [.sl (.int .i64 (.int .i64 (.int .i64 (.int .i64 (.int .i64 (.int .i64 (.nil))))))), .int .i64, .int .i64, .int .i64]] [.b y1, .q (.int .i64 (.int .i64 (.int .i64 (.int .i64 (.int .i64 (.int .i64 (.nil))))))) y2.1, .i y2.2.1, .i y2.2.2.1, .i y2.2.2.2.1])) (fun y1 => k (.exit 0) (encSt [.dead, .dead, .dead, .ref 0 0, .dead, .dead, .dead, .dead, .dead, .dead, .dead, .dead, .dead, .dead, .dead, .dead, .dead, .dead, .dead, .dead, .dead, .dead, .dead, .dead, .dead, .dead, .dead, .dead, .dead, .dead, .dead, .dead, .dead, .dead, .dead, .dead, .dead, .dead, .dead, .dead, .dead, .dead, .dead, .dead, .dead, .dead, .dead, .dead, .dead, .dead, .dead, .dead, .dead, .dead, .dead, .dead, .dead, .dead, .dead, .dead, .dead, .dead, .dead, .dead, .dead, .dead, .dead, .dead, .dead, .dead, .dead, .dead, .dead, .dead, .dead, .dead, .dead, .dead, .dead, .dead, .dead, .dead, .dead, .dead, .dead, .dead, .dead, .dead, .dead, .dead, .dead, .dead, .dead, .dead, .dead, .dead, .dead, .dead, .dead, .dead, .dead, .dead, .dead, .dead, .dead, .dead, .dead, .dead, .dead, .dead, .dead, .dead, .dead, .dead, .dead, .dead, .dead, .dead, .dead, .dead, .dead, .dead, .dead, .dead, .dead, .dead, .dead, .dead, .dead, .dead, .dead, .dead, .dead, .dead, .dead, .dead, .dead, .dead, .dead, .dead, .dead, .dead, .dead, .dead, .dead, .dead, .dead, .dead, .dead, .dead, .dead, .dead, .dead, .dead, .dead, .dead, .dead, .dead, .dead, .dead, .dead, .dead, .dead, .dead, .dead, .dead, .dead] [] [.box [.sl (.int .i64 (.int .i64 (.int .i64 (.int .i64 (.int .i64 (.int .i64 (.nil))))))), .int .i64, .int .i64, .int .i64]] [.q (.int .i64 (.int .i64 (.int .i64 (.int .i64 (.int .i64 (.int .i64 (.nil))))))) y1.1, .i y1.2.1, .i y1.2.2.1, .i y1.2.2.2.1])) (fun (x4 : Seq (Int × Int × Int × Bool × Int × Int × Bool × Int × Unit)) (x5 : Int) (x6 : Int) (x7 : (Seq Z1) × Int × Int × Int × Unit) => draymanlaw32_PaySums_l0_ev draymanlaw32_awake pay_New pay_Come pay_Fit draymanref31_Fit n (encSt draymanlaw32_PaySums_l0_t draymanlaw32_PaySums_l0_s draymanlaw32_PaySums_l0_h [.q (.int .i64 (.int .i64 (.int .i64 (.bool (.int .i64 (.int .i64 (.bool (.int .i64 (.nil))))))))) x4, .i x5, .i x6, .q (.int .i64 (.int .i64 (.int .i64 (.int .i64 (.int .i64 (.int .i64 (.nil))))))) x7.1, .i x7.2.1, .i x7.2.2.1, .i x7.2.2.2.1]) k) x4 x5 x6 x7 := by kernel_rfl
    have h2 := congrArg (fun r => draymanlaw32_PaySums_l0_step draymanlaw32_awake pay_New pay_Come pay_Fit draymanref31_Fit (fun y1 y2 => k .ret (encSt [.dead, .dead, .bool, .dead, .dead, .dead, .dead, .dead, .dead, .dead, .dead, .dead, .dead, .dead, .dead, .dead, .dead, .dead, .dead, .dead, .dead, .dead, .dead, .dead, .dead, .dead, .dead, .dead, .dead, .dead, .dead, .dead, .dead, .dead, .dead, .dead, .dead, .dead, .dead, .dead, .dead, .dead, .dead, .dead, .dead, .dead, .dead, .dead, .dead, .dead, .dead, .dead, .dead, .dead, .dead, .dead, .dead, .dead, .dead, .dead, .dead, .dead, .dead, .dead, .dead, .dead, .dead, .dead, .dead, .dead, .dead, .dead, .dead, .dead, .dead, .dead, .dead, .dead, .dead, .dead, .dead, .dead, .dead, .dead, .dead, .dead, .dead, .dead, .dead, .dead, .dead, .dead, .dead, .dead, .dead, .dead, .dead, .dead, .dead, .dead, .dead, .dead, .dead, .dead, .dead, .dead, .dead, .dead, .dead, .dead, .dead, .dead, .dead, .dead, .dead, .dead, .dead, .dead, .dead, .dead, .dead, .dead, .dead, .dead, .dead, .dead, .dead, .dead, .dead, .dead, .dead, .dead, .dead, .dead, .dead, .dead, .dead, .dead, .dead, .dead, .dead, .dead, .dead, .dead, .dead, .dead, .dead, .dead, .dead, .dead, .dead, .dead, .dead, .dead, .dead, .dead, .dead, .dead, .dead, .dead, .dead, .dead, .dead, .dead, .dead, .dead, .dead] [] [.box [.sl (.int .i64 (.int .i64 (.int .i64 (.int .i64 (.int .i64 (.int .i64 (.nil))))))), .int .i64, .int .i64, .int .i64]] [.b y1, .q (.int .i64 (.int .i64 (.int .i64 (.int .i64 (.int .i64 (.int .i64 (.nil))))))) y2.1, .i y2.2.1, .i y2.2.2.1, .i y2.2.2.2.1])) (fun y1 => k (.exit 0) (encSt [.dead, .dead, .dead, .ref 0 0, .dead, .dead, .dead, .dead, .dead, .dead, .dead, .dead, .dead, .dead, .dead, .dead, .dead, .dead, .dead, .dead, .dead, .dead, .dead, .dead, .dead, .dead, .dead, .dead, .dead, .dead, .dead, .dead, .dead, .dead, .dead, .dead, .dead, .dead, .dead, .dead, .dead, .dead, .dead, .dead, .dead, .dead, .dead, .dead, .dead, .dead, .dead, .dead, .dead, .dead, .dead, .dead, .dead, .dead, .dead, .dead, .dead, .dead, .dead, .dead, .dead, .dead, .dead, .dead, .dead, .dead, .dead, .dead, .dead, .dead, .dead, .dead, .dead, .dead, .dead, .dead, .dead, .dead, .dead, .dead, .dead, .dead, .dead, .dead, .dead, .dead, .dead, .dead, .dead, .dead, .dead, .dead, .dead, .dead, .dead, .dead, .dead, .dead, .dead, .dead, .dead, .dead, .dead, .dead, .dead, .dead, .dead, .dead, .dead, .dead, .dead, .dead, .dead, .dead, .dead, .dead, .dead, .dead, .dead, .dead, .dead, .dead, .dead, .dead, .dead, .dead, .dead, .dead, .dead, .dead, .dead, .dead, .dead, .dead, .dead, .dead, .dead, .dead, .dead, .dead, .dead, .dead, .dead, .dead, .dead, .dead, .dead, .dead, .dead, .dead, .dead, .dead, .dead, .dead, .dead, .dead, .dead, .dead, .dead, .dead, .dead, .dead, .dead] [] [.box [.sl (.int .i64 (.int .i64 (.int .i64 (.int .i64 (.int .i64 (.int .i64 (.nil))))))), .int .i64, .int .i64, .int .i64]] [.q (.int .i64 (.int .i64 (.int .i64 (.int .i64 (.int .i64 (.int .i64 (.nil))))))) y1.1, .i y1.2.1, .i y1.2.2.1, .i y1.2.2.2.1])) r x4 x5 x6 x7) e
    have h3 : draymanlaw32_PaySums_l0_step draymanlaw32_awake pay_New pay_Come pay_Fit draymanref31_Fit (fun y1 y2 => k .ret (encSt [.dead, .dead, .bool, .dead, .dead, .dead, .dead, .dead, .dead, .dead, .dead, .dead, .dead, .dead, .dead, .dead, .dead, .dead, .dead, .dead, .dead, .dead, .dead, .dead, .dead, .dead, .dead, .dead, .dead, .dead, .dead, .dead, .dead, .dead, .dead, .dead, .dead, .dead, .dead, .dead, .dead, .dead, .dead, .dead, .dead, .dead, .dead, .dead, .dead, .dead, .dead, .dead, .dead, .dead, .dead, .dead, .dead, .dead, .dead, .dead, .dead, .dead, .dead, .dead, .dead, .dead, .dead, .dead, .dead, .dead, .dead, .dead, .dead, .dead, .dead, .dead, .dead, .dead, .dead, .dead, .dead, .dead, .dead, .dead, .dead, .dead, .dead, .dead, .dead, .dead, .dead, .dead, .dead, .dead, .dead, .dead, .dead, .dead, .dead, .dead, .dead, .dead, .dead, .dead, .dead, .dead, .dead, .dead, .dead, .dead, .dead, .dead, .dead, .dead, .dead, .dead, .dead, .dead, .dead, .dead, .dead, .dead, .dead, .dead, .dead, .dead, .dead, .dead, .dead, .dead, .dead, .dead, .dead, .dead, .dead, .dead, .dead, .dead, .dead, .dead, .dead, .dead, .dead, .dead, .dead, .dead, .dead, .dead, .dead, .dead, .dead, .dead, .dead, .dead, .dead, .dead, .dead, .dead, .dead, .dead, .dead, .dead, .dead, .dead, .dead, .dead, .dead] [] [.box [.sl (.int .i64 (.int .i64 (.int .i64 (.int .i64 (.int .i64 (.int .i64 (.nil))))))), .int .i64, .int .i64, .int .i64]] [.b y1, .q (.int .i64 (.int .i64 (.int .i64 (.int .i64 (.int .i64 (.int .i64 (.nil))))))) y2.1, .i y2.2.1, .i y2.2.2.1, .i y2.2.2.2.1])) (fun y1 => k (.exit 0) (encSt [.dead, .dead, .dead, .ref 0 0, .dead, .dead, .dead, .dead, .dead, .dead, .dead, .dead, .dead, .dead, .dead, .dead, .dead, .dead, .dead, .dead, .dead, .dead, .dead, .dead, .dead, .dead, .dead, .dead, .dead, .dead, .dead, .dead, .dead, .dead, .dead, .dead, .dead, .dead, .dead, .dead, .dead, .dead, .dead, .dead, .dead, .dead, .dead, .dead, .dead, .dead, .dead, .dead, .dead, .dead, .dead, .dead, .dead, .dead, .dead, .dead, .dead, .dead, .dead, .dead, .dead, .dead, .dead, .dead, .dead, .dead, .dead, .dead, .dead, .dead, .dead, .dead, .dead, .dead, .dead, .dead, .dead, .dead, .dead, .dead, .dead, .dead, .dead, .dead, .dead, .dead, .dead, .dead, .dead, .dead, .dead, .dead, .dead, .dead, .dead, .dead, .dead, .dead, .dead, .dead, .dead, .dead, .dead, .dead, .dead, .dead, .dead, .dead, .dead, .dead, .dead, .dead, .dead, .dead, .dead, .dead, .dead, .dead, .dead, .dead, .dead, .dead, .dead, .dead, .dead, .dead, .dead, .dead, .dead, .dead, .dead, .dead, .dead, .dead, .dead, .dead, .dead, .dead, .dead, .dead, .dead, .dead, .dead, .dead, .dead, .dead, .dead, .dead, .dead, .dead, .dead, .dead, .dead, .dead, .dead, .dead, .dead, .dead, .dead, .dead, .dead, .dead, .dead] [] [.box [.sl (.int .i64 (.int .i64 (.int .i64 (.int .i64 (.int .i64 (.int .i64 (.nil))))))), .int .i64, .int .i64, .int .i64]] [.q (.int .i64 (.int .i64 (.int .i64 (.int .i64 (.int .i64 (.int .i64 (.nil))))))) y1.1, .i y1.2.1, .i y1.2.2.1, .i y1.2.2.2.1])) (fun (x4 : Seq (Int × Int × Int × Bool × Int × Int × Bool × Int × Unit)) (x5 : Int) (x6 : Int) (x7 : (Seq Z1) × Int × Int × Int × Unit) => draymanlaw32_PaySums_l0_run draymanlaw32_awake pay_New pay_Come pay_Fit draymanref31_Fit (fun y1 y2 => k .ret (encSt [.dead, .dead, .bool, .dead, .dead, .dead, .dead, .dead, .dead, .dead, .dead, .dead, .dead, .dead, .dead, .dead, .dead, .dead, .dead, .dead, .dead, .dead, .dead, .dead, .dead, .dead, .dead, .dead, .dead, .dead, .dead, .dead, .dead, .dead, .dead, .dead, .dead, .dead, .dead, .dead, .dead, .dead, .dead, .dead, .dead, .dead, .dead, .dead, .dead, .dead, .dead, .dead, .dead, .dead, .dead, .dead, .dead, .dead, .dead, .dead, .dead, .dead, .dead, .dead, .dead, .dead, .dead, .dead, .dead, .dead, .dead, .dead, .dead, .dead, .dead, .dead, .dead, .dead, .dead, .dead, .dead, .dead, .dead, .dead, .dead, .dead, .dead, .dead, .dead, .dead, .dead, .dead, .dead, .dead, .dead, .dead, .dead, .dead, .dead, .dead, .dead, .dead, .dead, .dead, .dead, .dead, .dead, .dead, .dead, .dead, .dead, .dead, .dead, .dead, .dead, .dead, .dead, .dead, .dead, .dead, .dead, .dead, .dead, .dead, .dead, .dead, .dead, .dead, .dead, .dead, .dead, .dead, .dead, .dead, .dead, .dead, .dead, .dead, .dead, .dead, .dead, .dead, .dead, .dead, .dead, .dead, .dead, .dead, .dead, .dead, .dead, .dead, .dead, .dead, .dead, .dead, .dead, .dead, .dead, .dead, .dead, .dead, .dead, .dead, .dead, .dead, .dead] [] [.box [.sl (.int .i64 (.int .i64 (.int .i64 (.int .i64 (.int .i64 (.int .i64 (.nil))))))), .int .i64, .int .i64, .int .i64]] [.b y1, .q (.int .i64 (.int .i64 (.int .i64 (.int .i64 (.int .i64 (.int .i64 (.nil))))))) y2.1, .i y2.2.1, .i y2.2.2.1, .i y2.2.2.2.1])) (fun y1 => k (.exit 0) (encSt [.dead, .dead, .dead, .ref 0 0, .dead, .dead, .dead, .dead, .dead, .dead, .dead, .dead, .dead, .dead, .dead, .dead, .dead, .dead, .dead, .dead, .dead, .dead, .dead, .dead, .dead, .dead, .dead, .dead, .dead, .dead, .dead, .dead, .dead, .dead, .dead, .dead, .dead, .dead, .dead, .dead, .dead, .dead, .dead, .dead, .dead, .dead, .dead, .dead, .dead, .dead, .dead, .dead, .dead, .dead, .dead, .dead, .dead, .dead, .dead, .dead, .dead, .dead, .dead, .dead, .dead, .dead, .dead, .dead, .dead, .dead, .dead, .dead, .dead, .dead, .dead, .dead, .dead, .dead, .dead, .dead, .dead, .dead, .dead, .dead, .dead, .dead, .dead, .dead, .dead, .dead, .dead, .dead, .dead, .dead, .dead, .dead, .dead, .dead, .dead, .dead, .dead, .dead, .dead, .dead, .dead, .dead, .dead, .dead, .dead, .dead, .dead, .dead, .dead, .dead, .dead, .dead, .dead, .dead, .dead, .dead, .dead, .dead, .dead, .dead, .dead, .dead, .dead, .dead, .dead, .dead, .dead, .dead, .dead, .dead, .dead, .dead, .dead, .dead, .dead, .dead, .dead, .dead, .dead, .dead, .dead, .dead, .dead, .dead, .dead, .dead, .dead, .dead, .dead, .dead, .dead, .dead, .dead, .dead, .dead, .dead, .dead, .dead, .dead, .dead, .dead, .dead, .dead] [] [.box [.sl (.int .i64 (.int .i64 (.int .i64 (.int .i64 (.int .i64 (.int .i64 (.nil))))))), .int .i64, .int .i64, .int .i64]] [.q (.int .i64 (.int .i64 (.int .i64 (.int .i64 (.int .i64 (.int .i64 (.nil))))))) y1.1, .i y1.2.1, .i y1.2.2.1, .i y1.2.2.2.1])) n x4 x5 x6 x7) x4 x5 x6 x7 = draymanlaw32_PaySums_l0_run draymanlaw32_awake pay_New pay_Come pay_Fit draymanref31_Fit (fun y1 y2 => k .ret (encSt [.dead, .dead, .bool, .dead, .dead, .dead, .dead, .dead, .dead, .dead, .dead, .dead, .dead, .dead, .dead, .dead, .dead, .dead, .dead, .dead, .dead, .dead, .dead, .dead, .dead, .dead, .dead, .dead, .dead, .dead, .dead, .dead, .dead, .dead, .dead, .dead, .dead, .dead, .dead, .dead, .dead, .dead, .dead, .dead, .dead, .dead, .dead, .dead, .dead, .dead, .dead, .dead, .dead, .dead, .dead, .dead, .dead, .dead, .dead, .dead, .dead, .dead, .dead, .dead, .dead, .dead, .dead, .dead, .dead, .dead, .dead, .dead, .dead, .dead, .dead, .dead, .dead, .dead, .dead, .dead, .dead, .dead, .dead, .dead, .dead, .dead, .dead, .dead, .dead, .dead, .dead, .dead, .dead, .dead, .dead, .dead, .dead, .dead, .dead, .dead, .dead, .dead, .dead, .dead, .dead, .dead, .dead, .dead, .dead, .dead, .dead, .dead, .dead, .dead, .dead, .dead, .dead, .dead, .dead, .dead, .dead, .dead, .dead, .dead, .dead, .dead, .dead, .dead, .dead, .dead, .dead, .dead, .dead, .dead, .dead, .dead, .dead, .dead, .dead, .dead, .dead, .dead, .dead, .dead, .dead, .dead, .dead, .dead, .dead, .dead, .dead, .dead, .dead, .dead, .dead, .dead, .dead, .dead, .dead, .dead, .dead, .dead, .dead, .dead, .dead, .dead, .dead] [] [.box [.sl (.int .i64 (.int .i64 (.int .i64 (.int .i64 (.int .i64 (.int .i64 (.nil))))))), .int .i64, .int .i64, .int .i64]] [.b y1, .q (.int .i64 (.int .i64 (.int .i64 (.int .i64 (.int .i64 (.int .i64 (.nil))))))) y2.1, .i y2.2.1, .i y2.2.2.1, .i y2.2.2.2.1])) (fun y1 => k (.exit 0) (encSt [.dead, .dead, .dead, .ref 0 0, .dead, .dead, .dead, .dead, .dead, .dead, .dead, .dead, .dead, .dead, .dead, .dead, .dead, .dead, .dead, .dead, .dead, .dead, .dead, .dead, .dead, .dead, .dead, .dead, .dead, .dead, .dead, .dead, .dead, .dead, .dead, .dead, .dead, .dead, .dead, .dead, .dead, .dead, .dead, .dead, .dead, .dead, .dead, .dead, .dead, .dead, .dead, .dead, .dead, .dead, .dead, .dead, .dead, .dead, .dead, .dead, .dead, .dead, .dead, .dead, .dead, .dead, .dead, .dead, .dead, .dead, .dead, .dead, .dead, .dead, .dead, .dead, .dead, .dead, .dead, .dead, .dead, .dead, .dead, .dead, .dead, .dead, .dead, .dead, .dead, .dead, .dead, .dead, .dead, .dead, .dead, .dead, .dead, .dead, .dead, .dead, .dead, .dead, .dead, .dead, .dead, .dead, .dead, .dead, .dead, .dead, .dead, .dead, .dead, .dead, .dead, .dead, .dead, .dead, .dead, .dead, .dead, .dead, .dead, .dead, .dead, .dead, .dead, .dead, .dead, .dead, .dead, .dead, .dead, .dead, .dead, .dead, .dead, .dead, .dead, .dead, .dead, .dead, .dead, .dead, .dead, .dead, .dead, .dead, .dead, .dead, .dead, .dead, .dead, .dead, .dead, .dead, .dead, .dead, .dead, .dead, .dead, .dead, .dead, .dead, .dead, .dead, .dead] [] [.box [.sl (.int .i64 (.int .i64 (.int .i64 (.int .i64 (.int .i64 (.int .i64 (.nil))))))), .int .i64, .int .i64, .int .i64]] [.q (.int .i64 (.int .i64 (.int .i64 (.int .i64 (.int .i64 (.int .i64 (.nil))))))) y1.1, .i y1.2.1, .i y1.2.2.1, .i y1.2.2.2.1])) (n + 1) x4 x5 x6 x7 := by kernel_rfl
    exact h1.trans (h2.trans h3)

theorem draymanlaw32_PaySums_l0_ok {α : Type} (draymanlaw32_awake : draymanlaw32_awake_T α) (pay_New : pay_New_T α) (pay_Come : pay_Come_T α) (pay_Fit : pay_Fit_T α) (draymanref31_Fit : draymanref31_Fit_T α) : (draymanlaw32_PaySums_l0_spec draymanlaw32_awake pay_New pay_Come pay_Fit draymanref31_Fit : LoopSpec α).ok Go.Proofs.Try.prog (envOf (draymanlaw32_PaySums_C draymanlaw32_awake pay_New pay_Come pay_Fit draymanref31_Fit) draymanlaw32_PaySums_q draymanlaw32_PaySums_inl 1000 draymanlaw32_PaySums_ann false (draymanlaw32_PaySums_loops draymanlaw32_awake pay_New pay_Come pay_Fit draymanref31_Fit) (fun _ => none)) := by
  intro ds k
  have h1 : draymanlaw32_PaySums_l0_ev draymanlaw32_awake pay_New pay_Come pay_Fit draymanref31_Fit 1000 (encSt draymanlaw32_PaySums_l0_t draymanlaw32_PaySums_l0_s draymanlaw32_PaySums_l0_h ds) k = draymanlaw32_PaySums_l0_ev draymanlaw32_awake pay_New pay_Come pay_Fit draymanref31_Fit 1000 (encSt draymanlaw32_PaySums_l0_t draymanlaw32_PaySums_l0_s draymanlaw32_PaySums_l0_h [.q (.int .i64 (.int .i64 (.int .i64 (.bool (.int .i64 (.int .i64 (.bool (.int .i64 (.nil))))))))) (hdQ (.int .i64 (.int .i64 (.int .i64 (.bool (.int .i64 (.int .i64 (.bool (.int .i64 (.nil))))))))) ds), .i (hdI ds.tail), .i (hdI ds.tail.tail), .q (.int .i64 (.int .i64 (.int .i64 (.int .i64 (.int .i64 (.int .i64 (.nil))))))) ((hdQ (.int .i64 (.int .i64 (.int .i64 (.int .i64 (.int .i64 (.int .i64 (.nil))))))) ds.tail.tail.tail, hdI ds.tail.tail.tail.tail, hdI ds.tail.tail.tail.tail.tail, hdI ds.tail.tail.tail.tail.tail.tail, ()).1), .i ((hdQ (.int .i64 (.int .i64 (.int .i64 (.int .i64 (.int .i64 (.int .i64 (.nil))))))) ds.tail.tail.tail, hdI ds.tail.tail.tail.tail, hdI ds.tail.tail.tail.tail.tail, hdI ds.tail.tail.tail.tail.tail.tail, ()).2.1), .i ((hdQ (.int .i64 (.int .i64 (.int .i64 (.int .i64 (.int .i64 (.int .i64 (.nil))))))) ds.tail.tail.tail, hdI ds.tail.tail.tail.tail, hdI ds.tail.tail.tail.tail.tail, hdI ds.tail.tail.tail.tail.tail.tail, ()).2.2.1), .i ((hdQ (.int .i64 (.int .i64 (.int .i64 (.int .i64 (.int .i64 (.int .i64 (.nil))))))) ds.tail.tail.tail, hdI ds.tail.tail.tail.tail, hdI ds.tail.tail.tail.tail.tail, hdI ds.tail.tail.tail.tail.tail.tail, ()).2.2.2.1)]) k := by kernel_rfl
  have h2 := draymanlaw32_PaySums_l0_eq draymanlaw32_awake pay_New pay_Come pay_Fit draymanref31_Fit 1000 (hdQ (.int .i64 (.int .i64 (.int .i64 (.bool (.int .i64 (.int .i64 (.bool (.int .i64 (.nil))))))))) ds) (hdI ds.tail) (hdI ds.tail.tail) (hdQ (.int .i64 (.int .i64 (.int .i64 (.int .i64 (.int .i64 (.int .i64 (.nil))))))) ds.tail.tail.tail, hdI ds.tail.tail.tail.tail, hdI ds.tail.tail.tail.tail.tail, hdI ds.tail.tail.tail.tail.tail.tail, ()) k
  exact h1.trans h2

noncomputable def draymanlaw32_PaySums_l1_ev {α : Type} (draymanlaw32_awake : draymanlaw32_awake_T α) (pay_New : pay_New_T α) (pay_Come : pay_Come_T α) (pay_Fit : pay_Fit_T α) (draymanref31_Fit : draymanref31_Fit_T α) (n : Nat) (st : St) (k : X → St → Option α) : Option α := loopN (evCode Go.Proofs.Try.prog (callD Go.Proofs.Try.prog (envOf (draymanlaw32_PaySums_C draymanlaw32_awake pay_New pay_Come pay_Fit draymanref31_Fit) draymanlaw32_PaySums_q draymanlaw32_PaySums_inl 1000 draymanlaw32_PaySums_ann false (draymanlaw32_PaySums_loops draymanlaw32_awake pay_New pay_Come pay_Fit draymanref31_Fit) (fun _ => none)) 6) (((envOf (draymanlaw32_PaySums_C draymanlaw32_awake pay_New pay_Come pay_Fit draymanref31_Fit) draymanlaw32_PaySums_q draymanlaw32_PaySums_inl 1000 draymanlaw32_PaySums_ann false (draymanlaw32_PaySums_loops draymanlaw32_awake pay_New pay_Come pay_Fit draymanref31_Fit) (fun _ => none)) : Env α).L 6 3) 1000 (draymanlaw32_PaySums_ann 3) (false :: [true, false, true, true, true, true, true, true]) (loopC Go.Proofs.Try.prog 3 [true, false, true, true, true, true, true, true])) ((draymanlaw32_PaySums_ann 3 [true, false, true, true, true, true, true, true]).head 1) ((draymanlaw32_PaySums_ann 3 [true, false, true, true, true, true, true, true]).leave 1) n st k

theorem draymanlaw32_PaySums_l1_eq {α : Type} (draymanlaw32_awake : draymanlaw32_awake_T α) (pay_New : pay_New_T α) (pay_Come : pay_Come_T α) (pay_Fit : pay_Fit_T α) (draymanref31_Fit : draymanref31_Fit_T α) : ∀ (n : Nat) (x17 : Int) (x18 : Int) (x19 : Int) (x20 : (Seq Z1) × Int × Int × Int × Unit) (k : X → St → Option α), draymanlaw32_PaySums_l1_ev draymanlaw32_awake pay_New pay_Come pay_Fit draymanref31_Fit n (encSt draymanlaw32_PaySums_l1_t draymanlaw32_PaySums_l1_s draymanlaw32_PaySums_l1_h [.i x17, .i x18, .i x19, .q (.int .i64 (.int .i64 (.int .i64 (.int .i64 (.int .i64 (.int .i64 (.nil))))))) x20.1, .i x20.2.1, .i x20.2.2.1, .i x20.2.2.2.1]) k = draymanlaw32_PaySums_l1_run draymanlaw32_awake pay_New pay_Come pay_Fit draymanref31_Fit (fun y1 y2 y3 => k (.exit 2) (encSt [.dead, .dead, .dead, .ref 0 0, .dead, .dead, .dead, .dead, .dead, .dead, .int .i64, .int .i64, .dead, .dead, .dead, .dead, .dead, .dead, .dead, .dead, .dead, .dead, .dead, .dead, .dead, .dead, .dead, .dead, .dead, .dead, .dead, .dead, .dead, .dead, .dead, .dead, .dead, .dead, .dead, .dead, .dead, .dead, .dead, .dead, .dead, .dead, .dead, .dead, .dead, .dead, .dead, .dead, .dead, .dead, .dead, .dead, .dead, .dead, .dead, .dead, .dead, .dead, .dead, .dead, .dead, .dead, .dead, .dead, .dead, .dead, .dead, .dead, .dead, .dead, .dead, .dead, .dead, .dead, .dead, .dead, .dead, .dead, .dead, .dead, .dead, .dead, .dead, .dead, .dead, .dead, .dead, .dead, .dead, .dead, .dead, .dead, .dead, .dead, .dead, .dead, .dead, .dead, .dead, .dead, .dead, .dead, .dead, .dead, .dead, .dead, .dead, .dead, .dead, .dead, .dead, .dead, .dead, .dead, .dead, .dead, .dead, .dead, .dead, .dead, .dead, .dead, .dead, .dead, .dead, .dead, .dead, .dead, .dead, .dead, .dead, .dead, .dead, .dead, .dead, .dead, .dead, .dead, .dead, .dead, .dead, .dead, .dead, .dead, .dead, .dead, .dead, .dead, .dead, .dead, .dead, .dead, .dead, .dead, .dead, .dead, .dead, .dead, .dead, .dead, .dead, .dead, .dead] [] [.box [.sl (.int .i64 (.int .i64 (.int .i64 (.int .i64 (.int .i64 (.int .i64 (.nil))))))), .int .i64, .int .i64, .int .i64]] [.i y1, .i y2, .q (.int .i64 (.int .i64 (.int .i64 (.int .i64 (.int .i64 (.int .i64 (.nil))))))) y3.1, .i y3.2.1, .i y3.2.2.1, .i y3.2.2.2.1])) n x17 x18 x19 x20 := by
  intro n
  induction n with
  | zero => intros; kernel_rfl
  | succ n ih =>
    intro x17 x18 x19 x20 k
    have e : (fun (x17 : Int) (x18 : Int) (x19 : Int) (x20 : (Seq Z1) × Int × Int × Int × Unit) => draymanlaw32_PaySums_l1_ev draymanlaw32_awake pay_New pay_Come pay_Fit draymanref31_Fit n (encSt draymanlaw32_PaySums_l1_t draymanlaw32_PaySums_l1_s draymanlaw32_PaySums_l1_h [.i x17, .i x18, .i x19, .q (.int .i64 (.int .i64 (.int .i64 (.int .i64 (.int .i64 (.int .i64 (.nil))))))) x20.1, .i x20.2.1, .i x20.2.2.1, .i x20.2.2.2.1]) k) = (fun (x17 : Int) (x18 : Int) (x19 : Int) (x20 : (Seq Z1) × Int × Int × Int × Unit) => draymanlaw32_PaySums_l1_run draymanlaw32_awake pay_New pay_Come pay_Fit draymanref31_Fit (fun y1 y2 y3 => k (.exit 2) (encSt [.dead, .dead, .dead, .ref 0 0, .dead, .dead, .dead, .dead, .dead, .dead, .int .i64, .int .i64, .dead, .dead, .dead, .dead, .dead, .dead, .dead, .dead, .dead, .dead, .dead, .dead, .dead, .dead, .dead, .dead, .dead, .dead, .dead, .dead, .dead, .dead, .dead, .dead, .dead, .dead, .dead, .dead, .dead, .dead, .dead, .dead, .dead, .dead, .dead, .dead, .dead, .dead, .dead, .dead, .dead, .dead, .dead, .dead, .dead, .dead, .dead, .dead, .dead, .dead, .dead, .dead, .dead, .dead, .dead, .dead, .dead, .dead, .dead, .dead, .dead, .dead, .dead, .dead, .dead, .dead, .dead, .dead, .dead, .dead, .dead, .dead, .dead, .dead, .dead, .dead, .dead, .dead, .dead, .dead, .dead, .dead, .dead, .dead, .dead, .dead, .dead, .dead, .dead, .dead, .dead, .dead, .dead, .dead, .dead, .dead, .dead, .dead, .dead, .dead, .dead, .dead, .dead, .dead, .dead, .dead, .dead, .dead, .dead, .dead, .dead, .dead, .dead, .dead, .dead, .dead, .dead, .dead, .dead, .dead, .dead, .dead, .dead, .dead, .dead, .dead, .dead, .dead, .dead, .dead, .dead, .dead, .dead, .dead, .dead, .dead, .dead, .dead, .dead, .dead, .dead, .dead, .dead, .dead, .dead, .dead, .dead, .dead, .dead, .dead, .dead, .dead, .dead, .dead, .dead] [] [.box [.sl (.int .i64 (.int .i64 (.int .i64 (.int .i64 (.int .i64 (.int .i64 (.nil))))))), .int .i64, .int .i64, .int .i64]] [.i y1, .i y2, .q (.int .i64 (.int .i64 (.int .i64 (.int .i64 (.int .i64 (.int .i64 (.nil))))))) y3.1, .i y3.2.1, .i y3.2.2.1, .i y3.2.2.2.1])) n x17 x18 x19 x20) := by
      funext x17 x18 x19 x20
      exact ih x17 x18 x19 x20 k
    have h1 : draymanlaw32_PaySums_l1_ev draymanlaw32_awake pay_New pay_Come pay_Fit draymanref31_Fit (n + 1) (encSt draymanlaw32_PaySums_l1_t draymanlaw32_PaySums_l1_s draymanlaw32_PaySums_l1_h [.i x17, .i x18, .i x19, .q (.int .i64 (.int .i64 (.int .i64 (.int .i64 (.int .i64 (.int .i64 (.nil))))))) x20.1, .i x20.2.1, .i x20.2.2.1, .i x20.2.2.2.1]) k = draymanlaw32_PaySums_l1_step draymanlaw32_awake pay_New pay_Come pay_Fit draymanref31_Fit (fun y1 y2 y3 => k (.exit 2) (encSt [.dead, .dead, .dead, .ref 0 0, .dead, .dead, .dead, .dead, .dead, .dead, .int .i64, .int .i64, .dead, .dead, .dead, .dead, .dead, .dead, .dead, .dead, .dead, .dead, .dead, .dead, .dead, .dead, .dead, .dead, .dead, .dead, .dead, .dead, .dead, .dead, .dead, .dead, .dead, .dead, .dead, .dead, .dead, .dead, .dead, .dead, .dead, .dead, .dead, .dead, .dead, .dead, .dead, .dead, .dead, .dead, .dead, .dead, .dead, .dead, .dead, .dead, .dead, .dead, .dead, .dead, .dead, .dead, .dead, .dead, .dead, .dead, .dead, .dead, .dead, .dead, .dead, .dead, .dead, .dead, .dead, .dead, .dead, .dead, .dead, .dead, .dead, .dead, .dead, .dead, .dead, .dead, .dead, .dead, .dead, .dead, .dead, .dead, .dead, .dead, .dead, .dead, .dead, .dead, .dead, .dead, .dead, .dead, .dead, .dead, .dead, .dead, .dead, .dead, .dead, .dead, .dead, .dead, .dead, .dead, .dead, .dead, .dead, .dead, .dead, .dead, .dead, .dead, .dead, .dead, .dead, .dead, .dead, .dead, .dead, .dead, .dead, .dead, .dead, .dead, .dead, .dead, .dead, .dead, .dead, .dead, .dead, .dead, .dead, .dead, .dead, .dead, .dead, .dead, .dead, .dead, .dead, .dead, .dead, .dead, .dead, .dead, .dead, .dead, .dead, .dead, .dead, .dead, .dead] [] [.box [.sl (.int .i64 (.int .i64 (.int .i64 (.int .i64 (.int .i64 (.int .i64 (.nil))))))), .int .i64, .int .i64, .int .i64]] [.i y1, .i y2, .q (.int .i64 (.int .i64 (.int .i64 (.int .i64 (.int .i64 (.int .i64 (.nil))))))) y3.1, .i y3.2.1, .i y3.2.2.1, .i y3.2.2.2.1])) (fun (x17 : Int) (x18 : Int) (x19 : Int) (x20 : (Seq Z1) × Int × Int × Int × Unit) => draymanlaw32_PaySums_l1_ev draymanlaw32_awake pay_New pay_Come pay_Fit draymanref31_Fit n (encSt draymanlaw32_PaySums_l1_t draymanlaw32_PaySums_l1_s draymanlaw32_PaySums_l1_h [.i x17, .i x18, .i x19, .q (.int .i64 (.int .i64 (.int .i64 (.int .i64 (.int .i64 (.int .i64 (.nil))))))) x20.1, .i x20.2.1, .i x20.2.2.1, .i x20.2.2.2.1]) k) x17 x18 x19 x20 := by kernel_rfl
    have h2 := congrArg (fun r => draymanlaw32_PaySums_l1_step draymanlaw32_awake pay_New pay_Come pay_Fit draymanref31_Fit (fun y1 y2 y3 => k (.exit 2) (encSt [.dead, .dead, .dead, .ref 0 0, .dead, .dead, .dead, .dead, .dead, .dead, .int .i64, .int .i64, .dead, .dead, .dead, .dead, .dead, .dead, .dead, .dead, .dead, .dead, .dead, .dead, .dead, .dead, .dead, .dead, .dead, .dead, .dead, .dead, .dead, .dead, .dead, .dead, .dead, .dead, .dead, .dead, .dead, .dead, .dead, .dead, .dead, .dead, .dead, .dead, .dead, .dead, .dead, .dead, .dead, .dead, .dead, .dead, .dead, .dead, .dead, .dead, .dead, .dead, .dead, .dead, .dead, .dead, .dead, .dead, .dead, .dead, .dead, .dead, .dead, .dead, .dead, .dead, .dead, .dead, .dead, .dead, .dead, .dead, .dead, .dead, .dead, .dead, .dead, .dead, .dead, .dead, .dead, .dead, .dead, .dead, .dead, .dead, .dead, .dead, .dead, .dead, .dead, .dead, .dead, .dead, .dead, .dead, .dead, .dead, .dead, .dead, .dead, .dead, .dead, .dead, .dead, .dead, .dead, .dead, .dead, .dead, .dead, .dead, .dead, .dead, .dead, .dead, .dead, .dead, .dead, .dead, .dead, .dead, .dead, .dead, .dead, .dead, .dead, .dead, .dead, .dead, .dead, .dead, .dead, .dead, .dead, .dead, .dead, .dead, .dead, .dead, .dead, .dead, .dead, .dead, .dead, .dead, .dead, .dead, .dead, .dead, .dead, .dead, .dead, .dead, .dead, .dead, .dead] [] [.box [.sl (.int .i64 (.int .i64 (.int .i64 (.int .i64 (.int .i64 (.int .i64 (.nil))))))), .int .i64, .int .i64, .int .i64]] [.i y1, .i y2, .q (.int .i64 (.int .i64 (.int .i64 (.int .i64 (.int .i64 (.int .i64 (.nil))))))) y3.1, .i y3.2.1, .i y3.2.2.1, .i y3.2.2.2.1])) r x17 x18 x19 x20) e
    have h3 : draymanlaw32_PaySums_l1_step draymanlaw32_awake pay_New pay_Come pay_Fit draymanref31_Fit (fun y1 y2 y3 => k (.exit 2) (encSt [.dead, .dead, .dead, .ref 0 0, .dead, .dead, .dead, .dead, .dead, .dead, .int .i64, .int .i64, .dead, .dead, .dead, .dead, .dead, .dead, .dead, .dead, .dead, .dead, .dead, .dead, .dead, .dead, .dead, .dead, .dead, .dead, .dead, .dead, .dead, .dead, .dead, .dead, .dead, .dead, .dead, .dead, .dead, .dead, .dead, .dead, .dead, .dead, .dead, .dead, .dead, .dead, .dead, .dead, .dead, .dead, .dead, .dead, .dead, .dead, .dead, .dead, .dead, .dead, .dead, .dead, .dead, .dead, .dead, .dead, .dead, .dead, .dead, .dead, .dead, .dead, .dead, .dead, .dead, .dead, .dead, .dead, .dead, .dead, .dead, .dead, .dead, .dead, .dead, .dead, .dead, .dead, .dead, .dead, .dead, .dead, .dead, .dead, .dead, .dead, .dead, .dead, .dead, .dead, .dead, .dead, .dead, .dead, .dead, .dead, .dead, .dead, .dead, .dead, .dead, .dead, .dead, .dead, .dead, .dead, .dead, .dead, .dead, .dead, .dead, .dead, .dead, .dead, .dead, .dead, .dead, .dead, .dead, .dead, .dead, .dead, .dead, .dead, .dead, .dead, .dead, .dead, .dead, .dead, .dead, .dead, .dead, .dead, .dead, .dead, .dead, .dead, .dead, .dead, .dead, .dead, .dead, .dead, .dead, .dead, .dead, .dead, .dead, .dead, .dead, .dead, .dead, .dead, .dead] [] [.box [.sl (.int .i64 (.int .i64 (.int .i64 (.int .i64 (.int .i64 (.int .i64 (.nil))))))), .int .i64, .int .i64, .int .i64]] [.i y1, .i y2, .q (.int .i64 (.int .i64 (.int .i64 (.int .i64 (.int .i64 (.int .i64 (.nil))))))) y3.1, .i y3.2.1, .i y3.2.2.1, .i y3.2.2.2.1])) (fun (x17 : Int) (x18 : Int) (x19 : Int) (x20 : (Seq Z1) × Int × Int × Int × Unit) => draymanlaw32_PaySums_l1_run draymanlaw32_awake pay_New pay_Come pay_Fit draymanref31_Fit (fun y1 y2 y3 => k (.exit 2) (encSt [.dead, .dead, .dead, .ref 0 0, .dead, .dead, .dead, .dead, .dead, .dead, .int .i64, .int .i64, .dead, .dead, .dead, .dead, .dead, .dead, .dead, .dead, .dead, .dead, .dead, .dead, .dead, .dead, .dead, .dead, .dead, .dead, .dead, .dead, .dead, .dead, .dead, .dead, .dead, .dead, .dead, .dead, .dead, .dead, .dead, .dead, .dead, .dead, .dead, .dead, .dead, .dead, .dead, .dead, .dead, .dead, .dead, .dead, .dead, .dead, .dead, .dead, .dead, .dead, .dead, .dead, .dead, .dead, .dead, .dead, .dead, .dead, .dead, .dead, .dead, .dead, .dead, .dead, .dead, .dead, .dead, .dead, .dead, .dead, .dead, .dead, .dead, .dead, .dead, .dead, .dead, .dead, .dead, .dead, .dead, .dead, .dead, .dead, .dead, .dead, .dead, .dead, .dead, .dead, .dead, .dead, .dead, .dead, .dead, .dead, .dead, .dead, .dead, .dead, .dead, .dead, .dead, .dead, .dead, .dead, .dead, .dead, .dead, .dead, .dead, .dead, .dead, .dead, .dead, .dead, .dead, .dead, .dead, .dead, .dead, .dead, .dead, .dead, .dead, .dead, .dead, .dead, .dead, .dead, .dead, .dead, .dead, .dead, .dead, .dead, .dead, .dead, .dead, .dead, .dead, .dead, .dead, .dead, .dead, .dead, .dead, .dead, .dead, .dead, .dead, .dead, .dead, .dead, .dead] [] [.box [.sl (.int .i64 (.int .i64 (.int .i64 (.int .i64 (.int .i64 (.int .i64 (.nil))))))), .int .i64, .int .i64, .int .i64]] [.i y1, .i y2, .q (.int .i64 (.int .i64 (.int .i64 (.int .i64 (.int .i64 (.int .i64 (.nil))))))) y3.1, .i y3.2.1, .i y3.2.2.1, .i y3.2.2.2.1])) n x17 x18 x19 x20) x17 x18 x19 x20 = draymanlaw32_PaySums_l1_run draymanlaw32_awake pay_New pay_Come pay_Fit draymanref31_Fit (fun y1 y2 y3 => k (.exit 2) (encSt [.dead, .dead, .dead, .ref 0 0, .dead, .dead, .dead, .dead, .dead, .dead, .int .i64, .int .i64, .dead, .dead, .dead, .dead, .dead, .dead, .dead, .dead, .dead, .dead, .dead, .dead, .dead, .dead, .dead, .dead, .dead, .dead, .dead, .dead, .dead, .dead, .dead, .dead, .dead, .dead, .dead, .dead, .dead, .dead, .dead, .dead, .dead, .dead, .dead, .dead, .dead, .dead, .dead, .dead, .dead, .dead, .dead, .dead, .dead, .dead, .dead, .dead, .dead, .dead, .dead, .dead, .dead, .dead, .dead, .dead, .dead, .dead, .dead, .dead, .dead, .dead, .dead, .dead, .dead, .dead, .dead, .dead, .dead, .dead, .dead, .dead, .dead, .dead, .dead, .dead, .dead, .dead, .dead, .dead, .dead, .dead, .dead, .dead, .dead, .dead, .dead, .dead, .dead, .dead, .dead, .dead, .dead, .dead, .dead, .dead, .dead, .dead, .dead, .dead, .dead, .dead, .dead, .dead, .dead, .dead, .dead, .dead, .dead, .dead, .dead, .dead, .dead, .dead, .dead, .dead, .dead, .dead, .dead, .dead, .dead, .dead, .dead, .dead, .dead, .dead, .dead, .dead, .dead, .dead, .dead, .dead, .dead, .dead, .dead, .dead, .dead, .dead, .dead, .dead, .dead, .dead, .dead, .dead, .dead, .dead, .dead, .dead, .dead, .dead, .dead, .dead, .dead, .dead, .dead] [] [.box [.sl (.int .i64 (.int .i64 (.int .i64 (.int .i64 (.int .i64 (.int .i64 (.nil))))))), .int .i64, .int .i64, .int .i64]] [.i y1, .i y2, .q (.int .i64 (.int .i64 (.int .i64 (.int .i64 (.int .i64 (.int .i64 (.nil))))))) y3.1, .i y3.2.1, .i y3.2.2.1, .i y3.2.2.2.1])) (n + 1) x17 x18 x19 x20 := by kernel_rfl
    exact h1.trans (h2.trans h3)

theorem draymanlaw32_PaySums_l1_ok {α : Type} (draymanlaw32_awake : draymanlaw32_awake_T α) (pay_New : pay_New_T α) (pay_Come : pay_Come_T α) (pay_Fit : pay_Fit_T α) (draymanref31_Fit : draymanref31_Fit_T α) : (draymanlaw32_PaySums_l1_spec draymanlaw32_awake pay_New pay_Come pay_Fit draymanref31_Fit : LoopSpec α).ok Go.Proofs.Try.prog (envOf (draymanlaw32_PaySums_C draymanlaw32_awake pay_New pay_Come pay_Fit draymanref31_Fit) draymanlaw32_PaySums_q draymanlaw32_PaySums_inl 1000 draymanlaw32_PaySums_ann false (draymanlaw32_PaySums_loops draymanlaw32_awake pay_New pay_Come pay_Fit draymanref31_Fit) (fun _ => none)) := by
  intro ds k
  have h1 : draymanlaw32_PaySums_l1_ev draymanlaw32_awake pay_New pay_Come pay_Fit draymanref31_Fit 1000 (encSt draymanlaw32_PaySums_l1_t draymanlaw32_PaySums_l1_s draymanlaw32_PaySums_l1_h ds) k = draymanlaw32_PaySums_l1_ev draymanlaw32_awake pay_New pay_Come pay_Fit draymanref31_Fit 1000 (encSt draymanlaw32_PaySums_l1_t draymanlaw32_PaySums_l1_s draymanlaw32_PaySums_l1_h [.i (hdI ds), .i (hdI ds.tail), .i (hdI ds.tail.tail), .q (.int .i64 (.int .i64 (.int .i64 (.int .i64 (.int .i64 (.int .i64 (.nil))))))) ((hdQ (.int .i64 (.int .i64 (.int .i64 (.int .i64 (.int .i64 (.int .i64 (.nil))))))) ds.tail.tail.tail, hdI ds.tail.tail.tail.tail, hdI ds.tail.tail.tail.tail.tail, hdI ds.tail.tail.tail.tail.tail.tail, ()).1), .i ((hdQ (.int .i64 (.int .i64 (.int .i64 (.int .i64 (.int .i64 (.int .i64 (.nil))))))) ds.tail.tail.tail, hdI ds.tail.tail.tail.tail, hdI ds.tail.tail.tail.tail.tail, hdI ds.tail.tail.tail.tail.tail.tail, ()).2.1), .i ((hdQ (.int .i64 (.int .i64 (.int .i64 (.int .i64 (.int .i64 (.int .i64 (.nil))))))) ds.tail.tail.tail, hdI ds.tail.tail.tail.tail, hdI ds.tail.tail.tail.tail.tail, hdI ds.tail.tail.tail.tail.tail.tail, ()).2.2.1), .i ((hdQ (.int .i64 (.int .i64 (.int .i64 (.int .i64 (.int .i64 (.int .i64 (.nil))))))) ds.tail.tail.tail, hdI ds.tail.tail.tail.tail, hdI ds.tail.tail.tail.tail.tail, hdI ds.tail.tail.tail.tail.tail.tail, ()).2.2.2.1)]) k := by kernel_rfl
  have h2 := draymanlaw32_PaySums_l1_eq draymanlaw32_awake pay_New pay_Come pay_Fit draymanref31_Fit 1000 (hdI ds) (hdI ds.tail) (hdI ds.tail.tail) (hdQ (.int .i64 (.int .i64 (.int .i64 (.int .i64 (.int .i64 (.int .i64 (.nil))))))) ds.tail.tail.tail, hdI ds.tail.tail.tail.tail, hdI ds.tail.tail.tail.tail.tail, hdI ds.tail.tail.tail.tail.tail.tail, ()) k
  exact h1.trans h2

theorem draymanlaw32_PaySums_ev {α : Type} (draymanlaw32_awake : draymanlaw32_awake_T α) (pay_New : pay_New_T α) (pay_Come : pay_Come_T α) (pay_Fit : pay_Fit_T α) (draymanref31_Fit : draymanref31_Fit_T α) : EvOk (α := α) Go.Proofs.Try.prog (envOf (draymanlaw32_PaySums_C draymanlaw32_awake pay_New pay_Come pay_Fit draymanref31_Fit) draymanlaw32_PaySums_q draymanlaw32_PaySums_inl 1000 draymanlaw32_PaySums_ann false (draymanlaw32_PaySums_loops draymanlaw32_awake pay_New pay_Come pay_Fit draymanref31_Fit) (fun _ => none)) 6 (draymanlaw32_PaySums_sp (draymanlaw32_PaySums_g draymanlaw32_awake pay_New pay_Come pay_Fit draymanref31_Fit)) := by intro ds k; kernel_rfl

theorem draymanlaw32_PaySums_ok {α : Type} : (draymanlaw32_PaySums_spec : FunSpec α).ok Go.Proofs.Try.prog :=
  FunSpec.ok_of (sp := draymanlaw32_PaySums_spec) (C := draymanlaw32_PaySums_C draymanlaw32_awake pay_New pay_Come pay_Fit draymanref31_Fit) (q := draymanlaw32_PaySums_q) (inl := draymanlaw32_PaySums_inl) (N := 1000) (ann := draymanlaw32_PaySums_ann) (fr := false) (D := 6) (l := (draymanlaw32_PaySums_loops draymanlaw32_awake pay_New pay_Come pay_Fit draymanref31_Fit)) (hk := (fun _ => none)) (okCons draymanlaw32_awake_ok (okCons pay_New_ok (okCons pay_Come_ok (okCons pay_Fit_ok (okCons draymanref31_Fit_ok okNil))))) (lokCons (draymanlaw32_PaySums_l0_ok draymanlaw32_awake pay_New pay_Come pay_Fit draymanref31_Fit) (lokCons (draymanlaw32_PaySums_l1_ok draymanlaw32_awake pay_New pay_Come pay_Fit draymanref31_Fit) lokNil)) noHooks (draymanlaw32_PaySums_ev draymanlaw32_awake pay_New pay_Come pay_Fit draymanref31_Fit)

end
end Go.Rv.Try

set_option linter.unusedVariables false
set_option maxRecDepth 100000
set_option maxHeartbeats 4000000
namespace Go.Rv.Try
open Go Go.Rv Go.RowKit
noncomputable section

-- drayman/draymanref17.Service

abbrev draymanref17_Service_T (α : Type) : Type := Int → (Int → Option α) → Option α

noncomputable def draymanref17_Service {α : Type} (op1 : Int) (k : Int → Option α) : Option α :=
  (cond (op1 == 2)
    (cond (op1 == 2)
      (k 1)
      (cond (op1 == 4)
        (k 2)
        (k 0)))
    (cond (op1 == 6)
      (k 1)
      (cond (op1 == 4)
        (k 2)
        (k 0))))

noncomputable def draymanref17_Service_sp {α : Type} (draymanref17_Service : draymanref17_Service_T α) : FunSpec α := ⟨41, [.int .i64], [], fun ds k => draymanref17_Service (hdI ds) (fun r1 => k (enc dep (.int .i64) [.i r1]).1 [])⟩

noncomputable def draymanref17_Service_spec {α : Type} : FunSpec α := draymanref17_Service_sp draymanref17_Service

noncomputable def draymanref17_Service_C {α : Type} : List (FunSpec α) := []

noncomputable def draymanref17_Service_q : FuncId → Bool := fun f => false

noncomputable def draymanref17_Service_inl : FuncId → Bool := fun f => false

noncomputable def draymanref17_Service_ann : FuncId → AnnT := fun f p => ⟨[], [], [], [], 0, [], [], none⟩

noncomputable def draymanref17_Service_loops {α : Type} : List (LoopSpec α) := []

theorem draymanref17_Service_ev {α : Type} : EvOk (α := α) Go.Proofs.Try.prog (envOf (draymanref17_Service_C) draymanref17_Service_q draymanref17_Service_inl 1000 draymanref17_Service_ann false (draymanref17_Service_loops) (fun _ => none)) 6 (draymanref17_Service_sp (draymanref17_Service)) := by intro ds k; kernel_rfl

theorem draymanref17_Service_ok {α : Type} : (draymanref17_Service_spec : FunSpec α).ok Go.Proofs.Try.prog :=
  FunSpec.ok_of (sp := draymanref17_Service_spec) (C := draymanref17_Service_C) (q := draymanref17_Service_q) (inl := draymanref17_Service_inl) (N := 1000) (ann := draymanref17_Service_ann) (fr := false) (D := 6) (l := (draymanref17_Service_loops)) (hk := (fun _ => none)) okNil lokNil noHooks (draymanref17_Service_ev)

end
end Go.Rv.Try

set_option linter.unusedVariables false
set_option maxRecDepth 100000
set_option maxHeartbeats 4000000
namespace Go.Rv.Try
open Go Go.Rv Go.RowKit
noncomputable section

-- drayman/draymanref17.One

abbrev draymanref17_One_T (α : Type) : Type := Z0 → (Bool → Option α) → Option α

noncomputable def draymanref17_One_g {α : Type} (draymanref17_Service : draymanref17_Service_T α) (draymanref01_Fit : draymanref01_Fit_T α) (x1 : Int × Int × Int × Bool × Int × Int × Bool × Unit) (k : Bool → Option α) : Option α :=
  (cond (decide (x1.1 ≥ 1))
    (cond (decide (x1.1 ≤ 1099511627776))
      (cond (decide (x1.2.1 ≥ 1))
        (cond (decide (x1.2.1 ≤ 1099511627776))
          (cond (decide (x1.2.2.1 ≥ 0))
            (cond (decide (x1.2.2.1 < 6))
              (draymanref17_Service x1.2.2.2.2.1 fun r2 =>
                (cond (r2 != 0)
                  (draymanref01_Fit x1.2.2.2.2.2.1 fun r3 =>
                    (k r3))
                  (k false)))
              (k false))
            (k false))
          (k false))
        (k false))
      (k false))
    (k false))

noncomputable def draymanref17_One {α : Type} : draymanref17_One_T α := draymanref17_One_g draymanref17_Service draymanref01_Fit

noncomputable def draymanref17_One_sp {α : Type} (draymanref17_One : draymanref17_One_T α) : FunSpec α := ⟨66, [.agg [.int .i64, .int .i64, .int .i64, .bool, .int .i64, .int .i64, .bool]], [], fun ds k => draymanref17_One (hdI ds, hdI ds.tail, hdI ds.tail.tail, hdB ds.tail.tail.tail, hdI ds.tail.tail.tail.tail, hdI ds.tail.tail.tail.tail.tail, hdB ds.tail.tail.tail.tail.tail.tail, ()) (fun r1 => k (enc dep (.bool) [.b r1]).1 [])⟩

noncomputable def draymanref17_One_spec {α : Type} : FunSpec α := draymanref17_One_sp draymanref17_One

noncomputable def draymanref17_One_C {α : Type} (draymanref17_Service : draymanref17_Service_T α) (draymanref01_Fit : draymanref01_Fit_T α) : List (FunSpec α) := [draymanref17_Service_sp draymanref17_Service, draymanref01_Fit_sp draymanref01_Fit]

noncomputable def draymanref17_One_q : FuncId → Bool := fun f => Nat.beq f 41 || Nat.beq f 65

noncomputable def draymanref17_One_inl : FuncId → Bool := fun f => false

noncomputable def draymanref17_One_ann : FuncId → AnnT := fun f p => ⟨[], [], [], [], 0, [], [], none⟩

noncomputable def draymanref17_One_loops {α : Type} (draymanref17_Service : draymanref17_Service_T α) (draymanref01_Fit : draymanref01_Fit_T α) : List (LoopSpec α) := []

theorem draymanref17_One_ev {α : Type} (draymanref17_Service : draymanref17_Service_T α) (draymanref01_Fit : draymanref01_Fit_T α) : EvOk (α := α) Go.Proofs.Try.prog (envOf (draymanref17_One_C draymanref17_Service draymanref01_Fit) draymanref17_One_q draymanref17_One_inl 1000 draymanref17_One_ann false (draymanref17_One_loops draymanref17_Service draymanref01_Fit) (fun _ => none)) 6 (draymanref17_One_sp (draymanref17_One_g draymanref17_Service draymanref01_Fit)) := by intro ds k; kernel_rfl

theorem draymanref17_One_ok {α : Type} : (draymanref17_One_spec : FunSpec α).ok Go.Proofs.Try.prog :=
  FunSpec.ok_of (sp := draymanref17_One_spec) (C := draymanref17_One_C draymanref17_Service draymanref01_Fit) (q := draymanref17_One_q) (inl := draymanref17_One_inl) (N := 1000) (ann := draymanref17_One_ann) (fr := false) (D := 6) (l := (draymanref17_One_loops draymanref17_Service draymanref01_Fit)) (hk := (fun _ => none)) (okCons draymanref17_Service_ok (okCons draymanref01_Fit_ok okNil)) lokNil noHooks (draymanref17_One_ev draymanref17_Service draymanref01_Fit)

end
end Go.Rv.Try

set_option linter.unusedVariables false
set_option maxRecDepth 100000
set_option maxHeartbeats 4000000
namespace Go.Rv.Try
open Go Go.Rv Go.RowKit
noncomputable section

-- drayman/draymanref31.Find

abbrev draymanref31_Find_T (α : Type) : Type := (Seq Z1) → Int → Int → (Z1 → Bool → Option α) → Option α

noncomputable def draymanref31_Find_l0_step {α : Type} (kr : (Bool) → Z1 → Option α) (k0 : Z1 → Option α) (rec : (Seq Z1) → (Int) → (Int) → (Int) → Z1 → Option α) (l4 : Seq Z1) (saga5 : Int) (step6 : Int) (i7 : Int) (x8 : Int × Int × Int × Int × Int × Int × Unit) : Option α :=
  (cond (decide (i7 < (l4.n : Int)))
    (cond ((decide ((0 : Int) ≤ i7)) && (decide (i7 < (l4.n : Int))))
      (cond ((l4.g i7.toNat).1 == saga5)
        (cond ((decide ((0 : Int) ≤ i7)) && (decide (i7 < (l4.n : Int))))
          (cond ((l4.g i7.toNat).2.1 == step6)
            (cond ((decide ((0 : Int) ≤ i7)) && (decide (i7 < (l4.n : Int))))
              (kr true (l4.g i7.toNat))
              none)
            (rec l4 saga5 step6 (IntKind.i64.wrap (i7 + 1)) x8))
          none)
        (rec l4 saga5 step6 (IntKind.i64.wrap (i7 + 1)) x8))
      none)
    (k0 x8))

noncomputable def draymanref31_Find_l0_run {α : Type} (kr : (Bool) → Z1 → Option α) (k0 : Z1 → Option α) : Nat → (Seq Z1) → (Int) → (Int) → (Int) → Z1 → Option α
  | 0, _, _, _, _, _ => none
  | n + 1, l4, saga5, step6, i7, x8 => draymanref31_Find_l0_step kr k0 (fun l4 saga5 step6 i7 x8 => draymanref31_Find_l0_run kr k0 n l4 saga5 step6 i7 x8) l4 saga5 step6 i7 x8

noncomputable def draymanref31_Find {α : Type} (l1 : Seq Z1) (saga2 : Int) (step3 : Int) (k : Z1 → Bool → Option α) : Option α :=
  (draymanref31_Find_l0_run
    (fun x9 x10 =>
      (k x10 x9))
    (fun x11 =>
      (k (0, 0, 0, 0, 0, 0, ()) false))
    1000 l1 saga2 step3 0 (0, 0, 0, 0, 0, 0, ()))

noncomputable def draymanref31_Find_sp {α : Type} (draymanref31_Find : draymanref31_Find_T α) : FunSpec α := ⟨43, [.sl (.int .i64 (.int .i64 (.int .i64 (.int .i64 (.int .i64 (.int .i64 (.nil))))))), .int .i64, .int .i64], [], fun ds k => draymanref31_Find (hdQ (.int .i64 (.int .i64 (.int .i64 (.int .i64 (.int .i64 (.int .i64 (.nil))))))) ds) (hdI ds.tail) (hdI ds.tail.tail) (fun r1 r2 => k (enc dep (.tup [.agg [.int .i64, .int .i64, .int .i64, .int .i64, .int .i64, .int .i64], .bool]) [.i r1.1, .i r1.2.1, .i r1.2.2.1, .i r1.2.2.2.1, .i r1.2.2.2.2.1, .i r1.2.2.2.2.2.1, .b r2]).1 [])⟩

noncomputable def draymanref31_Find_spec {α : Type} : FunSpec α := draymanref31_Find_sp draymanref31_Find

noncomputable def draymanref31_Find_C {α : Type} : List (FunSpec α) := []

noncomputable def draymanref31_Find_q : FuncId → Bool := fun f => false

noncomputable def draymanref31_Find_inl : FuncId → Bool := fun f => false

noncomputable def draymanref31_Find_ann : FuncId → AnnT := fun f p => if f = 43 then (if p = [true, false, true] then ⟨[0, 1, 2, 6, 8], [], [6], [6, 7], 0, [], [], none⟩ else ⟨[], [], [], [], 0, [], [], none⟩) else ⟨[], [], [], [], 0, [], [], none⟩

noncomputable def draymanref31_Find_l0_t : List Sh := [.sl (.int .i64 (.int .i64 (.int .i64 (.int .i64 (.int .i64 (.int .i64 (.nil))))))), .int .i64, .int .i64, .dead, .dead, .dead, .ref 0 0, .dead, .int .i64, .dead, .dead, .dead, .dead, .dead, .dead, .dead, .dead, .dead, .dead, .dead, .dead, .dead, .dead, .dead, .dead, .dead, .dead, .dead, .dead, .dead, .dead, .dead, .dead, .dead, .dead, .dead]
noncomputable def draymanref31_Find_l0_s : List (List Sh) := []
noncomputable def draymanref31_Find_l0_h : List BSh := [.box [.int .i64, .int .i64, .int .i64, .int .i64, .int .i64, .int .i64]]

noncomputable def draymanref31_Find_l0_spec {α : Type} : LoopSpec α := ⟨6, 43, [true, false, true], draymanref31_Find_l0_t, draymanref31_Find_l0_s, draymanref31_Find_l0_h, fun ds k => draymanref31_Find_l0_run (fun y1 y2 => k .ret (encSt [.dead, .dead, .dead, .dead, .dead, .dead, .ref 0 0, .bool, .dead, .dead, .dead, .dead, .dead, .dead, .dead, .dead, .dead, .dead, .dead, .dead, .dead, .dead, .dead, .dead, .dead, .dead, .dead, .dead, .dead, .dead, .dead, .dead, .dead, .dead, .dead, .dead] [] [.box [.int .i64, .int .i64, .int .i64, .int .i64, .int .i64, .int .i64]] [.b y1, .i y2.1, .i y2.2.1, .i y2.2.2.1, .i y2.2.2.2.1, .i y2.2.2.2.2.1, .i y2.2.2.2.2.2.1])) (fun y1 => k (.exit 0) (encSt [.dead, .dead, .dead, .dead, .dead, .dead, .ref 0 0, .dead, .dead, .dead, .dead, .dead, .dead, .dead, .dead, .dead, .dead, .dead, .dead, .dead, .dead, .dead, .dead, .dead, .dead, .dead, .dead, .dead, .dead, .dead, .dead, .dead, .dead, .dead, .dead, .dead] [] [.box [.int .i64, .int .i64, .int .i64, .int .i64, .int .i64, .int .i64]] [.i y1.1, .i y1.2.1, .i y1.2.2.1, .i y1.2.2.2.1, .i y1.2.2.2.2.1, .i y1.2.2.2.2.2.1])) 1000 (hdQ (.int .i64 (.int .i64 (.int .i64 (.int .i64 (.int .i64 (.int .i64 (.nil))))))) ds) (hdI ds.tail) (hdI ds.tail.tail) (hdI ds.tail.tail.tail) (hdI ds.tail.tail.tail.tail, hdI ds.tail.tail.tail.tail.tail, hdI ds.tail.tail.tail.tail.tail.tail, hdI ds.tail.tail.tail.tail.tail.tail.tail, hdI ds.tail.tail.tail.tail.tail.tail.tail.tail, hdI ds.tail.tail.tail.tail.tail.tail.tail.tail.tail, ())⟩

noncomputable def draymanref31_Find_loops {α : Type} : List (LoopSpec α) := [draymanref31_Find_l0_spec]

noncomputable def draymanref31_Find_l0_ev {α : Type} (n : Nat) (st : St) (k : X → St → Option α) : Option α := loopN (evCode Go.Proofs.Try.prog (callD Go.Proofs.Try.prog (envOf (draymanref31_Find_C) draymanref31_Find_q draymanref31_Find_inl 1000 draymanref31_Find_ann false (draymanref31_Find_loops) (fun _ => none)) 6) (((envOf (draymanref31_Find_C) draymanref31_Find_q draymanref31_Find_inl 1000 draymanref31_Find_ann false (draymanref31_Find_loops) (fun _ => none)) : Env α).L 6 43) 1000 (draymanref31_Find_ann 43) (false :: [true, false, true]) (loopC Go.Proofs.Try.prog 43 [true, false, true])) ((draymanref31_Find_ann 43 [true, false, true]).head 1) ((draymanref31_Find_ann 43 [true, false, true]).leave 1) n st k

theorem draymanref31_Find_l0_eq {α : Type} : ∀ (n : Nat) (l4 : Seq Z1) (saga5 : Int) (step6 : Int) (i7 : Int) (x8 : Int × Int × Int × Int × Int × Int × Unit) (k : X → St → Option α), draymanref31_Find_l0_ev n (encSt draymanref31_Find_l0_t draymanref31_Find_l0_s draymanref31_Find_l0_h [.q (.int .i64 (.int .i64 (.int .i64 (.int .i64 (.int .i64 (.int .i64 (.nil))))))) l4, .i saga5, .i step6, .i i7, .i x8.1, .i x8.2.1, .i x8.2.2.1, .i x8.2.2.2.1, .i x8.2.2.2.2.1, .i x8.2.2.2.2.2.1]) k = draymanref31_Find_l0_run (fun y1 y2 => k .ret (encSt [.dead, .dead, .dead, .dead, .dead, .dead, .ref 0 0, .bool, .dead, .dead, .dead, .dead, .dead, .dead, .dead, .dead, .dead, .dead, .dead, .dead, .dead, .dead, .dead, .dead, .dead, .dead, .dead, .dead, .dead, .dead, .dead, .dead, .dead, .dead, .dead, .dead] [] [.box [.int .i64, .int .i64, .int .i64, .int .i64, .int .i64, .int .i64]] [.b y1, .i y2.1, .i y2.2.1, .i y2.2.2.1, .i y2.2.2.2.1, .i y2.2.2.2.2.1, .i y2.2.2.2.2.2.1])) (fun y1 => k (.exit 0) (encSt [.dead, .dead, .dead, .dead, .dead, .dead, .ref 0 0, .dead, .dead, .dead, .dead, .dead, .dead, .dead, .dead, .dead, .dead, .dead, .dead, .dead, .dead, .dead, .dead, .dead, .dead, .dead, .dead, .dead, .dead, .dead, .dead, .dead, .dead, .dead, .dead, .dead] [] [.box [.int .i64, .int .i64, .int .i64, .int .i64, .int .i64, .int .i64]] [.i y1.1, .i y1.2.1, .i y1.2.2.1, .i y1.2.2.2.1, .i y1.2.2.2.2.1, .i y1.2.2.2.2.2.1])) n l4 saga5 step6 i7 x8 := by
  intro n
  induction n with
  | zero => intros; kernel_rfl
  | succ n ih =>
    intro l4 saga5 step6 i7 x8 k
    have e : (fun (l4 : Seq Z1) (saga5 : Int) (step6 : Int) (i7 : Int) (x8 : Int × Int × Int × Int × Int × Int × Unit) => draymanref31_Find_l0_ev n (encSt draymanref31_Find_l0_t draymanref31_Find_l0_s draymanref31_Find_l0_h [.q (.int .i64 (.int .i64 (.int .i64 (.int .i64 (.int .i64 (.int .i64 (.nil))))))) l4, .i saga5, .i step6, .i i7, .i x8.1, .i x8.2.1, .i x8.2.2.1, .i x8.2.2.2.1, .i x8.2.2.2.2.1, .i x8.2.2.2.2.2.1]) k) = (fun (l4 : Seq Z1) (saga5 : Int) (step6 : Int) (i7 : Int) (x8 : Int × Int × Int × Int × Int × Int × Unit) => draymanref31_Find_l0_run (fun y1 y2 => k .ret (encSt [.dead, .dead, .dead, .dead, .dead, .dead, .ref 0 0, .bool, .dead, .dead, .dead, .dead, .dead, .dead, .dead, .dead, .dead, .dead, .dead, .dead, .dead, .dead, .dead, .dead, .dead, .dead, .dead, .dead, .dead, .dead, .dead, .dead, .dead, .dead, .dead, .dead] [] [.box [.int .i64, .int .i64, .int .i64, .int .i64, .int .i64, .int .i64]] [.b y1, .i y2.1, .i y2.2.1, .i y2.2.2.1, .i y2.2.2.2.1, .i y2.2.2.2.2.1, .i y2.2.2.2.2.2.1])) (fun y1 => k (.exit 0) (encSt [.dead, .dead, .dead, .dead, .dead, .dead, .ref 0 0, .dead, .dead, .dead, .dead, .dead, .dead, .dead, .dead, .dead, .dead, .dead, .dead, .dead, .dead, .dead, .dead, .dead, .dead, .dead, .dead, .dead, .dead, .dead, .dead, .dead, .dead, .dead, .dead, .dead] [] [.box [.int .i64, .int .i64, .int .i64, .int .i64, .int .i64, .int .i64]] [.i y1.1, .i y1.2.1, .i y1.2.2.1, .i y1.2.2.2.1, .i y1.2.2.2.2.1, .i y1.2.2.2.2.2.1])) n l4 saga5 step6 i7 x8) := by
      funext l4 saga5 step6 i7 x8
      exact ih l4 saga5 step6 i7 x8 k
    have h1 : draymanref31_Find_l0_ev (n + 1) (encSt draymanref31_Find_l0_t draymanref31_Find_l0_s draymanref31_Find_l0_h [.q (.int .i64 (.int .i64 (.int .i64 (.int .i64 (.int .i64 (.int .i64 (.nil))))))) l4, .i saga5, .i step6, .i i7, .i x8.1, .i x8.2.1, .i x8.2.2.1, .i x8.2.2.2.1, .i x8.2.2.2.2.1, .i x8.2.2.2.2.2.1]) k = draymanref31_Find_l0_step (fun y1 y2 => k .ret (encSt [.dead, .dead, .dead, .dead, .dead, .dead, .ref 0 0, .bool, .dead, .dead, .dead, .dead, .dead, .dead, .dead, .dead, .dead, .dead, .dead, .dead, .dead, .dead, .dead, .dead, .dead, .dead, .dead, .dead, .dead, .dead, .dead, .dead, .dead, .dead, .dead, .dead] [] [.box [.int .i64, .int .i64, .int .i64, .int .i64, .int .i64, .int .i64]] [.b y1, .i y2.1, .i y2.2.1, .i y2.2.2.1, .i y2.2.2.2.1, .i y2.2.2.2.2.1, .i y2.2.2.2.2.2.1])) (fun y1 => k (.exit 0) (encSt [.dead, .dead, .dead, .dead, .dead, .dead, .ref 0 0, .dead, .dead, .dead, .dead, .dead, .dead, .dead, .dead, .dead, .dead, .dead, .dead, .dead, .dead, .dead, .dead, .dead, .dead, .dead, .dead, .dead, .dead, .dead, .dead, .dead, .dead, .dead, .dead, .dead] [] [.box [.int .i64, .int .i64, .int .i64, .int .i64, .int .i64, .int .i64]] [.i y1.1, .i y1.2.1, .i y1.2.2.1, .i y1.2.2.2.1, .i y1.2.2.2.2.1, .i y1.2.2.2.2.2.1])) (fun (l4 : Seq Z1) (saga5 : Int) (step6 : Int) (i7 : Int) (x8 : Int × Int × Int × Int × Int × Int × Unit) => draymanref31_Find_l0_ev n (encSt draymanref31_Find_l0_t draymanref31_Find_l0_s draymanref31_Find_l0_h [.q (.int .i64 (.int .i64 (.int .i64 (.int .i64 (.int .i64 (.int .i64 (.nil))))))) l4, .i saga5, .i step6, .i i7, .i x8.1, .i x8.2.1, .i x8.2.2.1, .i x8.2.2.2.1, .i x8.2.2.2.2.1, .i x8.2.2.2.2.2.1]) k) l4 saga5 step6 i7 x8 := by kernel_rfl
    have h2 := congrArg (fun r => draymanref31_Find_l0_step (fun y1 y2 => k .ret (encSt [.dead, .dead, .dead, .dead, .dead, .dead, .ref 0 0, .bool, .dead, .dead, .dead, .dead, .dead, .dead, .dead, .dead, .dead, .dead, .dead, .dead, .dead, .dead, .dead, .dead, .dead, .dead, .dead, .dead, .dead, .dead, .dead, .dead, .dead, .dead, .dead, .dead] [] [.box [.int .i64, .int .i64, .int .i64, .int .i64, .int .i64, .int .i64]] [.b y1, .i y2.1, .i y2.2.1, .i y2.2.2.1, .i y2.2.2.2.1, .i y2.2.2.2.2.1, .i y2.2.2.2.2.2.1])) (fun y1 => k (.exit 0) (encSt [.dead, .dead, .dead, .dead, .dead, .dead, .ref 0 0, .dead, .dead, .dead, .dead, .dead, .dead, .dead, .dead, .dead, .dead, .dead, .dead, .dead, .dead, .dead, .dead, .dead, .dead, .dead, .dead, .dead, .dead, .dead, .dead, .dead, .dead, .dead, .dead, .dead] [] [.box [.int .i64, .int .i64, .int .i64, .int .i64, .int .i64, .int .i64]] [.i y1.1, .i y1.2.1, .i y1.2.2.1, .i y1.2.2.2.1, .i y1.2.2.2.2.1, .i y1.2.2.2.2.2.1])) r l4 saga5 step6 i7 x8) e
    have h3 : draymanref31_Find_l0_step (fun y1 y2 => k .ret (encSt [.dead, .dead, .dead, .dead, .dead, .dead, .ref 0 0, .bool, .dead, .dead, .dead, .dead, .dead, .dead, .dead, .dead, .dead, .dead, .dead, .dead, .dead, .dead, .dead, .dead, .dead, .dead, .dead, .dead, .dead, .dead, .dead, .dead, .dead, .dead, .dead, .dead] [] [.box [.int .i64, .int .i64, .int .i64, .int .i64, .int .i64, .int .i64]] [.b y1, .i y2.1, .i y2.2.1, .i y2.2.2.1, .i y2.2.2.2.1, .i y2.2.2.2.2.1, .i y2.2.2.2.2.2.1])) (fun y1 => k (.exit 0) (encSt [.dead, .dead, .dead, .dead, .dead, .dead, .ref 0 0, .dead, .dead, .dead, .dead, .dead, .dead, .dead, .dead, .dead, .dead, .dead, .dead, .dead, .dead, .dead, .dead, .dead, .dead, .dead, .dead, .dead, .dead, .dead, .dead, .dead, .dead, .dead, .dead, .dead] [] [.box [.int .i64, .int .i64, .int .i64, .int .i64, .int .i64, .int .i64]] [.i y1.1, .i y1.2.1, .i y1.2.2.1, .i y1.2.2.2.1, .i y1.2.2.2.2.1, .i y1.2.2.2.2.2.1])) (fun (l4 : Seq Z1) (saga5 : Int) (step6 : Int) (i7 : Int) (x8 : Int × Int × Int × Int × Int × Int × Unit) => draymanref31_Find_l0_run (fun y1 y2 => k .ret (encSt [.dead, .dead, .dead, .dead, .dead, .dead, .ref 0 0, .bool, .dead, .dead, .dead, .dead, .dead, .dead, .dead, .dead, .dead, .dead, .dead, .dead, .dead, .dead, .dead, .dead, .dead, .dead, .dead, .dead, .dead, .dead, .dead, .dead, .dead, .dead, .dead, .dead] [] [.box [.int .i64, .int .i64, .int .i64, .int .i64, .int .i64, .int .i64]] [.b y1, .i y2.1, .i y2.2.1, .i y2.2.2.1, .i y2.2.2.2.1, .i y2.2.2.2.2.1, .i y2.2.2.2.2.2.1])) (fun y1 => k (.exit 0) (encSt [.dead, .dead, .dead, .dead, .dead, .dead, .ref 0 0, .dead, .dead, .dead, .dead, .dead, .dead, .dead, .dead, .dead, .dead, .dead, .dead, .dead, .dead, .dead, .dead, .dead, .dead, .dead, .dead, .dead, .dead, .dead, .dead, .dead, .dead, .dead, .dead, .dead] [] [.box [.int .i64, .int .i64, .int .i64, .int .i64, .int .i64, .int .i64]] [.i y1.1, .i y1.2.1, .i y1.2.2.1, .i y1.2.2.2.1, .i y1.2.2.2.2.1, .i y1.2.2.2.2.2.1])) n l4 saga5 step6 i7 x8) l4 saga5 step6 i7 x8 = draymanref31_Find_l0_run (fun y1 y2 => k .ret (encSt [.dead, .dead, .dead, .dead, .dead, .dead, .ref 0 0, .bool, .dead, .dead, .dead, .dead, .dead, .dead, .dead, .dead, .dead, .dead, .dead, .dead, .dead, .dead, .dead, .dead, .dead, .dead, .dead, .dead, .dead, .dead, .dead, .dead, .dead, .dead, .dead, .dead] [] [.box [.int .i64, .int .i64, .int .i64, .int .i64, .int .i64, .int .i64]] [.b y1, .i y2.1, .i y2.2.1, .i y2.2.2.1, .i y2.2.2.2.1, .i y2.2.2.2.2.1, .i y2.2.2.2.2.2.1])) (fun y1 => k (.exit 0) (encSt [.dead, .dead, .dead, .dead, .dead, .dead, .ref 0 0, .dead, .dead, .dead, .dead, .dead, .dead, .dead, .dead, .dead, .dead, .dead, .dead, .dead, .dead, .dead, .dead, .dead, .dead, .dead, .dead, .dead, .dead, .dead, .dead, .dead, .dead, .dead, .dead, .dead] [] [.box [.int .i64, .int .i64, .int .i64, .int .i64, .int .i64, .int .i64]] [.i y1.1, .i y1.2.1, .i y1.2.2.1, .i y1.2.2.2.1, .i y1.2.2.2.2.1, .i y1.2.2.2.2.2.1])) (n + 1) l4 saga5 step6 i7 x8 := by kernel_rfl
    exact h1.trans (h2.trans h3)

theorem draymanref31_Find_l0_ok {α : Type} : (draymanref31_Find_l0_spec : LoopSpec α).ok Go.Proofs.Try.prog (envOf (draymanref31_Find_C) draymanref31_Find_q draymanref31_Find_inl 1000 draymanref31_Find_ann false (draymanref31_Find_loops) (fun _ => none)) := by
  intro ds k
  have h1 : draymanref31_Find_l0_ev 1000 (encSt draymanref31_Find_l0_t draymanref31_Find_l0_s draymanref31_Find_l0_h ds) k = draymanref31_Find_l0_ev 1000 (encSt draymanref31_Find_l0_t draymanref31_Find_l0_s draymanref31_Find_l0_h [.q (.int .i64 (.int .i64 (.int .i64 (.int .i64 (.int .i64 (.int .i64 (.nil))))))) (hdQ (.int .i64 (.int .i64 (.int .i64 (.int .i64 (.int .i64 (.int .i64 (.nil))))))) ds), .i (hdI ds.tail), .i (hdI ds.tail.tail), .i (hdI ds.tail.tail.tail), .i ((hdI ds.tail.tail.tail.tail, hdI ds.tail.tail.tail.tail.tail, hdI ds.tail.tail.tail.tail.tail.tail, hdI ds.tail.tail.tail.tail.tail.tail.tail, hdI ds.tail.tail.tail.tail.tail.tail.tail.tail, hdI ds.tail.tail.tail.tail.tail.tail.tail.tail.tail, ()).1), .i ((hdI ds.tail.tail.tail.tail, hdI ds.tail.tail.tail.tail.tail, hdI ds.tail.tail.tail.tail.tail.tail, hdI ds.tail.tail.tail.tail.tail.tail.tail, hdI ds.tail.tail.tail.tail.tail.tail.tail.tail, hdI ds.tail.tail.tail.tail.tail.tail.tail.tail.tail, ()).2.1), .i ((hdI ds.tail.tail.tail.tail, hdI ds.tail.tail.tail.tail.tail, hdI ds.tail.tail.tail.tail.tail.tail, hdI ds.tail.tail.tail.tail.tail.tail.tail, hdI ds.tail.tail.tail.tail.tail.tail.tail.tail, hdI ds.tail.tail.tail.tail.tail.tail.tail.tail.tail, ()).2.2.1), .i ((hdI ds.tail.tail.tail.tail, hdI ds.tail.tail.tail.tail.tail, hdI ds.tail.tail.tail.tail.tail.tail, hdI ds.tail.tail.tail.tail.tail.tail.tail, hdI ds.tail.tail.tail.tail.tail.tail.tail.tail, hdI ds.tail.tail.tail.tail.tail.tail.tail.tail.tail, ()).2.2.2.1), .i ((hdI ds.tail.tail.tail.tail, hdI ds.tail.tail.tail.tail.tail, hdI ds.tail.tail.tail.tail.tail.tail, hdI ds.tail.tail.tail.tail.tail.tail.tail, hdI ds.tail.tail.tail.tail.tail.tail.tail.tail, hdI ds.tail.tail.tail.tail.tail.tail.tail.tail.tail, ()).2.2.2.2.1), .i ((hdI ds.tail.tail.tail.tail, hdI ds.tail.tail.tail.tail.tail, hdI ds.tail.tail.tail.tail.tail.tail, hdI ds.tail.tail.tail.tail.tail.tail.tail, hdI ds.tail.tail.tail.tail.tail.tail.tail.tail, hdI ds.tail.tail.tail.tail.tail.tail.tail.tail.tail, ()).2.2.2.2.2.1)]) k := by kernel_rfl
  have h2 := draymanref31_Find_l0_eq 1000 (hdQ (.int .i64 (.int .i64 (.int .i64 (.int .i64 (.int .i64 (.int .i64 (.nil))))))) ds) (hdI ds.tail) (hdI ds.tail.tail) (hdI ds.tail.tail.tail) (hdI ds.tail.tail.tail.tail, hdI ds.tail.tail.tail.tail.tail, hdI ds.tail.tail.tail.tail.tail.tail, hdI ds.tail.tail.tail.tail.tail.tail.tail, hdI ds.tail.tail.tail.tail.tail.tail.tail.tail, hdI ds.tail.tail.tail.tail.tail.tail.tail.tail.tail, ()) k
  exact h1.trans h2

theorem draymanref31_Find_ev {α : Type} : EvOk (α := α) Go.Proofs.Try.prog (envOf (draymanref31_Find_C) draymanref31_Find_q draymanref31_Find_inl 1000 draymanref31_Find_ann false (draymanref31_Find_loops) (fun _ => none)) 6 (draymanref31_Find_sp (draymanref31_Find)) := by intro ds k; kernel_rfl

theorem draymanref31_Find_ok {α : Type} : (draymanref31_Find_spec : FunSpec α).ok Go.Proofs.Try.prog :=
  FunSpec.ok_of (sp := draymanref31_Find_spec) (C := draymanref31_Find_C) (q := draymanref31_Find_q) (inl := draymanref31_Find_inl) (N := 1000) (ann := draymanref31_Find_ann) (fr := false) (D := 6) (l := (draymanref31_Find_loops)) (hk := (fun _ => none)) okNil (lokCons (draymanref31_Find_l0_ok) lokNil) noHooks (draymanref31_Find_ev)

end
end Go.Rv.Try

set_option linter.unusedVariables false
set_option maxRecDepth 100000
set_option maxHeartbeats 4000000
namespace Go.Rv.Try
open Go Go.Rv Go.RowKit
noncomputable section

-- drayman/draymanref31.with

abbrev draymanref31_with_T (α : Type) : Type := (Seq Z1) → Z1 → ((Seq Z1) → Option α) → Option α

noncomputable def draymanref31_with_l0_step {α : Type} (draymanref31_ahead : draymanref31_ahead_T α) (k0 : (Bool) → Z1 → (Seq Z1) → (Seq Z1) → Option α) (rec : (Seq Z1) → (Bool) → (Int) → Z1 → (Seq Z1) → (Seq Z1) → Option α) (l3 : Seq Z1) (done4 : Bool) (i5 : Int) (x6 : Int × Int × Int × Int × Int × Int × Unit) (q7 : Seq Z1) (q8 : Seq Z1) : Option α :=
  (cond (decide (i5 < (l3.n : Int)))
    (cond (!done4)
      (cond ((decide ((0 : Int) ≤ i5)) && (decide (i5 < (l3.n : Int))))
        (draymanref31_ahead (l3.g i5.toNat) x6 fun r9 =>
          (cond (!r9)
            (cond (decide (((q8.n + 1)) * 48 ≤ 140737488355328))
              (cond ((decide ((0 : Int) ≤ i5)) && (decide (i5 < (l3.n : Int))))
                (draymanref31_ahead (l3.g i5.toNat) x6 fun r10 =>
                  (cond (!r10)
                    (cond ((decide ((0 : Int) ≤ i5)) && (decide (i5 < (l3.n : Int))))
                      (draymanref31_ahead x6 (l3.g i5.toNat) fun r11 =>
                        (cond r11
                          (cond ((decide ((0 : Int) ≤ i5)) && (decide (i5 < (l3.n : Int))))
                            (cond (decide ((((q8.n + 1) + 1)) * 48 ≤ 140737488355328))
                              (rec l3 true (IntKind.i64.wrap (i5 + 1)) x6 q7 (⟨((q8.nl && false) && false), ((q8.n + 1) + 1), (tApp (q8.n + 1) (tApp q8.n q8.g (fun _ => x6)) (fun _ => (l3.g i5.toNat)))⟩ : Seq Z1))
                              none)
                            none)
                          (rec l3 true (IntKind.i64.wrap (i5 + 1)) x6 q7 (⟨(q8.nl && false), (q8.n + 1), (tApp q8.n q8.g (fun _ => x6))⟩ : Seq Z1))))
                      none)
                    (cond ((decide ((0 : Int) ≤ i5)) && (decide (i5 < (l3.n : Int))))
                      (cond (decide ((((q8.n + 1) + 1)) * 48 ≤ 140737488355328))
                        (rec l3 true (IntKind.i64.wrap (i5 + 1)) x6 q7 (⟨((q8.nl && false) && false), ((q8.n + 1) + 1), (tApp (q8.n + 1) (tApp q8.n q8.g (fun _ => x6)) (fun _ => (l3.g i5.toNat)))⟩ : Seq Z1))
                        none)
                      none)))
                none)
              none)
            (cond ((decide ((0 : Int) ≤ i5)) && (decide (i5 < (l3.n : Int))))
              (draymanref31_ahead (l3.g i5.toNat) x6 fun r12 =>
                (cond (!r12)
                  (cond ((decide ((0 : Int) ≤ i5)) && (decide (i5 < (l3.n : Int))))
                    (draymanref31_ahead x6 (l3.g i5.toNat) fun r13 =>
                      (cond r13
                        (cond ((decide ((0 : Int) ≤ i5)) && (decide (i5 < (l3.n : Int))))
                          (cond (decide (((q8.n + 1)) * 48 ≤ 140737488355328))
                            (rec l3 done4 (IntKind.i64.wrap (i5 + 1)) x6 q7 (⟨(q8.nl && false), (q8.n + 1), (tApp q8.n q8.g (fun _ => (l3.g i5.toNat)))⟩ : Seq Z1))
                            none)
                          none)
                        (rec l3 done4 (IntKind.i64.wrap (i5 + 1)) x6 q7 q8)))
                    none)
                  (cond ((decide ((0 : Int) ≤ i5)) && (decide (i5 < (l3.n : Int))))
                    (cond (decide (((q8.n + 1)) * 48 ≤ 140737488355328))
                      (rec l3 done4 (IntKind.i64.wrap (i5 + 1)) x6 q7 (⟨(q8.nl && false), (q8.n + 1), (tApp q8.n q8.g (fun _ => (l3.g i5.toNat)))⟩ : Seq Z1))
                      none)
                    none)))
              none)))
        none)
      (cond ((decide ((0 : Int) ≤ i5)) && (decide (i5 < (l3.n : Int))))
        (draymanref31_ahead (l3.g i5.toNat) x6 fun r14 =>
          (cond (!r14)
            (cond ((decide ((0 : Int) ≤ i5)) && (decide (i5 < (l3.n : Int))))
              (draymanref31_ahead x6 (l3.g i5.toNat) fun r15 =>
                (cond r15
                  (cond ((decide ((0 : Int) ≤ i5)) && (decide (i5 < (l3.n : Int))))
                    (cond (decide (((q8.n + 1)) * 48 ≤ 140737488355328))
                      (rec l3 done4 (IntKind.i64.wrap (i5 + 1)) x6 q7 (⟨(q8.nl && false), (q8.n + 1), (tApp q8.n q8.g (fun _ => (l3.g i5.toNat)))⟩ : Seq Z1))
                      none)
                    none)
                  (rec l3 done4 (IntKind.i64.wrap (i5 + 1)) x6 q7 q8)))
              none)
            (cond ((decide ((0 : Int) ≤ i5)) && (decide (i5 < (l3.n : Int))))
              (cond (decide (((q8.n + 1)) * 48 ≤ 140737488355328))
                (rec l3 done4 (IntKind.i64.wrap (i5 + 1)) x6 q7 (⟨(q8.nl && false), (q8.n + 1), (tApp q8.n q8.g (fun _ => (l3.g i5.toNat)))⟩ : Seq Z1))
                none)
              none)))
        none))
    (k0 done4 x6 q7 q8))

noncomputable def draymanref31_with_l0_run {α : Type} (draymanref31_ahead : draymanref31_ahead_T α) (k0 : (Bool) → Z1 → (Seq Z1) → (Seq Z1) → Option α) : Nat → (Seq Z1) → (Bool) → (Int) → Z1 → (Seq Z1) → (Seq Z1) → Option α
  | 0, _, _, _, _, _, _ => none
  | n + 1, l3, done4, i5, x6, q7, q8 => draymanref31_with_l0_step draymanref31_ahead k0 (fun l3 done4 i5 x6 q7 q8 => draymanref31_with_l0_run draymanref31_ahead k0 n l3 done4 i5 x6 q7 q8) l3 done4 i5 x6 q7 q8

noncomputable def draymanref31_with_g {α : Type} (draymanref31_ahead : draymanref31_ahead_T α) (l1 : Seq Z1) (x2 : Int × Int × Int × Int × Int × Int × Unit) (k : (Seq Z1) → Option α) : Option α :=
  (draymanref31_with_l0_run draymanref31_ahead
    (fun x16 x17 q18 q19 =>
      (cond (!x16)
        (cond (decide (((q19.n + 1)) * 48 ≤ 140737488355328))
          (k (⟨(q19.nl && false), (q19.n + 1), (tApp q19.n q19.g (fun _ => x17))⟩ : Seq Z1))
          none)
        (k q19)))
    1000 l1 false 0 x2 (⟨true, 0, (fun _ => (0, 0, 0, 0, 0, 0, ()))⟩ : Seq Z1) (⟨true, 0, (fun _ => (0, 0, 0, 0, 0, 0, ()))⟩ : Seq Z1))

noncomputable def draymanref31_with {α : Type} : draymanref31_with_T α := draymanref31_with_g draymanref31_ahead

noncomputable def draymanref31_with_sp {α : Type} (draymanref31_with : draymanref31_with_T α) : FunSpec α := ⟨76, [.sl (.int .i64 (.int .i64 (.int .i64 (.int .i64 (.int .i64 (.int .i64 (.nil))))))), .agg [.int .i64, .int .i64, .int .i64, .int .i64, .int .i64, .int .i64]], [], fun ds k => draymanref31_with (hdQ (.int .i64 (.int .i64 (.int .i64 (.int .i64 (.int .i64 (.int .i64 (.nil))))))) ds) (hdI ds.tail, hdI ds.tail.tail, hdI ds.tail.tail.tail, hdI ds.tail.tail.tail.tail, hdI ds.tail.tail.tail.tail.tail, hdI ds.tail.tail.tail.tail.tail.tail, ()) (fun q1 => k (enc dep (.own 0) []).1 (encBs [.row true (.int .i64 (.int .i64 (.int .i64 (.int .i64 (.int .i64 (.int .i64 (.nil)))))))] [.q (.int .i64 (.int .i64 (.int .i64 (.int .i64 (.int .i64 (.int .i64 (.nil))))))) q1]).1)⟩

noncomputable def draymanref31_with_spec {α : Type} : FunSpec α := draymanref31_with_sp draymanref31_with

noncomputable def draymanref31_with_C {α : Type} (draymanref31_ahead : draymanref31_ahead_T α) : List (FunSpec α) := [draymanref31_ahead_sp draymanref31_ahead]

noncomputable def draymanref31_with_q : FuncId → Bool := fun f => Nat.beq f 40

noncomputable def draymanref31_with_inl : FuncId → Bool := fun f => false

noncomputable def draymanref31_with_ann : FuncId → AnnT := fun f p => if f = 76 then (if p = [true, false, true, true, true] then ⟨[0, 3, 5, 6, 7], [1, 2], [3, 5, 6], [4], 0, [], [], none⟩ else if p = [false, true, false, true, false, true, false, true, true, true] then ⟨[], [], [], [], 2, [], [], none⟩ else if p = [false, false, false, true, false, true, false, true, true, true] then ⟨[], [], [], [], 2, [], [], none⟩ else ⟨[], [], [], [], 0, [], [], none⟩) else ⟨[], [], [], [], 0, [], [], none⟩

noncomputable def draymanref31_with_l0_t : List Sh := [.sl (.int .i64 (.int .i64 (.int .i64 (.int .i64 (.int .i64 (.int .i64 (.nil))))))), .dead, .dead, .ref 0 0, .dead, .own 2, .bool, .int .i64, .dead, .dead, .dead, .dead, .dead, .dead, .dead, .dead, .dead, .dead, .dead, .dead, .dead, .dead, .dead, .dead, .dead, .dead, .dead, .dead, .dead, .dead, .dead, .dead, .dead, .dead, .dead, .dead, .dead, .dead, .dead, .dead, .dead, .dead, .dead, .dead, .dead, .dead, .dead, .dead, .dead, .dead, .dead, .dead, .dead, .dead, .dead, .dead, .dead]
noncomputable def draymanref31_with_l0_s : List (List Sh) := []
noncomputable def draymanref31_with_l0_h : List BSh := [.box [.int .i64, .int .i64, .int .i64, .int .i64, .int .i64, .int .i64], .row true (.int .i64 (.int .i64 (.int .i64 (.int .i64 (.int .i64 (.int .i64 (.nil))))))), .row true (.int .i64 (.int .i64 (.int .i64 (.int .i64 (.int .i64 (.int .i64 (.nil)))))))]

noncomputable def draymanref31_with_l0_spec {α : Type} (draymanref31_ahead : draymanref31_ahead_T α) : LoopSpec α := ⟨6, 76, [true, false, true, true, true], draymanref31_with_l0_t, draymanref31_with_l0_s, draymanref31_with_l0_h, fun ds k => draymanref31_with_l0_run draymanref31_ahead (fun y1 y2 y3 y4 => k (.exit 0) (encSt [.dead, .dead, .dead, .ref 0 0, .dead, .own 2, .bool, .dead, .dead, .dead, .dead, .dead, .dead, .dead, .dead, .dead, .dead, .dead, .dead, .dead, .dead, .dead, .dead, .dead, .dead, .dead, .dead, .dead, .dead, .dead, .dead, .dead, .dead, .dead, .dead, .dead, .dead, .dead, .dead, .dead, .dead, .dead, .dead, .dead, .dead, .dead, .dead, .dead, .dead, .dead, .dead, .dead, .dead, .dead, .dead, .dead, .dead] [] [.box [.int .i64, .int .i64, .int .i64, .int .i64, .int .i64, .int .i64], .row true (.int .i64 (.int .i64 (.int .i64 (.int .i64 (.int .i64 (.int .i64 (.nil))))))), .row true (.int .i64 (.int .i64 (.int .i64 (.int .i64 (.int .i64 (.int .i64 (.nil)))))))] [.b y1, .i y2.1, .i y2.2.1, .i y2.2.2.1, .i y2.2.2.2.1, .i y2.2.2.2.2.1, .i y2.2.2.2.2.2.1, .q (.int .i64 (.int .i64 (.int .i64 (.int .i64 (.int .i64 (.int .i64 (.nil))))))) y3, .q (.int .i64 (.int .i64 (.int .i64 (.int .i64 (.int .i64 (.int .i64 (.nil))))))) y4])) 1000 (hdQ (.int .i64 (.int .i64 (.int .i64 (.int .i64 (.int .i64 (.int .i64 (.nil))))))) ds) (hdB ds.tail) (hdI ds.tail.tail) (hdI ds.tail.tail.tail, hdI ds.tail.tail.tail.tail, hdI ds.tail.tail.tail.tail.tail, hdI ds.tail.tail.tail.tail.tail.tail, hdI ds.tail.tail.tail.tail.tail.tail.tail, hdI ds.tail.tail.tail.tail.tail.tail.tail.tail, ()) (hdQ (.int .i64 (.int .i64 (.int .i64 (.int .i64 (.int .i64 (.int .i64 (.nil))))))) ds.tail.tail.tail.tail.tail.tail.tail.tail.tail) (hdQ (.int .i64 (.int .i64 (.int .i64 (.int .i64 (.int .i64 (.int .i64 (.nil))))))) ds.tail.tail.tail.tail.tail.tail.tail.tail.tail.tail)⟩

noncomputable def draymanref31_with_loops {α : Type} (draymanref31_ahead : draymanref31_ahead_T α) : List (LoopSpec α) := [draymanref31_with_l0_spec draymanref31_ahead]

noncomputable def draymanref31_with_l0_ev {α : Type} (draymanref31_ahead : draymanref31_ahead_T α) (n : Nat) (st : St) (k : X → St → Option α) : Option α := loopN (evCode Go.Proofs.Try.prog (callD Go.Proofs.Try.prog (envOf (draymanref31_with_C draymanref31_ahead) draymanref31_with_q draymanref31_with_inl 1000 draymanref31_with_ann false (draymanref31_with_loops draymanref31_ahead) (fun _ => none)) 6) (((envOf (draymanref31_with_C draymanref31_ahead) draymanref31_with_q draymanref31_with_inl 1000 draymanref31_with_ann false (draymanref31_with_loops draymanref31_ahead) (fun _ => none)) : Env α).L 6 76) 1000 (draymanref31_with_ann 76) (false :: [true, false, true, true, true]) (loopC Go.Proofs.Try.prog 76 [true, false, true, true, true])) ((draymanref31_with_ann 76 [true, false, true, true, true]).head 3) ((draymanref31_with_ann 76 [true, false, true, true, true]).leave 3) n st k

theorem draymanref31_with_l0_eq {α : Type} (draymanref31_ahead : draymanref31_ahead_T α) : ∀ (n : Nat) (l3 : Seq Z1) (done4 : Bool) (i5 : Int) (x6 : Int × Int × Int × Int × Int × Int × Unit) (q7 : Seq Z1) (q8 : Seq Z1) (k : X → St → Option α), draymanref31_with_l0_ev draymanref31_ahead n (encSt draymanref31_with_l0_t draymanref31_with_l0_s draymanref31_with_l0_h [.q (.int .i64 (.int .i64 (.int .i64 (.int .i64 (.int .i64 (.int .i64 (.nil))))))) l3, .b done4, .i i5, .i x6.1, .i x6.2.1, .i x6.2.2.1, .i x6.2.2.2.1, .i x6.2.2.2.2.1, .i x6.2.2.2.2.2.1, .q (.int .i64 (.int .i64 (.int .i64 (.int .i64 (.int .i64 (.int .i64 (.nil))))))) q7, .q (.int .i64 (.int .i64 (.int .i64 (.int .i64 (.int .i64 (.int .i64 (.nil))))))) q8]) k = draymanref31_with_l0_run draymanref31_ahead (fun y1 y2 y3 y4 => k (.exit 0) (encSt [.dead, .dead, .dead, .ref 0 0, .dead, .own 2, .bool, .dead, .dead, .dead, .dead, .dead, .dead, .dead, .dead, .dead, .dead, .dead, .dead, .dead, .dead, .dead, .dead, .dead, .dead, .dead, .dead, .dead, .dead, .dead, .dead, .dead, .dead, .dead, .dead, .dead, .dead, .dead, .dead, .dead, .dead, .dead, .dead, .dead, .dead, .dead, .dead, .dead, .dead, .dead, .dead, .dead, .dead, .dead, .dead, .dead, .dead] [] [.box [.int .i64, .int .i64, .int .i64, .int .i64, .int .i64, .int .i64], .row true (.int .i64 (.int .i64 (.int .i64 (.int .i64 (.int .i64 (.int .i64 (.nil))))))), .row true (.int .i64 (.int .i64 (.int .i64 (.int .i64 (.int .i64 (.int .i64 (.nil)))))))] [.b y1, .i y2.1, .i y2.2.1, .i y2.2.2.1, .i y2.2.2.2.1, .i y2.2.2.2.2.1, .i y2.2.2.2.2.2.1, .q (.int .i64 (.int .i64 (.int .i64 (.int .i64 (.int .i64 (.int .i64 (.nil))))))) y3, .q (.int .i64 (.int .i64 (.int .i64 (.int .i64 (.int .i64 (.int .i64 (.nil))))))) y4])) n l3 done4 i5 x6 q7 q8 := by
  intro n
  induction n with
  | zero => intros; kernel_rfl
  | succ n ih =>
    intro l3 done4 i5 x6 q7 q8 k
    have e : (fun (l3 : Seq Z1) (done4 : Bool) (i5 : Int) (x6 : Int × Int × Int × Int × Int × Int × Unit) (q7 : Seq Z1) (q8 : Seq Z1) => draymanref31_with_l0_ev draymanref31_ahead n (encSt draymanref31_with_l0_t draymanref31_with_l0_s draymanref31_with_l0_h [.q (.int .i64 (.int .i64 (.int .i64 (.int .i64 (.int .i64 (.int .i64 (.nil))))))) l3, .b done4, .i i5, .i x6.1, .i x6.2.1, .i x6.2.2.1, .i x6.2.2.2.1, .i x6.2.2.2.2.1, .i x6.2.2.2.2.2.1, .q (.int .i64 (.int .i64 (.int .i64 (.int .i64 (.int .i64 (.int .i64 (.nil))))))) q7, .q (.int .i64 (.int .i64 (.int .i64 (.int .i64 (.int .i64 (.int .i64 (.nil))))))) q8]) k) = (fun (l3 : Seq Z1) (done4 : Bool) (i5 : Int) (x6 : Int × Int × Int × Int × Int × Int × Unit) (q7 : Seq Z1) (q8 : Seq Z1) => draymanref31_with_l0_run draymanref31_ahead (fun y1 y2 y3 y4 => k (.exit 0) (encSt [.dead, .dead, .dead, .ref 0 0, .dead, .own 2, .bool, .dead, .dead, .dead, .dead, .dead, .dead, .dead, .dead, .dead, .dead, .dead, .dead, .dead, .dead, .dead, .dead, .dead, .dead, .dead, .dead, .dead, .dead, .dead, .dead, .dead, .dead, .dead, .dead, .dead, .dead, .dead, .dead, .dead, .dead, .dead, .dead, .dead, .dead, .dead, .dead, .dead, .dead, .dead, .dead, .dead, .dead, .dead, .dead, .dead, .dead] [] [.box [.int .i64, .int .i64, .int .i64, .int .i64, .int .i64, .int .i64], .row true (.int .i64 (.int .i64 (.int .i64 (.int .i64 (.int .i64 (.int .i64 (.nil))))))), .row true (.int .i64 (.int .i64 (.int .i64 (.int .i64 (.int .i64 (.int .i64 (.nil)))))))] [.b y1, .i y2.1, .i y2.2.1, .i y2.2.2.1, .i y2.2.2.2.1, .i y2.2.2.2.2.1, .i y2.2.2.2.2.2.1, .q (.int .i64 (.int .i64 (.int .i64 (.int .i64 (.int .i64 (.int .i64 (.nil))))))) y3, .q (.int .i64 (.int .i64 (.int .i64 (.int .i64 (.int .i64 (.int .i64 (.nil))))))) y4])) n l3 done4 i5 x6 q7 q8) := by
      funext l3 done4 i5 x6 q7 q8
      exact ih l3 done4 i5 x6 q7 q8 k
    have h1 : draymanref31_with_l0_ev draymanref31_ahead (n + 1) (encSt draymanref31_with_l0_t draymanref31_with_l0_s draymanref31_with_l0_h [.q (.int .i64 (.int .i64 (.int .i64 (.int .i64 (.int .i64 (.int .i64 (.nil))))))) l3, .b done4, .i i5, .i x6.1, .i x6.2.1, .i x6.2.2.1, .i x6.2.2.2.1, .i x6.2.2.2.2.1, .i x6.2.2.2.2.2.1, .q (.int .i64 (.int .i64 (.int .i64 (.int .i64 (.int .i64 (.int .i64 (.nil))))))) q7, .q (.int .i64 (.int .i64 (.int .i64 (.int .i64 (.int .i64 (.int .i64 (.nil))))))) q8]) k = draymanref31_with_l0_step draymanref31_ahead (fun y1 y2 y3 y4 => k (.exit 0) (encSt [.dead, .dead, .dead, .ref 0 0, .dead, .own 2, .bool, .dead, .dead, .dead, .dead, .dead, .dead, .dead, .dead, .dead, .dead, .dead, .dead, .dead, .dead, .dead, .dead, .dead, .dead, .dead, .dead, .dead, .dead, .dead, .dead, .dead, .dead, .dead, .dead, .dead, .dead, .dead, .dead, .dead, .dead, .dead, .dead, .dead, .dead, .dead, .dead, .dead, .dead, .dead, .dead, .dead, .dead, .dead, .dead, .dead, .dead] [] [.box [.int .i64, .int .i64, .int .i64, .int .i64, .int .i64, .int .i64], .row true (.int .i64 (.int .i64 (.int .i64 (.int .i64 (.int .i64 (.int .i64 (.nil))))))), .row true (.int .i64 (.int .i64 (.int .i64 (.int .i64 (.int .i64 (.int .i64 (.nil)))))))] [.b y1, .i y2.1, .i y2.2.1, .i y2.2.2.1, .i y2.2.2.2.1, .i y2.2.2.2.2.1, .i y2.2.2.2.2.2.1, .q (.int .i64 (.int .i64 (.int .i64 (.int .i64 (.int .i64 (.int .i64 (.nil))))))) y3, .q (.int .i64 (.int .i64 (.int .i64 (.int .i64 (.int .i64 (.int .i64 (.nil))))))) y4])) (fun (l3 : Seq Z1) (done4 : Bool) (i5 : Int) (x6 : Int × Int × Int × Int × Int × Int × Unit) (q7 : Seq Z1) (q8 : Seq Z1) => draymanref31_with_l0_ev draymanref31_ahead n (encSt draymanref31_with_l0_t draymanref31_with_l0_s draymanref31_with_l0_h [.q (.int .i64 (.int .i64 (.int .i64 (.int .i64 (.int .i64 (.int .i64 (.nil))))))) l3, .b done4, .i i5, .i x6.1, .i x6.2.1, .i x6.2.2.1, .i x6.2.2.2.1, .i x6.2.2.2.2.1, .i x6.2.2.2.2.2.1, .q (.int .i64 (.int .i64 (.int .i64 (.int .i64 (.int .i64 (.int .i64 (.nil))))))) q7, .q (.int .i64 (.int .i64 (.int .i64 (.int .i64 (.int .i64 (.int .i64 (.nil))))))) q8]) k) l3 done4 i5 x6 q7 q8 := by kernel_rfl
    have h2 := congrArg (fun r => draymanref31_with_l0_step draymanref31_ahead (fun y1 y2 y3 y4 => k (.exit 0) (encSt [.dead, .dead, .dead, .ref 0 0, .dead, .own 2, .bool, .dead, .dead, .dead, .dead, .dead, .dead, .dead, .dead, .dead, .dead, .dead, .dead, .dead, .dead, .dead, .dead, .dead, .dead, .dead, .dead, .dead, .dead, .dead, .dead, .dead, .dead, .dead, .dead, .dead, .dead, .dead, .dead, .dead, .dead, .dead, .dead, .dead, .dead, .dead, .dead, .dead, .dead, .dead, .dead, .dead, .dead, .dead, .dead, .dead, .dead] [] [.box [.int .i64, .int .i64, .int .i64, .int .i64, .int .i64, .int .i64], .row true (.int .i64 (.int .i64 (.int .i64 (.int .i64 (.int .i64 (.int .i64 (.nil))))))), .row true (.int .i64 (.int .i64 (.int .i64 (.int .i64 (.int .i64 (.int .i64 (.nil)))))))] [.b y1, .i y2.1, .i y2.2.1, .i y2.2.2.1, .i y2.2.2.2.1, .i y2.2.2.2.2.1, .i y2.2.2.2.2.2.1, .q (.int .i64 (.int .i64 (.int .i64 (.int .i64 (.int .i64 (.int .i64 (.nil))))))) y3, .q (.int .i64 (.int .i64 (.int .i64 (.int .i64 (.int .i64 (.int .i64 (.nil))))))) y4])) r l3 done4 i5 x6 q7 q8) e
    have h3 : draymanref31_with_l0_step draymanref31_ahead (fun y1 y2 y3 y4 => k (.exit 0) (encSt [.dead, .dead, .dead, .ref 0 0, .dead, .own 2, .bool, .dead, .dead, .dead, .dead, .dead, .dead, .dead, .dead, .dead, .dead, .dead, .dead, .dead, .dead, .dead, .dead, .dead, .dead, .dead, .dead, .dead, .dead, .dead, .dead, .dead, .dead, .dead, .dead, .dead, .dead, .dead, .dead, .dead, .dead, .dead, .dead, .dead, .dead, .dead, .dead, .dead, .dead, .dead, .dead, .dead, .dead, .dead, .dead, .dead, .dead] [] [.box [.int .i64, .int .i64, .int .i64, .int .i64, .int .i64, .int .i64], .row true (.int .i64 (.int .i64 (.int .i64 (.int .i64 (.int .i64 (.int .i64 (.nil))))))), .row true (.int .i64 (.int .i64 (.int .i64 (.int .i64 (.int .i64 (.int .i64 (.nil)))))))] [.b y1, .i y2.1, .i y2.2.1, .i y2.2.2.1, .i y2.2.2.2.1, .i y2.2.2.2.2.1, .i y2.2.2.2.2.2.1, .q (.int .i64 (.int .i64 (.int .i64 (.int .i64 (.int .i64 (.int .i64 (.nil))))))) y3, .q (.int .i64 (.int .i64 (.int .i64 (.int .i64 (.int .i64 (.int .i64 (.nil))))))) y4])) (fun (l3 : Seq Z1) (done4 : Bool) (i5 : Int) (x6 : Int × Int × Int × Int × Int × Int × Unit) (q7 : Seq Z1) (q8 : Seq Z1) => draymanref31_with_l0_run draymanref31_ahead (fun y1 y2 y3 y4 => k (.exit 0) (encSt [.dead, .dead, .dead, .ref 0 0, .dead, .own 2, .bool, .dead, .dead, .dead, .dead, .dead, .dead, .dead, .dead, .dead, .dead, .dead, .dead, .dead, .dead, .dead, .dead, .dead, .dead, .dead, .dead, .dead, .dead, .dead, .dead, .dead, .dead, .dead, .dead, .dead, .dead, .dead, .dead, .dead, .dead, .dead, .dead, .dead, .dead, .dead, .dead, .dead, .dead, .dead, .dead, .dead, .dead, .dead, .dead, .dead, .dead] [] [.box [.int .i64, .int .i64, .int .i64, .int .i64, .int .i64, .int .i64], .row true (.int .i64 (.int .i64 (.int .i64 (.int .i64 (.int .i64 (.int .i64 (.nil))))))), .row true (.int .i64 (.int .i64 (.int .i64 (.int .i64 (.int .i64 (.int .i64 (.nil)))))))] [.b y1, .i y2.1, .i y2.2.1, .i y2.2.2.1, .i y2.2.2.2.1, .i y2.2.2.2.2.1, .i y2.2.2.2.2.2.1, .q (.int .i64 (.int .i64 (.int .i64 (.int .i64 (.int .i64 (.int .i64 (.nil))))))) y3, .q (.int .i64 (.int .i64 (.int .i64 (.int .i64 (.int .i64 (.int .i64 (.nil))))))) y4])) n l3 done4 i5 x6 q7 q8) l3 done4 i5 x6 q7 q8 = draymanref31_with_l0_run draymanref31_ahead (fun y1 y2 y3 y4 => k (.exit 0) (encSt [.dead, .dead, .dead, .ref 0 0, .dead, .own 2, .bool, .dead, .dead, .dead, .dead, .dead, .dead, .dead, .dead, .dead, .dead, .dead, .dead, .dead, .dead, .dead, .dead, .dead, .dead, .dead, .dead, .dead, .dead, .dead, .dead, .dead, .dead, .dead, .dead, .dead, .dead, .dead, .dead, .dead, .dead, .dead, .dead, .dead, .dead, .dead, .dead, .dead, .dead, .dead, .dead, .dead, .dead, .dead, .dead, .dead, .dead] [] [.box [.int .i64, .int .i64, .int .i64, .int .i64, .int .i64, .int .i64], .row true (.int .i64 (.int .i64 (.int .i64 (.int .i64 (.int .i64 (.int .i64 (.nil))))))), .row true (.int .i64 (.int .i64 (.int .i64 (.int .i64 (.int .i64 (.int .i64 (.nil)))))))] [.b y1, .i y2.1, .i y2.2.1, .i y2.2.2.1, .i y2.2.2.2.1, .i y2.2.2.2.2.1, .i y2.2.2.2.2.2.1, .q (.int .i64 (.int .i64 (.int .i64 (.int .i64 (.int .i64 (.int .i64 (.nil))))))) y3, .q (.int .i64 (.int .i64 (.int .i64 (.int .i64 (.int .i64 (.int .i64 (.nil))))))) y4])) (n + 1) l3 done4 i5 x6 q7 q8 := by kernel_rfl
    exact h1.trans (h2.trans h3)

theorem draymanref31_with_l0_ok {α : Type} (draymanref31_ahead : draymanref31_ahead_T α) : (draymanref31_with_l0_spec draymanref31_ahead : LoopSpec α).ok Go.Proofs.Try.prog (envOf (draymanref31_with_C draymanref31_ahead) draymanref31_with_q draymanref31_with_inl 1000 draymanref31_with_ann false (draymanref31_with_loops draymanref31_ahead) (fun _ => none)) := by
  intro ds k
  have h1 : draymanref31_with_l0_ev draymanref31_ahead 1000 (encSt draymanref31_with_l0_t draymanref31_with_l0_s draymanref31_with_l0_h ds) k = draymanref31_with_l0_ev draymanref31_ahead 1000 (encSt draymanref31_with_l0_t draymanref31_with_l0_s draymanref31_with_l0_h [.q (.int .i64 (.int .i64 (.int .i64 (.int .i64 (.int .i64 (.int .i64 (.nil))))))) (hdQ (.int .i64 (.int .i64 (.int .i64 (.int .i64 (.int .i64 (.int .i64 (.nil))))))) ds), .b (hdB ds.tail), .i (hdI ds.tail.tail), .i ((hdI ds.tail.tail.tail, hdI ds.tail.tail.tail.tail, hdI ds.tail.tail.tail.tail.tail, hdI ds.tail.tail.tail.tail.tail.tail, hdI ds.tail.tail.tail.tail.tail.tail.tail, hdI ds.tail.tail.tail.tail.tail.tail.tail.tail, ()).1), .i ((hdI ds.tail.tail.tail, hdI ds.tail.tail.tail.tail, hdI ds.tail.tail.tail.tail.tail, hdI ds.tail.tail.tail.tail.tail.tail, hdI ds.tail.tail.tail.tail.tail.tail.tail, hdI ds.tail.tail.tail.tail.tail.tail.tail.tail, ()).2.1), .i ((hdI ds.tail.tail.tail, hdI ds.tail.tail.tail.tail, hdI ds.tail.tail.tail.tail.tail, hdI ds.tail.tail.tail.tail.tail.tail, hdI ds.tail.tail.tail.tail.tail.tail.tail, hdI ds.tail.tail.tail.tail.tail.tail.tail.tail, ()).2.2.1), .i ((hdI ds.tail.tail.tail, hdI ds.tail.tail.tail.tail, hdI ds.tail.tail.tail.tail.tail, hdI ds.tail.tail.tail.tail.tail.tail, hdI ds.tail.tail.tail.tail.tail.tail.tail, hdI ds.tail.tail.tail.tail.tail.tail.tail.tail, ()).2.2.2.1), .i ((hdI ds.tail.tail.tail, hdI ds.tail.tail.tail.tail, hdI ds.tail.tail.tail.tail.tail, hdI ds.tail.tail.tail.tail.tail.tail, hdI ds.tail.tail.tail.tail.tail.tail.tail, hdI ds.tail.tail.tail.tail.tail.tail.tail.tail, ()).2.2.2.2.1), .i ((hdI ds.tail.tail.tail, hdI ds.tail.tail.tail.tail, hdI ds.tail.tail.tail.tail.tail, hdI ds.tail.tail.tail.tail.tail.tail, hdI ds.tail.tail.tail.tail.tail.tail.tail, hdI ds.tail.tail.tail.tail.tail.tail.tail.tail, ()).2.2.2.2.2.1), .q (.int .i64 (.int .i64 (.int .i64 (.int .i64 (.int .i64 (.int .i64 (.nil))))))) (hdQ (.int .i64 (.int .i64 (.int .i64 (.int .i64 (.int .i64 (.int .i64 (.nil))))))) ds.tail.tail.tail.tail.tail.tail.tail.tail.tail), .q (.int .i64 (.int .i64 (.int .i64 (.int .i64 (.int .i64 (.int .i64 (.nil))))))) (hdQ (.int .i64 (.int .i64 (.int .i64 (.int .i64 (.int .i64 (.int .i64 (.nil))))))) ds.tail.tail.tail.tail.tail.tail.tail.tail.tail.tail)]) k := by kernel_rfl
  have h2 := draymanref31_with_l0_eq draymanref31_ahead 1000 (hdQ (.int .i64 (.int .i64 (.int .i64 (.int .i64 (.int .i64 (.int .i64 (.nil))))))) ds) (hdB ds.tail) (hdI ds.tail.tail) (hdI ds.tail.tail.tail, hdI ds.tail.tail.tail.tail, hdI ds.tail.tail.tail.tail.tail, hdI ds.tail.tail.tail.tail.tail.tail, hdI ds.tail.tail.tail.tail.tail.tail.tail, hdI ds.tail.tail.tail.tail.tail.tail.tail.tail, ()) (hdQ (.int .i64 (.int .i64 (.int .i64 (.int .i64 (.int .i64 (.int .i64 (.nil))))))) ds.tail.tail.tail.tail.tail.tail.tail.tail.tail) (hdQ (.int .i64 (.int .i64 (.int .i64 (.int .i64 (.int .i64 (.int .i64 (.nil))))))) ds.tail.tail.tail.tail.tail.tail.tail.tail.tail.tail) k
  exact h1.trans h2

theorem draymanref31_with_ev {α : Type} (draymanref31_ahead : draymanref31_ahead_T α) : EvOk (α := α) Go.Proofs.Try.prog (envOf (draymanref31_with_C draymanref31_ahead) draymanref31_with_q draymanref31_with_inl 1000 draymanref31_with_ann false (draymanref31_with_loops draymanref31_ahead) (fun _ => none)) 6 (draymanref31_with_sp (draymanref31_with_g draymanref31_ahead)) := by intro ds k; kernel_rfl

theorem draymanref31_with_ok {α : Type} : (draymanref31_with_spec : FunSpec α).ok Go.Proofs.Try.prog :=
  FunSpec.ok_of (sp := draymanref31_with_spec) (C := draymanref31_with_C draymanref31_ahead) (q := draymanref31_with_q) (inl := draymanref31_with_inl) (N := 1000) (ann := draymanref31_with_ann) (fr := false) (D := 6) (l := (draymanref31_with_loops draymanref31_ahead)) (hk := (fun _ => none)) (okCons draymanref31_ahead_ok okNil) (lokCons (draymanref31_with_l0_ok draymanref31_ahead) lokNil) noHooks (draymanref31_with_ev draymanref31_ahead)

end
end Go.Rv.Try

set_option linter.unusedVariables false
set_option maxRecDepth 100000
set_option maxHeartbeats 4000000
namespace Go.Rv.Try
open Go Go.Rv Go.RowKit
noncomputable section

-- drayman/draymanref31.back

abbrev draymanref31_back_T (α : Type) : Type := (Seq Z1) → Z1 → Bool → Z0 → Int → ((Seq Z1) → Int → Bool → Option α) → Option α

noncomputable def draymanref31_back_g {α : Type} (draymanref31_with : draymanref31_with_T α) (l1 : Seq Z1) (x2 : Int × Int × Int × Int × Int × Int × Unit) (is3 : Bool) (x4 : Int × Int × Int × Bool × Int × Int × Bool × Unit) (verdict5 : Int) (k : (Seq Z1) → Int → Bool → Option α) : Option α :=
  (cond is3
    (cond (x2.2.2.1 != 2)
      (k l1 1 false)
      (cond (verdict5 != 1)
        (k l1 2 false)
        (cond is3
          (draymanref31_with l1 (x2.1, x2.2.1, 4, x2.2.2.2.1, 1, x2.2.2.2.2.2.1, ()) fun r6 =>
            (k r6 1 true))
          (draymanref31_with l1 (x4.2.1, x4.2.2.1, 3, 0, 0, x4.2.2.2.2.2.1, ()) fun r7 =>
            (k r7 1 false)))))
    (cond (verdict5 != 1)
      (k l1 2 false)
      (cond is3
        (draymanref31_with l1 (x2.1, x2.2.1, 4, x2.2.2.2.1, 1, x2.2.2.2.2.2.1, ()) fun r8 =>
          (k r8 1 true))
        (draymanref31_with l1 (x4.2.1, x4.2.2.1, 3, 0, 0, x4.2.2.2.2.2.1, ()) fun r9 =>
          (k r9 1 false)))))

noncomputable def draymanref31_back {α : Type} : draymanref31_back_T α := draymanref31_back_g draymanref31_with

noncomputable def draymanref31_back_sp {α : Type} (draymanref31_back : draymanref31_back_T α) : FunSpec α := ⟨67, [.sl (.int .i64 (.int .i64 (.int .i64 (.int .i64 (.int .i64 (.int .i64 (.nil))))))), .agg [.int .i64, .int .i64, .int .i64, .int .i64, .int .i64, .int .i64], .bool, .agg [.int .i64, .int .i64, .int .i64, .bool, .int .i64, .int .i64, .bool], .int .i64], [], fun ds k => draymanref31_back (hdQ (.int .i64 (.int .i64 (.int .i64 (.int .i64 (.int .i64 (.int .i64 (.nil))))))) ds) (hdI ds.tail, hdI ds.tail.tail, hdI ds.tail.tail.tail, hdI ds.tail.tail.tail.tail, hdI ds.tail.tail.tail.tail.tail, hdI ds.tail.tail.tail.tail.tail.tail, ()) (hdB ds.tail.tail.tail.tail.tail.tail.tail) (hdI ds.tail.tail.tail.tail.tail.tail.tail.tail, hdI ds.tail.tail.tail.tail.tail.tail.tail.tail.tail, hdI ds.tail.tail.tail.tail.tail.tail.tail.tail.tail.tail, hdB ds.tail.tail.tail.tail.tail.tail.tail.tail.tail.tail.tail, hdI ds.tail.tail.tail.tail.tail.tail.tail.tail.tail.tail.tail.tail, hdI ds.tail.tail.tail.tail.tail.tail.tail.tail.tail.tail.tail.tail.tail, hdB ds.tail.tail.tail.tail.tail.tail.tail.tail.tail.tail.tail.tail.tail.tail, ()) (hdI ds.tail.tail.tail.tail.tail.tail.tail.tail.tail.tail.tail.tail.tail.tail.tail) (fun r1 r2 r3 => k (enc dep (.tup [.sl (.int .i64 (.int .i64 (.int .i64 (.int .i64 (.int .i64 (.int .i64 (.nil))))))), .int .i64, .bool]) [.q (.int .i64 (.int .i64 (.int .i64 (.int .i64 (.int .i64 (.int .i64 (.nil))))))) r1, .i r2, .b r3]).1 [])⟩

noncomputable def draymanref31_back_spec {α : Type} : FunSpec α := draymanref31_back_sp draymanref31_back

noncomputable def draymanref31_back_C {α : Type} (draymanref31_with : draymanref31_with_T α) : List (FunSpec α) := [draymanref31_with_sp draymanref31_with]

noncomputable def draymanref31_back_q : FuncId → Bool := fun f => false

noncomputable def draymanref31_back_inl : FuncId → Bool := fun f => false

noncomputable def draymanref31_back_ann : FuncId → AnnT := fun f p => ⟨[], [], [], [], 0, [], [], none⟩

noncomputable def draymanref31_back_loops {α : Type} (draymanref31_with : draymanref31_with_T α) : List (LoopSpec α) := []

theorem draymanref31_back_ev {α : Type} (draymanref31_with : draymanref31_with_T α) : EvOk (α := α) Go.Proofs.Try.prog (envOf (draymanref31_back_C draymanref31_with) draymanref31_back_q draymanref31_back_inl 1000 draymanref31_back_ann true (draymanref31_back_loops draymanref31_with) (fun _ => none)) 6 (draymanref31_back_sp (draymanref31_back_g draymanref31_with)) := by intro ds k; kernel_rfl

theorem draymanref31_back_ok {α : Type} : (draymanref31_back_spec : FunSpec α).ok Go.Proofs.Try.prog :=
  FunSpec.ok_of (sp := draymanref31_back_spec) (C := draymanref31_back_C draymanref31_with) (q := draymanref31_back_q) (inl := draymanref31_back_inl) (N := 1000) (ann := draymanref31_back_ann) (fr := true) (D := 6) (l := (draymanref31_back_loops draymanref31_with)) (hk := (fun _ => none)) (okCons draymanref31_with_ok okNil) lokNil noHooks (draymanref31_back_ev draymanref31_with)

end
end Go.Rv.Try

set_option linter.unusedVariables false
set_option maxRecDepth 100000
set_option maxHeartbeats 4000000
namespace Go.Rv.Try
open Go Go.Rv Go.RowKit
noncomputable section

-- drayman/draymanref31.there

abbrev draymanref31_there_T (α : Type) : Type := (Seq Z1) → Z1 → Bool → Z0 → Int → ((Seq Z1) → Int → Bool → Option α) → Option α

noncomputable def draymanref31_there_g {α : Type} (draymanref31_with : draymanref31_with_T α) (l1 : Seq Z1) (x2 : Int × Int × Int × Int × Int × Int × Unit) (is3 : Bool) (x4 : Int × Int × Int × Bool × Int × Int × Bool × Unit) (verdict5 : Int) (k : (Seq Z1) → Int → Bool → Option α) : Option α :=
  (cond is3
    (cond (x2.2.2.1 == 2)
      (k l1 1 false)
      (cond is3
        (k l1 3 false)
        (cond (verdict5 == 1)
          (draymanref31_with l1 (x4.2.1, x4.2.2.1, 2, 1, 0, x4.2.2.2.2.2.1, ()) fun r6 =>
            (k r6 1 true))
          (cond (verdict5 == 3)
            (cond (!x4.2.2.2.2.2.2.1)
              (draymanref31_with l1 (x4.2.1, x4.2.2.1, 5, 0, 0, x4.2.2.2.2.2.1, ()) fun r7 =>
                (k r7 3 false))
              (k l1 2 false))
            (k l1 2 false)))))
    (cond is3
      (k l1 3 false)
      (cond (verdict5 == 1)
        (draymanref31_with l1 (x4.2.1, x4.2.2.1, 2, 1, 0, x4.2.2.2.2.2.1, ()) fun r8 =>
          (k r8 1 true))
        (cond (verdict5 == 3)
          (cond (!x4.2.2.2.2.2.2.1)
            (draymanref31_with l1 (x4.2.1, x4.2.2.1, 5, 0, 0, x4.2.2.2.2.2.1, ()) fun r9 =>
              (k r9 3 false))
            (k l1 2 false))
          (k l1 2 false)))))

noncomputable def draymanref31_there {α : Type} : draymanref31_there_T α := draymanref31_there_g draymanref31_with

noncomputable def draymanref31_there_sp {α : Type} (draymanref31_there : draymanref31_there_T α) : FunSpec α := ⟨68, [.sl (.int .i64 (.int .i64 (.int .i64 (.int .i64 (.int .i64 (.int .i64 (.nil))))))), .agg [.int .i64, .int .i64, .int .i64, .int .i64, .int .i64, .int .i64], .bool, .agg [.int .i64, .int .i64, .int .i64, .bool, .int .i64, .int .i64, .bool], .int .i64], [], fun ds k => draymanref31_there (hdQ (.int .i64 (.int .i64 (.int .i64 (.int .i64 (.int .i64 (.int .i64 (.nil))))))) ds) (hdI ds.tail, hdI ds.tail.tail, hdI ds.tail.tail.tail, hdI ds.tail.tail.tail.tail, hdI ds.tail.tail.tail.tail.tail, hdI ds.tail.tail.tail.tail.tail.tail, ()) (hdB ds.tail.tail.tail.tail.tail.tail.tail) (hdI ds.tail.tail.tail.tail.tail.tail.tail.tail, hdI ds.tail.tail.tail.tail.tail.tail.tail.tail.tail, hdI ds.tail.tail.tail.tail.tail.tail.tail.tail.tail.tail, hdB ds.tail.tail.tail.tail.tail.tail.tail.tail.tail.tail.tail, hdI ds.tail.tail.tail.tail.tail.tail.tail.tail.tail.tail.tail.tail, hdI ds.tail.tail.tail.tail.tail.tail.tail.tail.tail.tail.tail.tail.tail, hdB ds.tail.tail.tail.tail.tail.tail.tail.tail.tail.tail.tail.tail.tail.tail, ()) (hdI ds.tail.tail.tail.tail.tail.tail.tail.tail.tail.tail.tail.tail.tail.tail.tail) (fun r1 r2 r3 => k (enc dep (.tup [.sl (.int .i64 (.int .i64 (.int .i64 (.int .i64 (.int .i64 (.int .i64 (.nil))))))), .int .i64, .bool]) [.q (.int .i64 (.int .i64 (.int .i64 (.int .i64 (.int .i64 (.int .i64 (.nil))))))) r1, .i r2, .b r3]).1 [])⟩

noncomputable def draymanref31_there_spec {α : Type} : FunSpec α := draymanref31_there_sp draymanref31_there

noncomputable def draymanref31_there_C {α : Type} (draymanref31_with : draymanref31_with_T α) : List (FunSpec α) := [draymanref31_with_sp draymanref31_with]

noncomputable def draymanref31_there_q : FuncId → Bool := fun f => false

noncomputable def draymanref31_there_inl : FuncId → Bool := fun f => false

noncomputable def draymanref31_there_ann : FuncId → AnnT := fun f p => ⟨[], [], [], [], 0, [], [], none⟩

noncomputable def draymanref31_there_loops {α : Type} (draymanref31_with : draymanref31_with_T α) : List (LoopSpec α) := []

theorem draymanref31_there_ev {α : Type} (draymanref31_with : draymanref31_with_T α) : EvOk (α := α) Go.Proofs.Try.prog (envOf (draymanref31_there_C draymanref31_with) draymanref31_there_q draymanref31_there_inl 1000 draymanref31_there_ann true (draymanref31_there_loops draymanref31_with) (fun _ => none)) 6 (draymanref31_there_sp (draymanref31_there_g draymanref31_with)) := by intro ds k; kernel_rfl

theorem draymanref31_there_ok {α : Type} : (draymanref31_there_spec : FunSpec α).ok Go.Proofs.Try.prog :=
  FunSpec.ok_of (sp := draymanref31_there_spec) (C := draymanref31_there_C draymanref31_with) (q := draymanref31_there_q) (inl := draymanref31_there_inl) (N := 1000) (ann := draymanref31_there_ann) (fr := true) (D := 6) (l := (draymanref31_there_loops draymanref31_with)) (hk := (fun _ => none)) (okCons draymanref31_with_ok okNil) lokNil noHooks (draymanref31_there_ev draymanref31_with)

end
end Go.Rv.Try

set_option linter.unusedVariables false
set_option maxRecDepth 100000
set_option maxHeartbeats 4000000
namespace Go.Rv.Try
open Go Go.Rv Go.RowKit
noncomputable section

-- drayman/draymanref31.Come

abbrev draymanref31_Come_T (α : Type) : Type := (Seq Z1) → Z0 → Int → ((Seq Z1) → Int → Bool → Int → Option α) → Option α

noncomputable def draymanref31_Come_g {α : Type} (draymanref31_Fit : draymanref31_Fit_T α) (draymanref17_One : draymanref17_One_T α) (draymanref31_Find : draymanref31_Find_T α) (draymanref31_back : draymanref31_back_T α) (draymanref31_there : draymanref31_there_T α) (x1 : Seq Z1) (x2 : Int × Int × Int × Bool × Int × Int × Bool × Unit) (x3 : Int) (k : (Seq Z1) → Int → Bool → Int → Option α) : Option α :=
  (draymanref31_Fit x1 fun r4 =>
    (cond (!r4)
      (k (⟨true, 0, (fun _ => (0, 0, 0, 0, 0, 0, ()))⟩ : Seq Z1) 0 false 12)
      (draymanref17_One x2 fun r5 =>
        (cond (!(!r5))
          (cond (!(decide (x3 < 1)))
            (cond (decide (x3 > 3))
              (k (⟨true, 0, (fun _ => (0, 0, 0, 0, 0, 0, ()))⟩ : Seq Z1) 0 false 1)
              (draymanref31_Find x1 x2.2.1 x2.2.2.1 fun r6 r7 =>
                (cond x2.2.2.2.1
                  (draymanref31_back x1 r6 r7 x2 x3 fun r8 r9 r10 =>
                    (k r8 r9 r10 0))
                  (draymanref31_there x1 r6 r7 x2 x3 fun r11 r12 r13 =>
                    (k r11 r12 r13 0)))))
            (k (⟨true, 0, (fun _ => (0, 0, 0, 0, 0, 0, ()))⟩ : Seq Z1) 0 false 1))
          (k (⟨true, 0, (fun _ => (0, 0, 0, 0, 0, 0, ()))⟩ : Seq Z1) 0 false 1)))))

noncomputable def draymanref31_Come {α : Type} : draymanref31_Come_T α := draymanref31_Come_g draymanref31_Fit draymanref17_One draymanref31_Find draymanref31_back draymanref31_there

noncomputable def draymanref31_Come_sp {α : Type} (draymanref31_Come : draymanref31_Come_T α) : FunSpec α := ⟨42, [.sl (.int .i64 (.int .i64 (.int .i64 (.int .i64 (.int .i64 (.int .i64 (.nil))))))), .agg [.int .i64, .int .i64, .int .i64, .bool, .int .i64, .int .i64, .bool], .int .i64], [], fun ds k => draymanref31_Come (hdQ (.int .i64 (.int .i64 (.int .i64 (.int .i64 (.int .i64 (.int .i64 (.nil))))))) ds) (hdI ds.tail, hdI ds.tail.tail, hdI ds.tail.tail.tail, hdB ds.tail.tail.tail.tail, hdI ds.tail.tail.tail.tail.tail, hdI ds.tail.tail.tail.tail.tail.tail, hdB ds.tail.tail.tail.tail.tail.tail.tail, ()) (hdI ds.tail.tail.tail.tail.tail.tail.tail.tail) (fun r1 r2 r3 r4 => k (enc dep (.tup [.sl (.int .i64 (.int .i64 (.int .i64 (.int .i64 (.int .i64 (.int .i64 (.nil))))))), .int .i64, .bool, .int .i64]) [.q (.int .i64 (.int .i64 (.int .i64 (.int .i64 (.int .i64 (.int .i64 (.nil))))))) r1, .i r2, .b r3, .i r4]).1 [])⟩

noncomputable def draymanref31_Come_spec {α : Type} : FunSpec α := draymanref31_Come_sp draymanref31_Come

noncomputable def draymanref31_Come_C {α : Type} (draymanref31_Fit : draymanref31_Fit_T α) (draymanref17_One : draymanref17_One_T α) (draymanref31_Find : draymanref31_Find_T α) (draymanref31_back : draymanref31_back_T α) (draymanref31_there : draymanref31_there_T α) : List (FunSpec α) := [draymanref31_Fit_sp draymanref31_Fit, draymanref17_One_sp draymanref17_One, draymanref31_Find_sp draymanref31_Find, draymanref31_back_sp draymanref31_back, draymanref31_there_sp draymanref31_there]

noncomputable def draymanref31_Come_q : FuncId → Bool := fun f => Nat.beq f 11 || Nat.beq f 43 || Nat.beq f 66

noncomputable def draymanref31_Come_inl : FuncId → Bool := fun f => false

noncomputable def draymanref31_Come_ann : FuncId → AnnT := fun f p => ⟨[], [], [], [], 0, [], [], none⟩

noncomputable def draymanref31_Come_loops {α : Type} (draymanref31_Fit : draymanref31_Fit_T α) (draymanref17_One : draymanref17_One_T α) (draymanref31_Find : draymanref31_Find_T α) (draymanref31_back : draymanref31_back_T α) (draymanref31_there : draymanref31_there_T α) : List (LoopSpec α) := []

theorem draymanref31_Come_ev {α : Type} (draymanref31_Fit : draymanref31_Fit_T α) (draymanref17_One : draymanref17_One_T α) (draymanref31_Find : draymanref31_Find_T α) (draymanref31_back : draymanref31_back_T α) (draymanref31_there : draymanref31_there_T α) : EvOk (α := α) Go.Proofs.Try.prog (envOf (draymanref31_Come_C draymanref31_Fit draymanref17_One draymanref31_Find draymanref31_back draymanref31_there) draymanref31_Come_q draymanref31_Come_inl 1000 draymanref31_Come_ann true (draymanref31_Come_loops draymanref31_Fit draymanref17_One draymanref31_Find draymanref31_back draymanref31_there) (fun _ => none)) 6 (draymanref31_Come_sp (draymanref31_Come_g draymanref31_Fit draymanref17_One draymanref31_Find draymanref31_back draymanref31_there)) := by intro ds k; kernel_rfl

theorem draymanref31_Come_ok {α : Type} : (draymanref31_Come_spec : FunSpec α).ok Go.Proofs.Try.prog :=
  FunSpec.ok_of (sp := draymanref31_Come_spec) (C := draymanref31_Come_C draymanref31_Fit draymanref17_One draymanref31_Find draymanref31_back draymanref31_there) (q := draymanref31_Come_q) (inl := draymanref31_Come_inl) (N := 1000) (ann := draymanref31_Come_ann) (fr := true) (D := 6) (l := (draymanref31_Come_loops draymanref31_Fit draymanref17_One draymanref31_Find draymanref31_back draymanref31_there)) (hk := (fun _ => none)) (okCons draymanref31_Fit_ok (okCons draymanref17_One_ok (okCons draymanref31_Find_ok (okCons draymanref31_back_ok (okCons draymanref31_there_ok okNil))))) lokNil noHooks (draymanref31_Come_ev draymanref31_Fit draymanref17_One draymanref31_Find draymanref31_back draymanref31_there)

end
end Go.Rv.Try
