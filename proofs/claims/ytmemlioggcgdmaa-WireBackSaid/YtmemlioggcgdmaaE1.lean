/- What the functions of the program compute, each with the proof that its code computes it. Written by a program (rvp2.py). -/
import Derived.Test.YtmemlioggcgdmaaProg
import Derived.Test.YtmemlioggcgdmaaRvP
import Derived.Test.YtmemlioggcgdmaaHooks
import Derived.Test.YtmemlioggcgdmaaE0

set_option linter.unusedVariables false
set_option maxRecDepth 100000
set_option maxHeartbeats 4000000
namespace Go.Rv.Try
open Go Go.Rv Go.RowKit
noncomputable section

-- (*drayman/draymanref03.Reader).List

abbrev draymanref03_Reader_List_T (α : Type) : Type := Int → (ByteArray × Bool × Unit) → (Int → (ByteArray × Bool × Unit) → Option α) → Option α

noncomputable def draymanref03_Reader_List_g {α : Type} (draymanref03_Reader_Int : draymanref03_Reader_Int_T α) (draymanref03_Reader_fails : draymanref03_Reader_fails_T α) (most1 : Int) (x2 : ByteArray × Bool × Unit) (k : Int → (ByteArray × Bool × Unit) → Option α) : Option α :=
  (draymanref03_Reader_Int 0 most1 x2 fun r3 r4 =>
    (cond (decide (r3 > (r4.1.size : Int)))
      (draymanref03_Reader_fails r4 fun r5 =>
        (k 0 r5))
      (k r3 r4)))

noncomputable def draymanref03_Reader_List {α : Type} : draymanref03_Reader_List_T α := draymanref03_Reader_List_g draymanref03_Reader_Int draymanref03_Reader_fails

noncomputable def draymanref03_Reader_List_sp {α : Type} (draymanref03_Reader_List : draymanref03_Reader_List_T α) : FunSpec α := ⟨48, [.ref 0 0, .int .i64], [.box [.str, .bool]], fun ds k => draymanref03_Reader_List (hdI ds) (hdS ds.tail, hdB ds.tail.tail, ()) (fun r1 r2 => k (enc dep (.int .i64) [.i r1]).1 (encBs [.box [.str, .bool]] [.s r2.1, .b r2.2.1]).1)⟩

noncomputable def draymanref03_Reader_List_spec {α : Type} : FunSpec α := draymanref03_Reader_List_sp draymanref03_Reader_List

noncomputable def draymanref03_Reader_List_C {α : Type} (draymanref03_Reader_Int : draymanref03_Reader_Int_T α) (draymanref03_Reader_fails : draymanref03_Reader_fails_T α) : List (FunSpec α) := [draymanref03_Reader_Int_sp draymanref03_Reader_Int, draymanref03_Reader_fails_sp draymanref03_Reader_fails]

noncomputable def draymanref03_Reader_List_q : FuncId → Bool := fun f => Nat.beq f 42 || Nat.beq f 81

noncomputable def draymanref03_Reader_List_inl : FuncId → Bool := fun f => false

noncomputable def draymanref03_Reader_List_ann : FuncId → AnnT := fun f p => ⟨[], [], [], [], 0, [], []⟩

noncomputable def draymanref03_Reader_List_loops {α : Type} (draymanref03_Reader_Int : draymanref03_Reader_Int_T α) (draymanref03_Reader_fails : draymanref03_Reader_fails_T α) : List (LoopSpec α) := []

theorem draymanref03_Reader_List_ev {α : Type} (draymanref03_Reader_Int : draymanref03_Reader_Int_T α) (draymanref03_Reader_fails : draymanref03_Reader_fails_T α) : EvOk (α := α) Go.Proofs.Try.prog (envOf (draymanref03_Reader_List_C draymanref03_Reader_Int draymanref03_Reader_fails) draymanref03_Reader_List_q draymanref03_Reader_List_inl 1000 draymanref03_Reader_List_ann false (draymanref03_Reader_List_loops draymanref03_Reader_Int draymanref03_Reader_fails) (fun _ => none)) 6 (draymanref03_Reader_List_sp (draymanref03_Reader_List_g draymanref03_Reader_Int draymanref03_Reader_fails)) := by intro ds k; kernel_rfl

theorem draymanref03_Reader_List_ok {α : Type} : (draymanref03_Reader_List_spec : FunSpec α).ok Go.Proofs.Try.prog :=
  FunSpec.ok_of (sp := draymanref03_Reader_List_spec) (C := draymanref03_Reader_List_C draymanref03_Reader_Int draymanref03_Reader_fails) (q := draymanref03_Reader_List_q) (inl := draymanref03_Reader_List_inl) (N := 1000) (ann := draymanref03_Reader_List_ann) (fr := false) (D := 6) (l := (draymanref03_Reader_List_loops draymanref03_Reader_Int draymanref03_Reader_fails)) (hk := (fun _ => none)) (okCons draymanref03_Reader_Int_ok (okCons draymanref03_Reader_fails_ok okNil)) lokNil noHooks (draymanref03_Reader_List_ev draymanref03_Reader_Int draymanref03_Reader_fails)

end
end Go.Rv.Try

set_option linter.unusedVariables false
set_option maxRecDepth 100000
set_option maxHeartbeats 4000000
namespace Go.Rv.Try
open Go Go.Rv Go.RowKit
noncomputable section

-- drayman/draymanlaw03.WireReads

abbrev draymanlaw03_WireReads_T (α : Type) : Type := ByteArray → (Seq (Int × Int × Int × Unit)) → (Bool → Option α) → Option α

noncomputable def draymanlaw03_WireReads_l0_step {α : Type} (draymanlaw03_awake : draymanlaw03_awake_T α) (wire_Reader_Int : wire_Reader_Int_T α) (draymanref03_Reader_Int : draymanref03_Reader_Int_T α) (wire_Reader_Left : wire_Reader_Left_T α) (draymanref03_Reader_Left : draymanref03_Reader_Left_T α) (wire_Reader_Done : wire_Reader_Done_T α) (draymanref03_Reader_Done : draymanref03_Reader_Done_T α) (wire_Reader_Flag : wire_Reader_Flag_T α) (draymanref03_Reader_Flag : draymanref03_Reader_Flag_T α) (wire_Reader_Text : wire_Reader_Text_T α) (draymanref03_Reader_Text : draymanref03_Reader_Text_T α) (wire_Reader_List : wire_Reader_List_T α) (draymanref03_Reader_List : draymanref03_Reader_List_T α) (kr : (Bool) → (ByteArray × Bool × Unit) → (ByteArray × Bool × Unit) → Option α) (k0 : (ByteArray × Bool × Unit) → (ByteArray × Bool × Unit) → Option α) (rec : (Seq (Int × Int × Int × Unit)) → (Int) → (ByteArray × Bool × Unit) → (ByteArray × Bool × Unit) → Option α) (x4 : Seq (Int × Int × Int × Unit)) (x5 : Int) (x6 : ByteArray × Bool × Unit) (x7 : ByteArray × Bool × Unit) : Option α :=
  (cond (decide (x5 < (x4.n : Int)))
    (cond ((decide ((0 : Int) ≤ x5)) && (decide (x5 < (x4.n : Int))))
      (cond ((x4.g x5.toNat).1 == 0)
        (cond (((decide ((0 : Int) ≤ x5)) && (decide (x5 < (x4.n : Int)))) && ((decide ((0 : Int) ≤ x5)) && (decide (x5 < (x4.n : Int)))))
          (cond (((decide ((0 : Int) ≤ x5)) && (decide (x5 < (x4.n : Int)))) && ((decide ((0 : Int) ≤ x5)) && (decide (x5 < (x4.n : Int)))))
            (cond (((decide ((0 : Int) ≤ x5)) && (decide (x5 < (x4.n : Int)))) && ((decide ((0 : Int) ≤ x5)) && (decide (x5 < (x4.n : Int)))))
              (cond (((decide ((0 : Int) ≤ x5)) && (decide (x5 < (x4.n : Int)))) && ((decide ((0 : Int) ≤ x5)) && (decide (x5 < (x4.n : Int)))))
                (wire_Reader_Int ((x4.g x5.toNat).2.1) ((x4.g x5.toNat).2.2.1) x6 fun r8 r9 =>
                  (draymanref03_Reader_Int ((x4.g x5.toNat).2.1) ((x4.g x5.toNat).2.2.1) x7 fun r10 r11 =>
                    (cond (!(!(r8 == r10)))
                      (wire_Reader_Left r9 fun r12 r13 =>
                        (draymanref03_Reader_Left r11 fun r14 r15 =>
                          (cond (!(r12 != r14))
                            (wire_Reader_Done r13 fun r16 r17 =>
                              (draymanref03_Reader_Done r15 fun r18 r19 =>
                                (cond (!(r16 == r18))
                                  (kr false r17 r19)
                                  (rec x4 (IntKind.i64.wrap (x5 + 1)) r17 r19))))
                            (kr false r13 r15))))
                      (kr false r9 r11))))
                none)
              none)
            none)
          none)
        (cond ((x4.g x5.toNat).1 == 1)
          (wire_Reader_Flag x6 fun r20 r21 =>
            (draymanref03_Reader_Flag x7 fun r22 r23 =>
              (cond (!(!(r20 == r22)))
                (wire_Reader_Left r21 fun r24 r25 =>
                  (draymanref03_Reader_Left r23 fun r26 r27 =>
                    (cond (!(r24 != r26))
                      (wire_Reader_Done r25 fun r28 r29 =>
                        (draymanref03_Reader_Done r27 fun r30 r31 =>
                          (cond (!(r28 == r30))
                            (kr false r29 r31)
                            (rec x4 (IntKind.i64.wrap (x5 + 1)) r29 r31))))
                      (kr false r25 r27))))
                (kr false r21 r23))))
          (cond ((x4.g x5.toNat).1 == 2)
            (cond (((decide ((0 : Int) ≤ x5)) && (decide (x5 < (x4.n : Int)))) && ((decide ((0 : Int) ≤ x5)) && (decide (x5 < (x4.n : Int)))))
              (cond (((decide ((0 : Int) ≤ x5)) && (decide (x5 < (x4.n : Int)))) && ((decide ((0 : Int) ≤ x5)) && (decide (x5 < (x4.n : Int)))))
                (wire_Reader_Text ((x4.g x5.toNat).2.2.1) x6 fun r32 r33 =>
                  (draymanref03_Reader_Text ((x4.g x5.toNat).2.2.1) x7 fun r34 r35 =>
                    (cond (!(!(r32.toList == r34.toList)))
                      (wire_Reader_Left r33 fun r36 r37 =>
                        (draymanref03_Reader_Left r35 fun r38 r39 =>
                          (cond (!(r36 != r38))
                            (wire_Reader_Done r37 fun r40 r41 =>
                              (draymanref03_Reader_Done r39 fun r42 r43 =>
                                (cond (!(r40 == r42))
                                  (kr false r41 r43)
                                  (rec x4 (IntKind.i64.wrap (x5 + 1)) r41 r43))))
                            (kr false r37 r39))))
                      (kr false r33 r35))))
                none)
              none)
            (cond (((decide ((0 : Int) ≤ x5)) && (decide (x5 < (x4.n : Int)))) && ((decide ((0 : Int) ≤ x5)) && (decide (x5 < (x4.n : Int)))))
              (cond (((decide ((0 : Int) ≤ x5)) && (decide (x5 < (x4.n : Int)))) && ((decide ((0 : Int) ≤ x5)) && (decide (x5 < (x4.n : Int)))))
                (wire_Reader_List ((x4.g x5.toNat).2.2.1) x6 fun r44 r45 =>
                  (draymanref03_Reader_List ((x4.g x5.toNat).2.2.1) x7 fun r46 r47 =>
                    (cond (!(!(r44 == r46)))
                      (wire_Reader_Left r45 fun r48 r49 =>
                        (draymanref03_Reader_Left r47 fun r50 r51 =>
                          (cond (!(r48 != r50))
                            (wire_Reader_Done r49 fun r52 r53 =>
                              (draymanref03_Reader_Done r51 fun r54 r55 =>
                                (cond (!(r52 == r54))
                                  (kr false r53 r55)
                                  (rec x4 (IntKind.i64.wrap (x5 + 1)) r53 r55))))
                            (kr false r49 r51))))
                      (kr false r45 r47))))
                none)
              none))))
      none)
    (k0 x6 x7))

noncomputable def draymanlaw03_WireReads_l0_run {α : Type} (draymanlaw03_awake : draymanlaw03_awake_T α) (wire_Reader_Int : wire_Reader_Int_T α) (draymanref03_Reader_Int : draymanref03_Reader_Int_T α) (wire_Reader_Left : wire_Reader_Left_T α) (draymanref03_Reader_Left : draymanref03_Reader_Left_T α) (wire_Reader_Done : wire_Reader_Done_T α) (draymanref03_Reader_Done : draymanref03_Reader_Done_T α) (wire_Reader_Flag : wire_Reader_Flag_T α) (draymanref03_Reader_Flag : draymanref03_Reader_Flag_T α) (wire_Reader_Text : wire_Reader_Text_T α) (draymanref03_Reader_Text : draymanref03_Reader_Text_T α) (wire_Reader_List : wire_Reader_List_T α) (draymanref03_Reader_List : draymanref03_Reader_List_T α) (kr : (Bool) → (ByteArray × Bool × Unit) → (ByteArray × Bool × Unit) → Option α) (k0 : (ByteArray × Bool × Unit) → (ByteArray × Bool × Unit) → Option α) : Nat → (Seq (Int × Int × Int × Unit)) → (Int) → (ByteArray × Bool × Unit) → (ByteArray × Bool × Unit) → Option α
  | 0, _, _, _, _ => none
  | n + 1, x4, x5, x6, x7 => draymanlaw03_WireReads_l0_step draymanlaw03_awake wire_Reader_Int draymanref03_Reader_Int wire_Reader_Left draymanref03_Reader_Left wire_Reader_Done draymanref03_Reader_Done wire_Reader_Flag draymanref03_Reader_Flag wire_Reader_Text draymanref03_Reader_Text wire_Reader_List draymanref03_Reader_List kr k0 (fun x4 x5 x6 x7 => draymanlaw03_WireReads_l0_run draymanlaw03_awake wire_Reader_Int draymanref03_Reader_Int wire_Reader_Left draymanref03_Reader_Left wire_Reader_Done draymanref03_Reader_Done wire_Reader_Flag draymanref03_Reader_Flag wire_Reader_Text draymanref03_Reader_Text wire_Reader_List draymanref03_Reader_List kr k0 n x4 x5 x6 x7) x4 x5 x6 x7

noncomputable def draymanlaw03_WireReads_g {α : Type} (draymanlaw03_awake : draymanlaw03_awake_T α) (wire_Reader_Int : wire_Reader_Int_T α) (draymanref03_Reader_Int : draymanref03_Reader_Int_T α) (wire_Reader_Left : wire_Reader_Left_T α) (draymanref03_Reader_Left : draymanref03_Reader_Left_T α) (wire_Reader_Done : wire_Reader_Done_T α) (draymanref03_Reader_Done : draymanref03_Reader_Done_T α) (wire_Reader_Flag : wire_Reader_Flag_T α) (draymanref03_Reader_Flag : draymanref03_Reader_Flag_T α) (wire_Reader_Text : wire_Reader_Text_T α) (draymanref03_Reader_Text : draymanref03_Reader_Text_T α) (wire_Reader_List : wire_Reader_List_T α) (draymanref03_Reader_List : draymanref03_Reader_List_T α) (x1 : ByteArray) (x2 : Seq (Int × Int × Int × Unit)) (k : Bool → Option α) : Option α :=
  (cond (!(decide ((x1.size : Int) > 300)))
    (cond (decide ((x2.n : Int) > 20))
      (draymanlaw03_awake fun r3 =>
        (k r3))
      (draymanlaw03_WireReads_l0_run draymanlaw03_awake wire_Reader_Int draymanref03_Reader_Int wire_Reader_Left draymanref03_Reader_Left wire_Reader_Done draymanref03_Reader_Done wire_Reader_Flag draymanref03_Reader_Flag wire_Reader_Text draymanref03_Reader_Text wire_Reader_List draymanref03_Reader_List
        (fun x56 x57 x58 =>
          (k x56))
        (fun x59 x60 =>
          (draymanlaw03_awake fun r61 =>
            (k r61)))
        1000 x2 0 (x1, true, ()) (x1, false, ())))
    (draymanlaw03_awake fun r62 =>
      (k r62)))

noncomputable def draymanlaw03_WireReads {α : Type} : draymanlaw03_WireReads_T α := draymanlaw03_WireReads_g draymanlaw03_awake wire_Reader_Int draymanref03_Reader_Int wire_Reader_Left draymanref03_Reader_Left wire_Reader_Done draymanref03_Reader_Done wire_Reader_Flag draymanref03_Reader_Flag wire_Reader_Text draymanref03_Reader_Text wire_Reader_List draymanref03_Reader_List

noncomputable def draymanlaw03_WireReads_sp {α : Type} (draymanlaw03_WireReads : draymanlaw03_WireReads_T α) : FunSpec α := ⟨8, [.str, .sl (.int .i64 (.int .i64 (.int .i64 (.nil))))], [], fun ds k => draymanlaw03_WireReads (hdS ds) (hdQ (.int .i64 (.int .i64 (.int .i64 (.nil)))) ds.tail) (fun r1 => k (enc dep (.bool) [.b r1]).1 [])⟩

noncomputable def draymanlaw03_WireReads_spec {α : Type} : FunSpec α := draymanlaw03_WireReads_sp draymanlaw03_WireReads

noncomputable def draymanlaw03_WireReads_C {α : Type} (draymanlaw03_awake : draymanlaw03_awake_T α) (wire_Reader_Int : wire_Reader_Int_T α) (draymanref03_Reader_Int : draymanref03_Reader_Int_T α) (wire_Reader_Left : wire_Reader_Left_T α) (draymanref03_Reader_Left : draymanref03_Reader_Left_T α) (wire_Reader_Done : wire_Reader_Done_T α) (draymanref03_Reader_Done : draymanref03_Reader_Done_T α) (wire_Reader_Flag : wire_Reader_Flag_T α) (draymanref03_Reader_Flag : draymanref03_Reader_Flag_T α) (wire_Reader_Text : wire_Reader_Text_T α) (draymanref03_Reader_Text : draymanref03_Reader_Text_T α) (wire_Reader_List : wire_Reader_List_T α) (draymanref03_Reader_List : draymanref03_Reader_List_T α) : List (FunSpec α) := [draymanlaw03_awake_sp draymanlaw03_awake, wire_Reader_Int_sp wire_Reader_Int, draymanref03_Reader_Int_sp draymanref03_Reader_Int, wire_Reader_Left_sp wire_Reader_Left, draymanref03_Reader_Left_sp draymanref03_Reader_Left, wire_Reader_Done_sp wire_Reader_Done, draymanref03_Reader_Done_sp draymanref03_Reader_Done, wire_Reader_Flag_sp wire_Reader_Flag, draymanref03_Reader_Flag_sp draymanref03_Reader_Flag, wire_Reader_Text_sp wire_Reader_Text, draymanref03_Reader_Text_sp draymanref03_Reader_Text, wire_Reader_List_sp wire_Reader_List, draymanref03_Reader_List_sp draymanref03_Reader_List]

noncomputable def draymanlaw03_WireReads_q : FuncId → Bool := fun f => Nat.beq f 39 || Nat.beq f 41 || Nat.beq f 42 || Nat.beq f 43 || Nat.beq f 44 || Nat.beq f 45 || Nat.beq f 46 || Nat.beq f 47 || Nat.beq f 48 || Nat.beq f 49 || Nat.beq f 50 || Nat.beq f 51 || Nat.beq f 52

noncomputable def draymanlaw03_WireReads_inl : FuncId → Bool := fun f => Nat.beq f 40

noncomputable def draymanlaw03_WireReads_ann : FuncId → AnnT := fun f p => if f = 8 then (if p = [true, false, true, true, true, true] then ⟨[1, 5, 6, 7], [], [], [4], 0, [], []⟩ else ⟨[], [], [], [], 0, [], []⟩) else ⟨[], [], [], [], 0, [], []⟩

noncomputable def draymanlaw03_WireReads_l0_t : List Sh := [.dead, .sl (.int .i64 (.int .i64 (.int .i64 (.nil)))), .dead, .dead, .dead, .ref 0 0, .ref 1 0, .int .i64, .dead, .dead, .dead, .dead, .dead, .dead, .dead, .dead, .dead, .dead, .dead, .dead, .dead, .dead, .dead, .dead, .dead, .dead, .dead, .dead, .dead, .dead, .dead, .dead, .dead, .dead, .dead, .dead, .dead, .dead, .dead, .dead, .dead, .dead, .dead, .dead, .dead, .dead, .dead, .dead, .dead, .dead, .dead, .dead, .dead, .dead, .dead, .dead, .dead, .dead, .dead, .dead, .dead, .dead, .dead, .dead, .dead, .dead, .dead, .dead, .dead, .dead, .dead, .dead, .dead, .dead, .dead, .dead, .dead, .dead, .dead, .dead, .dead, .dead, .dead, .dead, .dead, .dead, .dead, .dead, .dead, .dead, .dead, .dead, .dead, .dead, .dead, .dead, .dead, .dead, .dead, .dead, .dead, .dead, .dead, .dead, .dead, .dead, .dead, .dead, .dead, .dead, .dead, .dead, .dead, .dead, .dead, .dead, .dead, .dead, .dead]
noncomputable def draymanlaw03_WireReads_l0_s : List (List Sh) := []
noncomputable def draymanlaw03_WireReads_l0_h : List BSh := [.box [.str, .bool], .box [.str, .bool]]

noncomputable def draymanlaw03_WireReads_l0_spec {α : Type} (draymanlaw03_awake : draymanlaw03_awake_T α) (wire_Reader_Int : wire_Reader_Int_T α) (draymanref03_Reader_Int : draymanref03_Reader_Int_T α) (wire_Reader_Left : wire_Reader_Left_T α) (draymanref03_Reader_Left : draymanref03_Reader_Left_T α) (wire_Reader_Done : wire_Reader_Done_T α) (draymanref03_Reader_Done : draymanref03_Reader_Done_T α) (wire_Reader_Flag : wire_Reader_Flag_T α) (draymanref03_Reader_Flag : draymanref03_Reader_Flag_T α) (wire_Reader_Text : wire_Reader_Text_T α) (draymanref03_Reader_Text : draymanref03_Reader_Text_T α) (wire_Reader_List : wire_Reader_List_T α) (draymanref03_Reader_List : draymanref03_Reader_List_T α) : LoopSpec α := ⟨6, 8, [true, false, true, true, true, true], draymanlaw03_WireReads_l0_t, draymanlaw03_WireReads_l0_s, draymanlaw03_WireReads_l0_h, fun ds k => draymanlaw03_WireReads_l0_run draymanlaw03_awake wire_Reader_Int draymanref03_Reader_Int wire_Reader_Left draymanref03_Reader_Left wire_Reader_Done draymanref03_Reader_Done wire_Reader_Flag draymanref03_Reader_Flag wire_Reader_Text draymanref03_Reader_Text wire_Reader_List draymanref03_Reader_List (fun y1 y2 y3 => k .ret (encSt [.dead, .dead, .dead, .dead, .bool, .dead, .dead, .dead, .dead, .dead, .dead, .dead, .dead, .dead, .dead, .dead, .dead, .dead, .dead, .dead, .dead, .dead, .dead, .dead, .dead, .dead, .dead, .dead, .dead, .dead, .dead, .dead, .dead, .dead, .dead, .dead, .dead, .dead, .dead, .dead, .dead, .dead, .dead, .dead, .dead, .dead, .dead, .dead, .dead, .dead, .dead, .dead, .dead, .dead, .dead, .dead, .dead, .dead, .dead, .dead, .dead, .dead, .dead, .dead, .dead, .dead, .dead, .dead, .dead, .dead, .dead, .dead, .dead, .dead, .dead, .dead, .dead, .dead, .dead, .dead, .dead, .dead, .dead, .dead, .dead, .dead, .dead, .dead, .dead, .dead, .dead, .dead, .dead, .dead, .dead, .dead, .dead, .dead, .dead, .dead, .dead, .dead, .dead, .dead, .dead, .dead, .dead, .dead, .dead, .dead, .dead, .dead, .dead, .dead, .dead, .dead, .dead, .dead, .dead] [] [.box [.str, .bool], .box [.str, .bool]] [.b y1, .s y2.1, .b y2.2.1, .s y3.1, .b y3.2.1])) (fun y1 y2 => k (.exit 0) (encSt [.dead, .dead, .dead, .dead, .dead, .dead, .dead, .dead, .dead, .dead, .dead, .dead, .dead, .dead, .dead, .dead, .dead, .dead, .dead, .dead, .dead, .dead, .dead, .dead, .dead, .dead, .dead, .dead, .dead, .dead, .dead, .dead, .dead, .dead, .dead, .dead, .dead, .dead, .dead, .dead, .dead, .dead, .dead, .dead, .dead, .dead, .dead, .dead, .dead, .dead, .dead, .dead, .dead, .dead, .dead, .dead, .dead, .dead, .dead, .dead, .dead, .dead, .dead, .dead, .dead, .dead, .dead, .dead, .dead, .dead, .dead, .dead, .dead, .dead, .dead, .dead, .dead, .dead, .dead, .dead, .dead, .dead, .dead, .dead, .dead, .dead, .dead, .dead, .dead, .dead, .dead, .dead, .dead, .dead, .dead, .dead, .dead, .dead, .dead, .dead, .dead, .dead, .dead, .dead, .dead, .dead, .dead, .dead, .dead, .dead, .dead, .dead, .dead, .dead, .dead, .dead, .dead, .dead, .dead] [] [.box [.str, .bool], .box [.str, .bool]] [.s y1.1, .b y1.2.1, .s y2.1, .b y2.2.1])) 1000 (hdQ (.int .i64 (.int .i64 (.int .i64 (.nil)))) ds) (hdI ds.tail) (hdS ds.tail.tail, hdB ds.tail.tail.tail, ()) (hdS ds.tail.tail.tail.tail, hdB ds.tail.tail.tail.tail.tail, ())⟩

noncomputable def draymanlaw03_WireReads_loops {α : Type} (draymanlaw03_awake : draymanlaw03_awake_T α) (wire_Reader_Int : wire_Reader_Int_T α) (draymanref03_Reader_Int : draymanref03_Reader_Int_T α) (wire_Reader_Left : wire_Reader_Left_T α) (draymanref03_Reader_Left : draymanref03_Reader_Left_T α) (wire_Reader_Done : wire_Reader_Done_T α) (draymanref03_Reader_Done : draymanref03_Reader_Done_T α) (wire_Reader_Flag : wire_Reader_Flag_T α) (draymanref03_Reader_Flag : draymanref03_Reader_Flag_T α) (wire_Reader_Text : wire_Reader_Text_T α) (draymanref03_Reader_Text : draymanref03_Reader_Text_T α) (wire_Reader_List : wire_Reader_List_T α) (draymanref03_Reader_List : draymanref03_Reader_List_T α) : List (LoopSpec α) := [draymanlaw03_WireReads_l0_spec draymanlaw03_awake wire_Reader_Int draymanref03_Reader_Int wire_Reader_Left draymanref03_Reader_Left wire_Reader_Done draymanref03_Reader_Done wire_Reader_Flag draymanref03_Reader_Flag wire_Reader_Text draymanref03_Reader_Text wire_Reader_List draymanref03_Reader_List]

noncomputable def draymanlaw03_WireReads_l0_ev {α : Type} (draymanlaw03_awake : draymanlaw03_awake_T α) (wire_Reader_Int : wire_Reader_Int_T α) (draymanref03_Reader_Int : draymanref03_Reader_Int_T α) (wire_Reader_Left : wire_Reader_Left_T α) (draymanref03_Reader_Left : draymanref03_Reader_Left_T α) (wire_Reader_Done : wire_Reader_Done_T α) (draymanref03_Reader_Done : draymanref03_Reader_Done_T α) (wire_Reader_Flag : wire_Reader_Flag_T α) (draymanref03_Reader_Flag : draymanref03_Reader_Flag_T α) (wire_Reader_Text : wire_Reader_Text_T α) (draymanref03_Reader_Text : draymanref03_Reader_Text_T α) (wire_Reader_List : wire_Reader_List_T α) (draymanref03_Reader_List : draymanref03_Reader_List_T α) (n : Nat) (st : St) (k : X → St → Option α) : Option α := loopN (evCode Go.Proofs.Try.prog (callD Go.Proofs.Try.prog (envOf (draymanlaw03_WireReads_C draymanlaw03_awake wire_Reader_Int draymanref03_Reader_Int wire_Reader_Left draymanref03_Reader_Left wire_Reader_Done draymanref03_Reader_Done wire_Reader_Flag draymanref03_Reader_Flag wire_Reader_Text draymanref03_Reader_Text wire_Reader_List draymanref03_Reader_List) draymanlaw03_WireReads_q draymanlaw03_WireReads_inl 1000 draymanlaw03_WireReads_ann false (draymanlaw03_WireReads_loops draymanlaw03_awake wire_Reader_Int draymanref03_Reader_Int wire_Reader_Left draymanref03_Reader_Left wire_Reader_Done draymanref03_Reader_Done wire_Reader_Flag draymanref03_Reader_Flag wire_Reader_Text draymanref03_Reader_Text wire_Reader_List draymanref03_Reader_List) (fun _ => none)) 6) (((envOf (draymanlaw03_WireReads_C draymanlaw03_awake wire_Reader_Int draymanref03_Reader_Int wire_Reader_Left draymanref03_Reader_Left wire_Reader_Done draymanref03_Reader_Done wire_Reader_Flag draymanref03_Reader_Flag wire_Reader_Text draymanref03_Reader_Text wire_Reader_List draymanref03_Reader_List) draymanlaw03_WireReads_q draymanlaw03_WireReads_inl 1000 draymanlaw03_WireReads_ann false (draymanlaw03_WireReads_loops draymanlaw03_awake wire_Reader_Int draymanref03_Reader_Int wire_Reader_Left draymanref03_Reader_Left wire_Reader_Done draymanref03_Reader_Done wire_Reader_Flag draymanref03_Reader_Flag wire_Reader_Text draymanref03_Reader_Text wire_Reader_List draymanref03_Reader_List) (fun _ => none)) : Env α).L 6 8) 1000 (draymanlaw03_WireReads_ann 8) (false :: [true, false, true, true, true, true]) (loopC Go.Proofs.Try.prog 8 [true, false, true, true, true, true])) ((draymanlaw03_WireReads_ann 8 [true, false, true, true, true, true]).head 2) ((draymanlaw03_WireReads_ann 8 [true, false, true, true, true, true]).leave 2) n st k

theorem draymanlaw03_WireReads_l0_eq {α : Type} (draymanlaw03_awake : draymanlaw03_awake_T α) (wire_Reader_Int : wire_Reader_Int_T α) (draymanref03_Reader_Int : draymanref03_Reader_Int_T α) (wire_Reader_Left : wire_Reader_Left_T α) (draymanref03_Reader_Left : draymanref03_Reader_Left_T α) (wire_Reader_Done : wire_Reader_Done_T α) (draymanref03_Reader_Done : draymanref03_Reader_Done_T α) (wire_Reader_Flag : wire_Reader_Flag_T α) (draymanref03_Reader_Flag : draymanref03_Reader_Flag_T α) (wire_Reader_Text : wire_Reader_Text_T α) (draymanref03_Reader_Text : draymanref03_Reader_Text_T α) (wire_Reader_List : wire_Reader_List_T α) (draymanref03_Reader_List : draymanref03_Reader_List_T α) : ∀ (n : Nat) (x4 : Seq (Int × Int × Int × Unit)) (x5 : Int) (x6 : ByteArray × Bool × Unit) (x7 : ByteArray × Bool × Unit) (k : X → St → Option α), draymanlaw03_WireReads_l0_ev draymanlaw03_awake wire_Reader_Int draymanref03_Reader_Int wire_Reader_Left draymanref03_Reader_Left wire_Reader_Done draymanref03_Reader_Done wire_Reader_Flag draymanref03_Reader_Flag wire_Reader_Text draymanref03_Reader_Text wire_Reader_List draymanref03_Reader_List n (encSt draymanlaw03_WireReads_l0_t draymanlaw03_WireReads_l0_s draymanlaw03_WireReads_l0_h [.q (.int .i64 (.int .i64 (.int .i64 (.nil)))) x4, .i x5, .s x6.1, .b x6.2.1, .s x7.1, .b x7.2.1]) k = draymanlaw03_WireReads_l0_run draymanlaw03_awake wire_Reader_Int draymanref03_Reader_Int wire_Reader_Left draymanref03_Reader_Left wire_Reader_Done draymanref03_Reader_Done wire_Reader_Flag draymanref03_Reader_Flag wire_Reader_Text draymanref03_Reader_Text wire_Reader_List draymanref03_Reader_List (fun y1 y2 y3 => k .ret (encSt [.dead, .dead, .dead, .dead, .bool, .dead, .dead, .dead, .dead, .dead, .dead, .dead, .dead, .dead, .dead, .dead, .dead, .dead, .dead, .dead, .dead, .dead, .dead, .dead, .dead, .dead, .dead, .dead, .dead, .dead, .dead, .dead, .dead, .dead, .dead, .dead, .dead, .dead, .dead, .dead, .dead, .dead, .dead, .dead, .dead, .dead, .dead, .dead, .dead, .dead, .dead, .dead, .dead, .dead, .dead, .dead, .dead, .dead, .dead, .dead, .dead, .dead, .dead, .dead, .dead, .dead, .dead, .dead, .dead, .dead, .dead, .dead, .dead, .dead, .dead, .dead, .dead, .dead, .dead, .dead, .dead, .dead, .dead, .dead, .dead, .dead, .dead, .dead, .dead, .dead, .dead, .dead, .dead, .dead, .dead, .dead, .dead, .dead, .dead, .dead, .dead, .dead, .dead, .dead, .dead, .dead, .dead, .dead, .dead, .dead, .dead, .dead, .dead, .dead, .dead, .dead, .dead, .dead, .dead] [] [.box [.str, .bool], .box [.str, .bool]] [.b y1, .s y2.1, .b y2.2.1, .s y3.1, .b y3.2.1])) (fun y1 y2 => k (.exit 0) (encSt [.dead, .dead, .dead, .dead, .dead, .dead, .dead, .dead, .dead, .dead, .dead, .dead, .dead, .dead, .dead, .dead, .dead, .dead, .dead, .dead, .dead, .dead, .dead, .dead, .dead, .dead, .dead, .dead, .dead, .dead, .dead, .dead, .dead, .dead, .dead, .dead, .dead, .dead, .dead, .dead, .dead, .dead, .dead, .dead, .dead, .dead, .dead, .dead, .dead, .dead, .dead, .dead, .dead, .dead, .dead, .dead, .dead, .dead, .dead, .dead, .dead, .dead, .dead, .dead, .dead, .dead, .dead, .dead, .dead, .dead, .dead, .dead, .dead, .dead, .dead, .dead, .dead, .dead, .dead, .dead, .dead, .dead, .dead, .dead, .dead, .dead, .dead, .dead, .dead, .dead, .dead, .dead, .dead, .dead, .dead, .dead, .dead, .dead, .dead, .dead, .dead, .dead, .dead, .dead, .dead, .dead, .dead, .dead, .dead, .dead, .dead, .dead, .dead, .dead, .dead, .dead, .dead, .dead, .dead] [] [.box [.str, .bool], .box [.str, .bool]] [.s y1.1, .b y1.2.1, .s y2.1, .b y2.2.1])) n x4 x5 x6 x7 := by
  intro n
  induction n with
  | zero => intros; kernel_rfl
  | succ n ih =>
    intro x4 x5 x6 x7 k
    have e : (fun (x4 : Seq (Int × Int × Int × Unit)) (x5 : Int) (x6 : ByteArray × Bool × Unit) (x7 : ByteArray × Bool × Unit) => draymanlaw03_WireReads_l0_ev draymanlaw03_awake wire_Reader_Int draymanref03_Reader_Int wire_Reader_Left draymanref03_Reader_Left wire_Reader_Done draymanref03_Reader_Done wire_Reader_Flag draymanref03_Reader_Flag wire_Reader_Text draymanref03_Reader_Text wire_Reader_List draymanref03_Reader_List n (encSt draymanlaw03_WireReads_l0_t draymanlaw03_WireReads_l0_s draymanlaw03_WireReads_l0_h [.q (.int .i64 (.int .i64 (.int .i64 (.nil)))) x4, .i x5, .s x6.1, .b x6.2.1, .s x7.1, .b x7.2.1]) k) = (fun (x4 : Seq (Int × Int × Int × Unit)) (x5 : Int) (x6 : ByteArray × Bool × Unit) (x7 : ByteArray × Bool × Unit) => draymanlaw03_WireReads_l0_run draymanlaw03_awake wire_Reader_Int draymanref03_Reader_Int wire_Reader_Left draymanref03_Reader_Left wire_Reader_Done draymanref03_Reader_Done wire_Reader_Flag draymanref03_Reader_Flag wire_Reader_Text draymanref03_Reader_Text wire_Reader_List draymanref03_Reader_List (fun y1 y2 y3 => k .ret (encSt [.dead, .dead, .dead, .dead, .bool, .dead, .dead, .dead, .dead, .dead, .dead, .dead, .dead, .dead, .dead, .dead, .dead, .dead, .dead, .dead, .dead, .dead, .dead, .dead, .dead, .dead, .dead, .dead, .dead, .dead, .dead, .dead, .dead, .dead, .dead, .dead, .dead, .dead, .dead, .dead, .dead, .dead, .dead, .dead, .dead, .dead, .dead, .dead, .dead, .dead, .dead, .dead, .dead, .dead, .dead, .dead, .dead, .dead, .dead, .dead, .dead, .dead, .dead, .dead, .dead, .dead, .dead, .dead, .dead, .dead, .dead, .dead, .dead, .dead, .dead, .dead, .dead, .dead, .dead, .dead, .dead, .dead, .dead, .dead, .dead, .dead, .dead, .dead, .dead, .dead, .dead, .dead, .dead, .dead, .dead, .dead, .dead, .dead, .dead, .dead, .dead, .dead, .dead, .dead, .dead, .dead, .dead, .dead, .dead, .dead, .dead, .dead, .dead, .dead, .dead, .dead, .dead, .dead, .dead] [] [.box [.str, .bool], .box [.str, .bool]] [.b y1, .s y2.1, .b y2.2.1, .s y3.1, .b y3.2.1])) (fun y1 y2 => k (.exit 0) (encSt [.dead, .dead, .dead, .dead, .dead, .dead, .dead, .dead, .dead, .dead, .dead, .dead, .dead, .dead, .dead, .dead, .dead, .dead, .dead, .dead, .dead, .dead, .dead, .dead, .dead, .dead, .dead, .dead, .dead, .dead, .dead, .dead, .dead, .dead, .dead, .dead, .dead, .dead, .dead, .dead, .dead, .dead, .dead, .dead, .dead, .dead, .dead, .dead, .dead, .dead, .dead, .dead, .dead, .dead, .dead, .dead, .dead, .dead, .dead, .dead, .dead, .dead, .dead, .dead, .dead, .dead, .dead, .dead, .dead, .dead, .dead, .dead, .dead, .dead, .dead, .dead, .dead, .dead, .dead, .dead, .dead, .dead, .dead, .dead, .dead, .dead, .dead, .dead, .dead, .dead, .dead, .dead, .dead, .dead, .dead, .dead, .dead, .dead, .dead, .dead, .dead, .dead, .dead, .dead, .dead, .dead, .dead, .dead, .dead, .dead, .dead, .dead, .dead, .dead, .dead, .dead, .dead, .dead, .dead] [] [.box [.str, .bool], .box [.str, .bool]] [.s y1.1, .b y1.2.1, .s y2.1, .b y2.2.1])) n x4 x5 x6 x7) := by
      funext x4 x5 x6 x7
      exact ih x4 x5 x6 x7 k
    have h1 : draymanlaw03_WireReads_l0_ev draymanlaw03_awake wire_Reader_Int draymanref03_Reader_Int wire_Reader_Left draymanref03_Reader_Left wire_Reader_Done draymanref03_Reader_Done wire_Reader_Flag draymanref03_Reader_Flag wire_Reader_Text draymanref03_Reader_Text wire_Reader_List draymanref03_Reader_List (n + 1) (encSt draymanlaw03_WireReads_l0_t draymanlaw03_WireReads_l0_s draymanlaw03_WireReads_l0_h [.q (.int .i64 (.int .i64 (.int .i64 (.nil)))) x4, .i x5, .s x6.1, .b x6.2.1, .s x7.1, .b x7.2.1]) k = draymanlaw03_WireReads_l0_step draymanlaw03_awake wire_Reader_Int draymanref03_Reader_Int wire_Reader_Left draymanref03_Reader_Left wire_Reader_Done draymanref03_Reader_Done wire_Reader_Flag draymanref03_Reader_Flag wire_Reader_Text draymanref03_Reader_Text wire_Reader_List draymanref03_Reader_List (fun y1 y2 y3 => k .ret (encSt [.dead, .dead, .dead, .dead, .bool, .dead, .dead, .dead, .dead, .dead, .dead, .dead, .dead, .dead, .dead, .dead, .dead, .dead, .dead, .dead, .dead, .dead, .dead, .dead, .dead, .dead, .dead, .dead, .dead, .dead, .dead, .dead, .dead, .dead, .dead, .dead, .dead, .dead, .dead, .dead, .dead, .dead, .dead, .dead, .dead, .dead, .dead, .dead, .dead, .dead, .dead, .dead, .dead, .dead, .dead, .dead, .dead, .dead, .dead, .dead, .dead, .dead, .dead, .dead, .dead, .dead, .dead, .dead, .dead, .dead, .dead, .dead, .dead, .dead, .dead, .dead, .dead, .dead, .dead, .dead, .dead, .dead, .dead, .dead, .dead, .dead, .dead, .dead, .dead, .dead, .dead, .dead, .dead, .dead, .dead, .dead, .dead, .dead, .dead, .dead, .dead, .dead, .dead, .dead, .dead, .dead, .dead, .dead, .dead, .dead, .dead, .dead, .dead, .dead, .dead, .dead, .dead, .dead, .dead] [] [.box [.str, .bool], .box [.str, .bool]] [.b y1, .s y2.1, .b y2.2.1, .s y3.1, .b y3.2.1])) (fun y1 y2 => k (.exit 0) (encSt [.dead, .dead, .dead, .dead, .dead, .dead, .dead, .dead, .dead, .dead, .dead, .dead, .dead, .dead, .dead, .dead, .dead, .dead, .dead, .dead, .dead, .dead, .dead, .dead, .dead, .dead, .dead, .dead, .dead, .dead, .dead, .dead, .dead, .dead, .dead, .dead, .dead, .dead, .dead, .dead, .dead, .dead, .dead, .dead, .dead, .dead, .dead, .dead, .dead, .dead, .dead, .dead, .dead, .dead, .dead, .dead, .dead, .dead, .dead, .dead, .dead, .dead, .dead, .dead, .dead, .dead, .dead, .dead, .dead, .dead, .dead, .dead, .dead, .dead, .dead, .dead, .dead, .dead, .dead, .dead, .dead, .dead, .dead, .dead, .dead, .dead, .dead, .dead, .dead, .dead, .dead, .dead, .dead, .dead, .dead, .dead, .dead, .dead, .dead, .dead, .dead, .dead, .dead, .dead, .dead, .dead, .dead, .dead, .dead, .dead, .dead, .dead, .dead, .dead, .dead, .dead, .dead, .dead, .dead] [] [.box [.str, .bool], .box [.str, .bool]] [.s y1.1, .b y1.2.1, .s y2.1, .b y2.2.1])) (fun (x4 : Seq (Int × Int × Int × Unit)) (x5 : Int) (x6 : ByteArray × Bool × Unit) (x7 : ByteArray × Bool × Unit) => draymanlaw03_WireReads_l0_ev draymanlaw03_awake wire_Reader_Int draymanref03_Reader_Int wire_Reader_Left draymanref03_Reader_Left wire_Reader_Done draymanref03_Reader_Done wire_Reader_Flag draymanref03_Reader_Flag wire_Reader_Text draymanref03_Reader_Text wire_Reader_List draymanref03_Reader_List n (encSt draymanlaw03_WireReads_l0_t draymanlaw03_WireReads_l0_s draymanlaw03_WireReads_l0_h [.q (.int .i64 (.int .i64 (.int .i64 (.nil)))) x4, .i x5, .s x6.1, .b x6.2.1, .s x7.1, .b x7.2.1]) k) x4 x5 x6 x7 := by kernel_rfl
    have h2 := congrArg (fun r => draymanlaw03_WireReads_l0_step draymanlaw03_awake wire_Reader_Int draymanref03_Reader_Int wire_Reader_Left draymanref03_Reader_Left wire_Reader_Done draymanref03_Reader_Done wire_Reader_Flag draymanref03_Reader_Flag wire_Reader_Text draymanref03_Reader_Text wire_Reader_List draymanref03_Reader_List (fun y1 y2 y3 => k .ret (encSt [.dead, .dead, .dead, .dead, .bool, .dead, .dead, .dead, .dead, .dead, .dead, .dead, .dead, .dead, .dead, .dead, .dead, .dead, .dead, .dead, .dead, .dead, .dead, .dead, .dead, .dead, .dead, .dead, .dead, .dead, .dead, .dead, .dead, .dead, .dead, .dead, .dead, .dead, .dead, .dead, .dead, .dead, .dead, .dead, .dead, .dead, .dead, .dead, .dead, .dead, .dead, .dead, .dead, .dead, .dead, .dead, .dead, .dead, .dead, .dead, .dead, .dead, .dead, .dead, .dead, .dead, .dead, .dead, .dead, .dead, .dead, .dead, .dead, .dead, .dead, .dead, .dead, .dead, .dead, .dead, .dead, .dead, .dead, .dead, .dead, .dead, .dead, .dead, .dead, .dead, .dead, .dead, .dead, .dead, .dead, .dead, .dead, .dead, .dead, .dead, .dead, .dead, .dead, .dead, .dead, .dead, .dead, .dead, .dead, .dead, .dead, .dead, .dead, .dead, .dead, .dead, .dead, .dead, .dead] [] [.box [.str, .bool], .box [.str, .bool]] [.b y1, .s y2.1, .b y2.2.1, .s y3.1, .b y3.2.1])) (fun y1 y2 => k (.exit 0) (encSt [.dead, .dead, .dead, .dead, .dead, .dead, .dead, .dead, .dead, .dead, .dead, .dead, .dead, .dead, .dead, .dead, .dead, .dead, .dead, .dead, .dead, .dead, .dead, .dead, .dead, .dead, .dead, .dead, .dead, .dead, .dead, .dead, .dead, .dead, .dead, .dead, .dead, .dead, .dead, .dead, .dead, .dead, .dead, .dead, .dead, .dead, .dead, .dead, .dead, .dead, .dead, .dead, .dead, .dead, .dead, .dead, .dead, .dead, .dead, .dead, .dead, .dead, .dead, .dead, .dead, .dead, .dead, .dead, .dead, .dead, .dead, .dead, .dead, .dead, .dead, .dead, .dead, .dead, .dead, .dead, .dead, .dead, .dead, .dead, .dead, .dead, .dead, .dead, .dead, .dead, .dead, .dead, .dead, .dead, .dead, .dead, .dead, .dead, .dead, .dead, .dead, .dead, .dead, .dead, .dead, .dead, .dead, .dead, .dead, .dead, .dead, .dead, .dead, .dead, .dead, .dead, .dead, .dead, .dead] [] [.box [.str, .bool], .box [.str, .bool]] [.s y1.1, .b y1.2.1, .s y2.1, .b y2.2.1])) r x4 x5 x6 x7) e
    have h3 : draymanlaw03_WireReads_l0_step draymanlaw03_awake wire_Reader_Int draymanref03_Reader_Int wire_Reader_Left draymanref03_Reader_Left wire_Reader_Done draymanref03_Reader_Done wire_Reader_Flag draymanref03_Reader_Flag wire_Reader_Text draymanref03_Reader_Text wire_Reader_List draymanref03_Reader_List (fun y1 y2 y3 => k .ret (encSt [.dead, .dead, .dead, .dead, .bool, .dead, .dead, .dead, .dead, .dead, .dead, .dead, .dead, .dead, .dead, .dead, .dead, .dead, .dead, .dead, .dead, .dead, .dead, .dead, .dead, .dead, .dead, .dead, .dead, .dead, .dead, .dead, .dead, .dead, .dead, .dead, .dead, .dead, .dead, .dead, .dead, .dead, .dead, .dead, .dead, .dead, .dead, .dead, .dead, .dead, .dead, .dead, .dead, .dead, .dead, .dead, .dead, .dead, .dead, .dead, .dead, .dead, .dead, .dead, .dead, .dead, .dead, .dead, .dead, .dead, .dead, .dead, .dead, .dead, .dead, .dead, .dead, .dead, .dead, .dead, .dead, .dead, .dead, .dead, .dead, .dead, .dead, .dead, .dead, .dead, .dead, .dead, .dead, .dead, .dead, .dead, .dead, .dead, .dead, .dead, .dead, .dead, .dead, .dead, .dead, .dead, .dead, .dead, .dead, .dead, .dead, .dead, .dead, .dead, .dead, .dead, .dead, .dead, .dead] [] [.box [.str, .bool], .box [.str, .bool]] [.b y1, .s y2.1, .b y2.2.1, .s y3.1, .b y3.2.1])) (fun y1 y2 => k (.exit 0) (encSt [.dead, .dead, .dead, .dead, .dead, .dead, .dead, .dead, .dead, .dead, .dead, .dead, .dead, .dead, .dead, .dead, .dead, .dead, .dead, .dead, .dead, .dead, .dead, .dead, .dead, .dead, .dead, .dead, .dead, .dead, .dead, .dead, .dead, .dead, .dead, .dead, .dead, .dead, .dead, .dead, .dead, .dead, .dead, .dead, .dead, .dead, .dead, .dead, .dead, .dead, .dead, .dead, .dead, .dead, .dead, .dead, .dead, .dead, .dead, .dead, .dead, .dead, .dead, .dead, .dead, .dead, .dead, .dead, .dead, .dead, .dead, .dead, .dead, .dead, .dead, .dead, .dead, .dead, .dead, .dead, .dead, .dead, .dead, .dead, .dead, .dead, .dead, .dead, .dead, .dead, .dead, .dead, .dead, .dead, .dead, .dead, .dead, .dead, .dead, .dead, .dead, .dead, .dead, .dead, .dead, .dead, .dead, .dead, .dead, .dead, .dead, .dead, .dead, .dead, .dead, .dead, .dead, .dead, .dead] [] [.box [.str, .bool], .box [.str, .bool]] [.s y1.1, .b y1.2.1, .s y2.1, .b y2.2.1])) (fun (x4 : Seq (Int × Int × Int × Unit)) (x5 : Int) (x6 : ByteArray × Bool × Unit) (x7 : ByteArray × Bool × Unit) => draymanlaw03_WireReads_l0_run draymanlaw03_awake wire_Reader_Int draymanref03_Reader_Int wire_Reader_Left draymanref03_Reader_Left wire_Reader_Done draymanref03_Reader_Done wire_Reader_Flag draymanref03_Reader_Flag wire_Reader_Text draymanref03_Reader_Text wire_Reader_List draymanref03_Reader_List (fun y1 y2 y3 => k .ret (encSt [.dead, .dead, .dead, .dead, .bool, .dead, .dead, .dead, .dead, .dead, .dead, .dead, .dead, .dead, .dead, .dead, .dead, .dead, .dead, .dead, .dead, .dead, .dead, .dead, .dead, .dead, .dead, .dead, .dead, .dead, .dead, .dead, .dead, .dead, .dead, .dead, .dead, .dead, .dead, .dead, .dead, .dead, .dead, .dead, .dead, .dead, .dead, .dead, .dead, .dead, .dead, .dead, .dead, .dead, .dead, .dead, .dead, .dead, .dead, .dead, .dead, .dead, .dead, .dead, .dead, .dead, .dead, .dead, .dead, .dead, .dead, .dead, .dead, .dead, .dead, .dead, .dead, .dead, .dead, .dead, .dead, .dead, .dead, .dead, .dead, .dead, .dead, .dead, .dead, .dead, .dead, .dead, .dead, .dead, .dead, .dead, .dead, .dead, .dead, .dead, .dead, .dead, .dead, .dead, .dead, .dead, .dead, .dead, .dead, .dead, .dead, .dead, .dead, .dead, .dead, .dead, .dead, .dead, .dead] [] [.box [.str, .bool], .box [.str, .bool]] [.b y1, .s y2.1, .b y2.2.1, .s y3.1, .b y3.2.1])) (fun y1 y2 => k (.exit 0) (encSt [.dead, .dead, .dead, .dead, .dead, .dead, .dead, .dead, .dead, .dead, .dead, .dead, .dead, .dead, .dead, .dead, .dead, .dead, .dead, .dead, .dead, .dead, .dead, .dead, .dead, .dead, .dead, .dead, .dead, .dead, .dead, .dead, .dead, .dead, .dead, .dead, .dead, .dead, .dead, .dead, .dead, .dead, .dead, .dead, .dead, .dead, .dead, .dead, .dead, .dead, .dead, .dead, .dead, .dead, .dead, .dead, .dead, .dead, .dead, .dead, .dead, .dead, .dead, .dead, .dead, .dead, .dead, .dead, .dead, .dead, .dead, .dead, .dead, .dead, .dead, .dead, .dead, .dead, .dead, .dead, .dead, .dead, .dead, .dead, .dead, .dead, .dead, .dead, .dead, .dead, .dead, .dead, .dead, .dead, .dead, .dead, .dead, .dead, .dead, .dead, .dead, .dead, .dead, .dead, .dead, .dead, .dead, .dead, .dead, .dead, .dead, .dead, .dead, .dead, .dead, .dead, .dead, .dead, .dead] [] [.box [.str, .bool], .box [.str, .bool]] [.s y1.1, .b y1.2.1, .s y2.1, .b y2.2.1])) n x4 x5 x6 x7) x4 x5 x6 x7 = draymanlaw03_WireReads_l0_run draymanlaw03_awake wire_Reader_Int draymanref03_Reader_Int wire_Reader_Left draymanref03_Reader_Left wire_Reader_Done draymanref03_Reader_Done wire_Reader_Flag draymanref03_Reader_Flag wire_Reader_Text draymanref03_Reader_Text wire_Reader_List draymanref03_Reader_List (fun y1 y2 y3 => k .ret (encSt [.dead, .dead, .dead, .dead, .bool, .dead, .dead, .dead, .dead, .dead, .dead, .dead, .dead, .dead, .dead, .dead, .dead, .dead, .dead, .dead, .dead, .dead, .dead, .dead, .dead, .dead, .dead, .dead, .dead, .dead, .dead, .dead, .dead, .dead, .dead, .dead, .dead, .dead, .dead, .dead, .dead, .dead, .dead, .dead, .dead, .dead, .dead, .dead, .dead, .dead, .dead, .dead, .dead, .dead, .dead, .dead, .dead, .dead, .dead, .dead, .dead, .dead, .dead, .dead, .dead, .dead, .dead, .dead, .dead, .dead, .dead, .dead, .dead, .dead, .dead, .dead, .dead, .dead, .dead, .dead, .dead, .dead, .dead, .dead, .dead, .dead, .dead, .dead, .dead, .dead, .dead, .dead, .dead, .dead, .dead, .dead, .dead, .dead, .dead, .dead, .dead, .dead, .dead, .dead, .dead, .dead, .dead, .dead, .dead, .dead, .dead, .dead, .dead, .dead, .dead, .dead, .dead, .dead, .dead] [] [.box [.str, .bool], .box [.str, .bool]] [.b y1, .s y2.1, .b y2.2.1, .s y3.1, .b y3.2.1])) (fun y1 y2 => k (.exit 0) (encSt [.dead, .dead, .dead, .dead, .dead, .dead, .dead, .dead, .dead, .dead, .dead, .dead, .dead, .dead, .dead, .dead, .dead, .dead, .dead, .dead, .dead, .dead, .dead, .dead, .dead, .dead, .dead, .dead, .dead, .dead, .dead, .dead, .dead, .dead, .dead, .dead, .dead, .dead, .dead, .dead, .dead, .dead, .dead, .dead, .dead, .dead, .dead, .dead, .dead, .dead, .dead, .dead, .dead, .dead, .dead, .dead, .dead, .dead, .dead, .dead, .dead, .dead, .dead, .dead, .dead, .dead, .dead, .dead, .dead, .dead, .dead, .dead, .dead, .dead, .dead, .dead, .dead, .dead, .dead, .dead, .dead, .dead, .dead, .dead, .dead, .dead, .dead, .dead, .dead, .dead, .dead, .dead, .dead, .dead, .dead, .dead, .dead, .dead, .dead, .dead, .dead, .dead, .dead, .dead, .dead, .dead, .dead, .dead, .dead, .dead, .dead, .dead, .dead, .dead, .dead, .dead, .dead, .dead, .dead] [] [.box [.str, .bool], .box [.str, .bool]] [.s y1.1, .b y1.2.1, .s y2.1, .b y2.2.1])) (n + 1) x4 x5 x6 x7 := by kernel_rfl
    exact h1.trans (h2.trans h3)

theorem draymanlaw03_WireReads_l0_ok {α : Type} (draymanlaw03_awake : draymanlaw03_awake_T α) (wire_Reader_Int : wire_Reader_Int_T α) (draymanref03_Reader_Int : draymanref03_Reader_Int_T α) (wire_Reader_Left : wire_Reader_Left_T α) (draymanref03_Reader_Left : draymanref03_Reader_Left_T α) (wire_Reader_Done : wire_Reader_Done_T α) (draymanref03_Reader_Done : draymanref03_Reader_Done_T α) (wire_Reader_Flag : wire_Reader_Flag_T α) (draymanref03_Reader_Flag : draymanref03_Reader_Flag_T α) (wire_Reader_Text : wire_Reader_Text_T α) (draymanref03_Reader_Text : draymanref03_Reader_Text_T α) (wire_Reader_List : wire_Reader_List_T α) (draymanref03_Reader_List : draymanref03_Reader_List_T α) : (draymanlaw03_WireReads_l0_spec draymanlaw03_awake wire_Reader_Int draymanref03_Reader_Int wire_Reader_Left draymanref03_Reader_Left wire_Reader_Done draymanref03_Reader_Done wire_Reader_Flag draymanref03_Reader_Flag wire_Reader_Text draymanref03_Reader_Text wire_Reader_List draymanref03_Reader_List : LoopSpec α).ok Go.Proofs.Try.prog (envOf (draymanlaw03_WireReads_C draymanlaw03_awake wire_Reader_Int draymanref03_Reader_Int wire_Reader_Left draymanref03_Reader_Left wire_Reader_Done draymanref03_Reader_Done wire_Reader_Flag draymanref03_Reader_Flag wire_Reader_Text draymanref03_Reader_Text wire_Reader_List draymanref03_Reader_List) draymanlaw03_WireReads_q draymanlaw03_WireReads_inl 1000 draymanlaw03_WireReads_ann false (draymanlaw03_WireReads_loops draymanlaw03_awake wire_Reader_Int draymanref03_Reader_Int wire_Reader_Left draymanref03_Reader_Left wire_Reader_Done draymanref03_Reader_Done wire_Reader_Flag draymanref03_Reader_Flag wire_Reader_Text draymanref03_Reader_Text wire_Reader_List draymanref03_Reader_List) (fun _ => none)) := by
  intro ds k
  have h1 : draymanlaw03_WireReads_l0_ev draymanlaw03_awake wire_Reader_Int draymanref03_Reader_Int wire_Reader_Left draymanref03_Reader_Left wire_Reader_Done draymanref03_Reader_Done wire_Reader_Flag draymanref03_Reader_Flag wire_Reader_Text draymanref03_Reader_Text wire_Reader_List draymanref03_Reader_List 1000 (encSt draymanlaw03_WireReads_l0_t draymanlaw03_WireReads_l0_s draymanlaw03_WireReads_l0_h ds) k = draymanlaw03_WireReads_l0_ev draymanlaw03_awake wire_Reader_Int draymanref03_Reader_Int wire_Reader_Left draymanref03_Reader_Left wire_Reader_Done draymanref03_Reader_Done wire_Reader_Flag draymanref03_Reader_Flag wire_Reader_Text draymanref03_Reader_Text wire_Reader_List draymanref03_Reader_List 1000 (encSt draymanlaw03_WireReads_l0_t draymanlaw03_WireReads_l0_s draymanlaw03_WireReads_l0_h [.q (.int .i64 (.int .i64 (.int .i64 (.nil)))) (hdQ (.int .i64 (.int .i64 (.int .i64 (.nil)))) ds), .i (hdI ds.tail), .s ((hdS ds.tail.tail, hdB ds.tail.tail.tail, ()).1), .b ((hdS ds.tail.tail, hdB ds.tail.tail.tail, ()).2.1), .s ((hdS ds.tail.tail.tail.tail, hdB ds.tail.tail.tail.tail.tail, ()).1), .b ((hdS ds.tail.tail.tail.tail, hdB ds.tail.tail.tail.tail.tail, ()).2.1)]) k := by kernel_rfl
  have h2 := draymanlaw03_WireReads_l0_eq draymanlaw03_awake wire_Reader_Int draymanref03_Reader_Int wire_Reader_Left draymanref03_Reader_Left wire_Reader_Done draymanref03_Reader_Done wire_Reader_Flag draymanref03_Reader_Flag wire_Reader_Text draymanref03_Reader_Text wire_Reader_List draymanref03_Reader_List 1000 (hdQ (.int .i64 (.int .i64 (.int .i64 (.nil)))) ds) (hdI ds.tail) (hdS ds.tail.tail, hdB ds.tail.tail.tail, ()) (hdS ds.tail.tail.tail.tail, hdB ds.tail.tail.tail.tail.tail, ()) k
  exact h1.trans h2

theorem draymanlaw03_WireReads_ev {α : Type} (draymanlaw03_awake : draymanlaw03_awake_T α) (wire_Reader_Int : wire_Reader_Int_T α) (draymanref03_Reader_Int : draymanref03_Reader_Int_T α) (wire_Reader_Left : wire_Reader_Left_T α) (draymanref03_Reader_Left : draymanref03_Reader_Left_T α) (wire_Reader_Done : wire_Reader_Done_T α) (draymanref03_Reader_Done : draymanref03_Reader_Done_T α) (wire_Reader_Flag : wire_Reader_Flag_T α) (draymanref03_Reader_Flag : draymanref03_Reader_Flag_T α) (wire_Reader_Text : wire_Reader_Text_T α) (draymanref03_Reader_Text : draymanref03_Reader_Text_T α) (wire_Reader_List : wire_Reader_List_T α) (draymanref03_Reader_List : draymanref03_Reader_List_T α) : EvOk (α := α) Go.Proofs.Try.prog (envOf (draymanlaw03_WireReads_C draymanlaw03_awake wire_Reader_Int draymanref03_Reader_Int wire_Reader_Left draymanref03_Reader_Left wire_Reader_Done draymanref03_Reader_Done wire_Reader_Flag draymanref03_Reader_Flag wire_Reader_Text draymanref03_Reader_Text wire_Reader_List draymanref03_Reader_List) draymanlaw03_WireReads_q draymanlaw03_WireReads_inl 1000 draymanlaw03_WireReads_ann false (draymanlaw03_WireReads_loops draymanlaw03_awake wire_Reader_Int draymanref03_Reader_Int wire_Reader_Left draymanref03_Reader_Left wire_Reader_Done draymanref03_Reader_Done wire_Reader_Flag draymanref03_Reader_Flag wire_Reader_Text draymanref03_Reader_Text wire_Reader_List draymanref03_Reader_List) (fun _ => none)) 6 (draymanlaw03_WireReads_sp (draymanlaw03_WireReads_g draymanlaw03_awake wire_Reader_Int draymanref03_Reader_Int wire_Reader_Left draymanref03_Reader_Left wire_Reader_Done draymanref03_Reader_Done wire_Reader_Flag draymanref03_Reader_Flag wire_Reader_Text draymanref03_Reader_Text wire_Reader_List draymanref03_Reader_List)) := by intro ds k; kernel_rfl

theorem draymanlaw03_WireReads_ok {α : Type} : (draymanlaw03_WireReads_spec : FunSpec α).ok Go.Proofs.Try.prog :=
  FunSpec.ok_of (sp := draymanlaw03_WireReads_spec) (C := draymanlaw03_WireReads_C draymanlaw03_awake wire_Reader_Int draymanref03_Reader_Int wire_Reader_Left draymanref03_Reader_Left wire_Reader_Done draymanref03_Reader_Done wire_Reader_Flag draymanref03_Reader_Flag wire_Reader_Text draymanref03_Reader_Text wire_Reader_List draymanref03_Reader_List) (q := draymanlaw03_WireReads_q) (inl := draymanlaw03_WireReads_inl) (N := 1000) (ann := draymanlaw03_WireReads_ann) (fr := false) (D := 6) (l := (draymanlaw03_WireReads_loops draymanlaw03_awake wire_Reader_Int draymanref03_Reader_Int wire_Reader_Left draymanref03_Reader_Left wire_Reader_Done draymanref03_Reader_Done wire_Reader_Flag draymanref03_Reader_Flag wire_Reader_Text draymanref03_Reader_Text wire_Reader_List draymanref03_Reader_List)) (hk := (fun _ => none)) (okCons draymanlaw03_awake_ok (okCons wire_Reader_Int_ok (okCons draymanref03_Reader_Int_ok (okCons wire_Reader_Left_ok (okCons draymanref03_Reader_Left_ok (okCons wire_Reader_Done_ok (okCons draymanref03_Reader_Done_ok (okCons wire_Reader_Flag_ok (okCons draymanref03_Reader_Flag_ok (okCons wire_Reader_Text_ok (okCons draymanref03_Reader_Text_ok (okCons wire_Reader_List_ok (okCons draymanref03_Reader_List_ok okNil))))))))))))) (lokCons (draymanlaw03_WireReads_l0_ok draymanlaw03_awake wire_Reader_Int draymanref03_Reader_Int wire_Reader_Left draymanref03_Reader_Left wire_Reader_Done draymanref03_Reader_Done wire_Reader_Flag draymanref03_Reader_Flag wire_Reader_Text draymanref03_Reader_Text wire_Reader_List draymanref03_Reader_List) lokNil) noHooks (draymanlaw03_WireReads_ev draymanlaw03_awake wire_Reader_Int draymanref03_Reader_Int wire_Reader_Left draymanref03_Reader_Left wire_Reader_Done draymanref03_Reader_Done wire_Reader_Flag draymanref03_Reader_Flag wire_Reader_Text draymanref03_Reader_Text wire_Reader_List draymanref03_Reader_List)

end
end Go.Rv.Try

set_option linter.unusedVariables false
set_option maxRecDepth 100000
set_option maxHeartbeats 4000000
namespace Go.Rv.Try
open Go Go.Rv Go.RowKit
noncomputable section

-- (*drayman/wire.Reader).Int

abbrev wire_Reader_Int_s1_T (α : Type) : Type := Int → Int → (Int → Option α) → Option α

noncomputable def wire_Reader_Int_s1 {α : Type} (low1 : Int) (high2 : Int) (k : Int → Option α) : Option α :=
  (k 0)

noncomputable def wire_Reader_Int_s1_sp {α : Type} (wire_Reader_Int_s1 : wire_Reader_Int_s1_T α) : FunSpec α := ⟨41, [.nilp, .int .i64, .int .i64], [], fun ds k => wire_Reader_Int_s1 (hdI ds) (hdI ds.tail) (fun r1 => k (enc dep (.int .i64) [.i r1]).1 [])⟩

noncomputable def wire_Reader_Int_s1_spec {α : Type} : FunSpec α := wire_Reader_Int_s1_sp wire_Reader_Int_s1

noncomputable def wire_Reader_Int_s1_C {α : Type} : List (FunSpec α) := []

noncomputable def wire_Reader_Int_s1_q : FuncId → Bool := fun f => false

noncomputable def wire_Reader_Int_s1_inl : FuncId → Bool := fun f => Nat.beq f 78

noncomputable def wire_Reader_Int_s1_ann : FuncId → AnnT := fun f p => ⟨[], [], [], [], 0, [], []⟩

noncomputable def wire_Reader_Int_s1_loops {α : Type} : List (LoopSpec α) := []

theorem wire_Reader_Int_s1_ev {α : Type} : EvOk (α := α) Go.Proofs.Try.prog (envOf (wire_Reader_Int_s1_C) wire_Reader_Int_s1_q wire_Reader_Int_s1_inl 1000 wire_Reader_Int_s1_ann false (wire_Reader_Int_s1_loops) (fun _ => none)) 6 (wire_Reader_Int_s1_sp (wire_Reader_Int_s1)) := by intro ds k; kernel_rfl

theorem wire_Reader_Int_s1_ok {α : Type} : (wire_Reader_Int_s1_spec : FunSpec α).ok Go.Proofs.Try.prog :=
  FunSpec.ok_of (sp := wire_Reader_Int_s1_spec) (C := wire_Reader_Int_s1_C) (q := wire_Reader_Int_s1_q) (inl := wire_Reader_Int_s1_inl) (N := 1000) (ann := wire_Reader_Int_s1_ann) (fr := false) (D := 6) (l := (wire_Reader_Int_s1_loops)) (hk := (fun _ => none)) okNil lokNil noHooks (wire_Reader_Int_s1_ev)

end
end Go.Rv.Try

set_option linter.unusedVariables false
set_option maxRecDepth 100000
set_option maxHeartbeats 4000000
namespace Go.Rv.Try
open Go Go.Rv Go.RowKit
noncomputable section

-- (*drayman/wire.Reader).Flag

abbrev wire_Reader_Flag_s1_T (α : Type) : Type := (Bool → Option α) → Option α

noncomputable def wire_Reader_Flag_s1 {α : Type} (k : Bool → Option α) : Option α :=
  (k false)

noncomputable def wire_Reader_Flag_s1_sp {α : Type} (wire_Reader_Flag_s1 : wire_Reader_Flag_s1_T α) : FunSpec α := ⟨43, [.nilp], [], fun ds k => wire_Reader_Flag_s1  (fun r1 => k (enc dep (.bool) [.b r1]).1 [])⟩

noncomputable def wire_Reader_Flag_s1_spec {α : Type} : FunSpec α := wire_Reader_Flag_s1_sp wire_Reader_Flag_s1

noncomputable def wire_Reader_Flag_s1_C {α : Type} : List (FunSpec α) := []

noncomputable def wire_Reader_Flag_s1_q : FuncId → Bool := fun f => false

noncomputable def wire_Reader_Flag_s1_inl : FuncId → Bool := fun f => Nat.beq f 78

noncomputable def wire_Reader_Flag_s1_ann : FuncId → AnnT := fun f p => ⟨[], [], [], [], 0, [], []⟩

noncomputable def wire_Reader_Flag_s1_loops {α : Type} : List (LoopSpec α) := []

theorem wire_Reader_Flag_s1_ev {α : Type} : EvOk (α := α) Go.Proofs.Try.prog (envOf (wire_Reader_Flag_s1_C) wire_Reader_Flag_s1_q wire_Reader_Flag_s1_inl 1000 wire_Reader_Flag_s1_ann false (wire_Reader_Flag_s1_loops) (fun _ => none)) 6 (wire_Reader_Flag_s1_sp (wire_Reader_Flag_s1)) := by intro ds k; kernel_rfl

theorem wire_Reader_Flag_s1_ok {α : Type} : (wire_Reader_Flag_s1_spec : FunSpec α).ok Go.Proofs.Try.prog :=
  FunSpec.ok_of (sp := wire_Reader_Flag_s1_spec) (C := wire_Reader_Flag_s1_C) (q := wire_Reader_Flag_s1_q) (inl := wire_Reader_Flag_s1_inl) (N := 1000) (ann := wire_Reader_Flag_s1_ann) (fr := false) (D := 6) (l := (wire_Reader_Flag_s1_loops)) (hk := (fun _ => none)) okNil lokNil noHooks (wire_Reader_Flag_s1_ev)

end
end Go.Rv.Try

set_option linter.unusedVariables false
set_option maxRecDepth 100000
set_option maxHeartbeats 4000000
namespace Go.Rv.Try
open Go Go.Rv Go.RowKit
noncomputable section

-- (*drayman/wire.Reader).Text

abbrev wire_Reader_Text_s1_T (α : Type) : Type := Int → (ByteArray → Option α) → Option α

noncomputable def wire_Reader_Text_s1_g {α : Type} (wire_Reader_Int_s1 : wire_Reader_Int_s1_T α) (most1 : Int) (k : ByteArray → Option α) : Option α :=
  (wire_Reader_Int_s1 0 most1 fun r2 =>
    (k (⟨#[]⟩ : ByteArray)))

noncomputable def wire_Reader_Text_s1 {α : Type} : wire_Reader_Text_s1_T α := wire_Reader_Text_s1_g wire_Reader_Int_s1

noncomputable def wire_Reader_Text_s1_sp {α : Type} (wire_Reader_Text_s1 : wire_Reader_Text_s1_T α) : FunSpec α := ⟨45, [.nilp, .int .i64], [], fun ds k => wire_Reader_Text_s1 (hdI ds) (fun r1 => k (enc dep (.str) [.s r1]).1 [])⟩

noncomputable def wire_Reader_Text_s1_spec {α : Type} : FunSpec α := wire_Reader_Text_s1_sp wire_Reader_Text_s1

noncomputable def wire_Reader_Text_s1_C {α : Type} (wire_Reader_Int_s1 : wire_Reader_Int_s1_T α) : List (FunSpec α) := [wire_Reader_Int_s1_sp wire_Reader_Int_s1]

noncomputable def wire_Reader_Text_s1_q : FuncId → Bool := fun f => Nat.beq f 41

noncomputable def wire_Reader_Text_s1_inl : FuncId → Bool := fun f => Nat.beq f 78

noncomputable def wire_Reader_Text_s1_ann : FuncId → AnnT := fun f p => ⟨[], [], [], [], 0, [], []⟩

noncomputable def wire_Reader_Text_s1_loops {α : Type} (wire_Reader_Int_s1 : wire_Reader_Int_s1_T α) : List (LoopSpec α) := []

theorem wire_Reader_Text_s1_ev {α : Type} (wire_Reader_Int_s1 : wire_Reader_Int_s1_T α) : EvOk (α := α) Go.Proofs.Try.prog (envOf (wire_Reader_Text_s1_C wire_Reader_Int_s1) wire_Reader_Text_s1_q wire_Reader_Text_s1_inl 1000 wire_Reader_Text_s1_ann false (wire_Reader_Text_s1_loops wire_Reader_Int_s1) (fun _ => none)) 6 (wire_Reader_Text_s1_sp (wire_Reader_Text_s1_g wire_Reader_Int_s1)) := by intro ds k; kernel_rfl

theorem wire_Reader_Text_s1_ok {α : Type} : (wire_Reader_Text_s1_spec : FunSpec α).ok Go.Proofs.Try.prog :=
  FunSpec.ok_of (sp := wire_Reader_Text_s1_spec) (C := wire_Reader_Text_s1_C wire_Reader_Int_s1) (q := wire_Reader_Text_s1_q) (inl := wire_Reader_Text_s1_inl) (N := 1000) (ann := wire_Reader_Text_s1_ann) (fr := false) (D := 6) (l := (wire_Reader_Text_s1_loops wire_Reader_Int_s1)) (hk := (fun _ => none)) (okCons wire_Reader_Int_s1_ok okNil) lokNil noHooks (wire_Reader_Text_s1_ev wire_Reader_Int_s1)

end
end Go.Rv.Try

set_option linter.unusedVariables false
set_option maxRecDepth 100000
set_option maxHeartbeats 4000000
namespace Go.Rv.Try
open Go Go.Rv Go.RowKit
noncomputable section

-- (*drayman/wire.Reader).List

abbrev wire_Reader_List_s1_T (α : Type) : Type := Int → (Int → Option α) → Option α

noncomputable def wire_Reader_List_s1_g {α : Type} (wire_Reader_Int_s1 : wire_Reader_Int_s1_T α) (most1 : Int) (k : Int → Option α) : Option α :=
  (wire_Reader_Int_s1 0 most1 fun r2 =>
    (k 0))

noncomputable def wire_Reader_List_s1 {α : Type} : wire_Reader_List_s1_T α := wire_Reader_List_s1_g wire_Reader_Int_s1

noncomputable def wire_Reader_List_s1_sp {α : Type} (wire_Reader_List_s1 : wire_Reader_List_s1_T α) : FunSpec α := ⟨47, [.nilp, .int .i64], [], fun ds k => wire_Reader_List_s1 (hdI ds) (fun r1 => k (enc dep (.int .i64) [.i r1]).1 [])⟩

noncomputable def wire_Reader_List_s1_spec {α : Type} : FunSpec α := wire_Reader_List_s1_sp wire_Reader_List_s1

noncomputable def wire_Reader_List_s1_C {α : Type} (wire_Reader_Int_s1 : wire_Reader_Int_s1_T α) : List (FunSpec α) := [wire_Reader_Int_s1_sp wire_Reader_Int_s1]

noncomputable def wire_Reader_List_s1_q : FuncId → Bool := fun f => Nat.beq f 41

noncomputable def wire_Reader_List_s1_inl : FuncId → Bool := fun f => Nat.beq f 78

noncomputable def wire_Reader_List_s1_ann : FuncId → AnnT := fun f p => ⟨[], [], [], [], 0, [], []⟩

noncomputable def wire_Reader_List_s1_loops {α : Type} (wire_Reader_Int_s1 : wire_Reader_Int_s1_T α) : List (LoopSpec α) := []

theorem wire_Reader_List_s1_ev {α : Type} (wire_Reader_Int_s1 : wire_Reader_Int_s1_T α) : EvOk (α := α) Go.Proofs.Try.prog (envOf (wire_Reader_List_s1_C wire_Reader_Int_s1) wire_Reader_List_s1_q wire_Reader_List_s1_inl 1000 wire_Reader_List_s1_ann false (wire_Reader_List_s1_loops wire_Reader_Int_s1) (fun _ => none)) 6 (wire_Reader_List_s1_sp (wire_Reader_List_s1_g wire_Reader_Int_s1)) := by intro ds k; kernel_rfl

theorem wire_Reader_List_s1_ok {α : Type} : (wire_Reader_List_s1_spec : FunSpec α).ok Go.Proofs.Try.prog :=
  FunSpec.ok_of (sp := wire_Reader_List_s1_spec) (C := wire_Reader_List_s1_C wire_Reader_Int_s1) (q := wire_Reader_List_s1_q) (inl := wire_Reader_List_s1_inl) (N := 1000) (ann := wire_Reader_List_s1_ann) (fr := false) (D := 6) (l := (wire_Reader_List_s1_loops wire_Reader_Int_s1)) (hk := (fun _ => none)) (okCons wire_Reader_Int_s1_ok okNil) lokNil noHooks (wire_Reader_List_s1_ev wire_Reader_Int_s1)

end
end Go.Rv.Try

set_option linter.unusedVariables false
set_option maxRecDepth 100000
set_option maxHeartbeats 4000000
namespace Go.Rv.Try
open Go Go.Rv Go.RowKit
noncomputable section

-- (*drayman/wire.Reader).Left

abbrev wire_Reader_Left_s1_T (α : Type) : Type := (Int → Option α) → Option α

noncomputable def wire_Reader_Left_s1 {α : Type} (k : Int → Option α) : Option α :=
  (k 0)

noncomputable def wire_Reader_Left_s1_sp {α : Type} (wire_Reader_Left_s1 : wire_Reader_Left_s1_T α) : FunSpec α := ⟨49, [.nilp], [], fun ds k => wire_Reader_Left_s1  (fun r1 => k (enc dep (.int .i64) [.i r1]).1 [])⟩

noncomputable def wire_Reader_Left_s1_spec {α : Type} : FunSpec α := wire_Reader_Left_s1_sp wire_Reader_Left_s1

noncomputable def wire_Reader_Left_s1_C {α : Type} : List (FunSpec α) := []

noncomputable def wire_Reader_Left_s1_q : FuncId → Bool := fun f => false

noncomputable def wire_Reader_Left_s1_inl : FuncId → Bool := fun f => false

noncomputable def wire_Reader_Left_s1_ann : FuncId → AnnT := fun f p => ⟨[], [], [], [], 0, [], []⟩

noncomputable def wire_Reader_Left_s1_loops {α : Type} : List (LoopSpec α) := []

theorem wire_Reader_Left_s1_ev {α : Type} : EvOk (α := α) Go.Proofs.Try.prog (envOf (wire_Reader_Left_s1_C) wire_Reader_Left_s1_q wire_Reader_Left_s1_inl 1000 wire_Reader_Left_s1_ann false (wire_Reader_Left_s1_loops) (fun _ => none)) 6 (wire_Reader_Left_s1_sp (wire_Reader_Left_s1)) := by intro ds k; kernel_rfl

theorem wire_Reader_Left_s1_ok {α : Type} : (wire_Reader_Left_s1_spec : FunSpec α).ok Go.Proofs.Try.prog :=
  FunSpec.ok_of (sp := wire_Reader_Left_s1_spec) (C := wire_Reader_Left_s1_C) (q := wire_Reader_Left_s1_q) (inl := wire_Reader_Left_s1_inl) (N := 1000) (ann := wire_Reader_Left_s1_ann) (fr := false) (D := 6) (l := (wire_Reader_Left_s1_loops)) (hk := (fun _ => none)) okNil lokNil noHooks (wire_Reader_Left_s1_ev)

end
end Go.Rv.Try

set_option linter.unusedVariables false
set_option maxRecDepth 100000
set_option maxHeartbeats 4000000
namespace Go.Rv.Try
open Go Go.Rv Go.RowKit
noncomputable section

-- (*drayman/wire.Reader).Done

abbrev wire_Reader_Done_s1_T (α : Type) : Type := (Bool → Option α) → Option α

noncomputable def wire_Reader_Done_s1 {α : Type} (k : Bool → Option α) : Option α :=
  (k false)

noncomputable def wire_Reader_Done_s1_sp {α : Type} (wire_Reader_Done_s1 : wire_Reader_Done_s1_T α) : FunSpec α := ⟨51, [.nilp], [], fun ds k => wire_Reader_Done_s1  (fun r1 => k (enc dep (.bool) [.b r1]).1 [])⟩

noncomputable def wire_Reader_Done_s1_spec {α : Type} : FunSpec α := wire_Reader_Done_s1_sp wire_Reader_Done_s1

noncomputable def wire_Reader_Done_s1_C {α : Type} : List (FunSpec α) := []

noncomputable def wire_Reader_Done_s1_q : FuncId → Bool := fun f => false

noncomputable def wire_Reader_Done_s1_inl : FuncId → Bool := fun f => false

noncomputable def wire_Reader_Done_s1_ann : FuncId → AnnT := fun f p => ⟨[], [], [], [], 0, [], []⟩

noncomputable def wire_Reader_Done_s1_loops {α : Type} : List (LoopSpec α) := []

theorem wire_Reader_Done_s1_ev {α : Type} : EvOk (α := α) Go.Proofs.Try.prog (envOf (wire_Reader_Done_s1_C) wire_Reader_Done_s1_q wire_Reader_Done_s1_inl 1000 wire_Reader_Done_s1_ann false (wire_Reader_Done_s1_loops) (fun _ => none)) 6 (wire_Reader_Done_s1_sp (wire_Reader_Done_s1)) := by intro ds k; kernel_rfl

theorem wire_Reader_Done_s1_ok {α : Type} : (wire_Reader_Done_s1_spec : FunSpec α).ok Go.Proofs.Try.prog :=
  FunSpec.ok_of (sp := wire_Reader_Done_s1_spec) (C := wire_Reader_Done_s1_C) (q := wire_Reader_Done_s1_q) (inl := wire_Reader_Done_s1_inl) (N := 1000) (ann := wire_Reader_Done_s1_ann) (fr := false) (D := 6) (l := (wire_Reader_Done_s1_loops)) (hk := (fun _ => none)) okNil lokNil noHooks (wire_Reader_Done_s1_ev)

end
end Go.Rv.Try

set_option linter.unusedVariables false
set_option maxRecDepth 100000
set_option maxHeartbeats 4000000
namespace Go.Rv.Try
open Go Go.Rv Go.RowKit
noncomputable section

-- drayman/draymanlaw03.WireNobody

abbrev draymanlaw03_WireNobody_T (α : Type) : Type := Int → Int → (Bool → Option α) → Option α

noncomputable def draymanlaw03_WireNobody_g {α : Type} (wire_Reader_Int_s1 : wire_Reader_Int_s1_T α) (wire_Reader_Flag_s1 : wire_Reader_Flag_s1_T α) (wire_Reader_Text_s1 : wire_Reader_Text_s1_T α) (wire_Reader_List_s1 : wire_Reader_List_s1_T α) (wire_Reader_Left_s1 : wire_Reader_Left_s1_T α) (wire_Reader_Done_s1 : wire_Reader_Done_s1_T α) (wire_Reader_Int : wire_Reader_Int_T α) (wire_Reader_Flag : wire_Reader_Flag_T α) (wire_Reader_Text : wire_Reader_Text_T α) (wire_Reader_List : wire_Reader_List_T α) (wire_Reader_Left : wire_Reader_Left_T α) (wire_Reader_Done : wire_Reader_Done_T α) (draymanlaw03_awake : draymanlaw03_awake_T α) (low1 : Int) (high2 : Int) (k : Bool → Option α) : Option α :=
  (wire_Reader_Int_s1 low1 high2 fun r3 =>
    (cond (!(r3 != 0))
      (wire_Reader_Flag_s1 fun r4 =>
        (cond (!r4)
          (wire_Reader_Text_s1 high2 fun r5 =>
            (cond (!(!(r5.toList == (⟨#[]⟩ : ByteArray).toList)))
              (wire_Reader_List_s1 high2 fun r6 =>
                (cond (!(r6 != 0))
                  (wire_Reader_Left_s1 fun r7 =>
                    (cond (!(r7 != 0))
                      (wire_Reader_Done_s1 fun r8 =>
                        (cond r8
                          (k false)
                          (wire_Reader_Int low1 high2 ((⟨#[]⟩ : ByteArray), false, ()) fun r9 r10 =>
                            (cond (!(r9 != 0))
                              (wire_Reader_Flag r10 fun r11 r12 =>
                                (cond (!r11)
                                  (wire_Reader_Text high2 r12 fun r13 r14 =>
                                    (cond (!(!(r13.toList == (⟨#[]⟩ : ByteArray).toList)))
                                      (wire_Reader_List high2 r14 fun r15 r16 =>
                                        (cond (!(r15 != 0))
                                          (wire_Reader_Left r16 fun r17 r18 =>
                                            (cond (!(r17 != 0))
                                              (wire_Reader_Done r18 fun r19 r20 =>
                                                (cond r19
                                                  (k false)
                                                  (draymanlaw03_awake fun r21 =>
                                                    (k r21))))
                                              (k false)))
                                          (k false)))
                                      (k false)))
                                  (k false)))
                              (k false)))))
                      (k false)))
                  (k false)))
              (k false)))
          (k false)))
      (k false)))

noncomputable def draymanlaw03_WireNobody {α : Type} : draymanlaw03_WireNobody_T α := draymanlaw03_WireNobody_g wire_Reader_Int_s1 wire_Reader_Flag_s1 wire_Reader_Text_s1 wire_Reader_List_s1 wire_Reader_Left_s1 wire_Reader_Done_s1 wire_Reader_Int wire_Reader_Flag wire_Reader_Text wire_Reader_List wire_Reader_Left wire_Reader_Done draymanlaw03_awake

noncomputable def draymanlaw03_WireNobody_sp {α : Type} (draymanlaw03_WireNobody : draymanlaw03_WireNobody_T α) : FunSpec α := ⟨9, [.int .i64, .int .i64], [], fun ds k => draymanlaw03_WireNobody (hdI ds) (hdI ds.tail) (fun r1 => k (enc dep (.bool) [.b r1]).1 [])⟩

noncomputable def draymanlaw03_WireNobody_spec {α : Type} : FunSpec α := draymanlaw03_WireNobody_sp draymanlaw03_WireNobody

noncomputable def draymanlaw03_WireNobody_C {α : Type} (wire_Reader_Int_s1 : wire_Reader_Int_s1_T α) (wire_Reader_Flag_s1 : wire_Reader_Flag_s1_T α) (wire_Reader_Text_s1 : wire_Reader_Text_s1_T α) (wire_Reader_List_s1 : wire_Reader_List_s1_T α) (wire_Reader_Left_s1 : wire_Reader_Left_s1_T α) (wire_Reader_Done_s1 : wire_Reader_Done_s1_T α) (wire_Reader_Int : wire_Reader_Int_T α) (wire_Reader_Flag : wire_Reader_Flag_T α) (wire_Reader_Text : wire_Reader_Text_T α) (wire_Reader_List : wire_Reader_List_T α) (wire_Reader_Left : wire_Reader_Left_T α) (wire_Reader_Done : wire_Reader_Done_T α) (draymanlaw03_awake : draymanlaw03_awake_T α) : List (FunSpec α) := [wire_Reader_Int_s1_sp wire_Reader_Int_s1, wire_Reader_Flag_s1_sp wire_Reader_Flag_s1, wire_Reader_Text_s1_sp wire_Reader_Text_s1, wire_Reader_List_s1_sp wire_Reader_List_s1, wire_Reader_Left_s1_sp wire_Reader_Left_s1, wire_Reader_Done_s1_sp wire_Reader_Done_s1, wire_Reader_Int_sp wire_Reader_Int, wire_Reader_Flag_sp wire_Reader_Flag, wire_Reader_Text_sp wire_Reader_Text, wire_Reader_List_sp wire_Reader_List, wire_Reader_Left_sp wire_Reader_Left, wire_Reader_Done_sp wire_Reader_Done, draymanlaw03_awake_sp draymanlaw03_awake]

noncomputable def draymanlaw03_WireNobody_q : FuncId → Bool := fun f => Nat.beq f 39 || Nat.beq f 41 || Nat.beq f 43 || Nat.beq f 45 || Nat.beq f 47 || Nat.beq f 49 || Nat.beq f 51

noncomputable def draymanlaw03_WireNobody_inl : FuncId → Bool := fun f => false

noncomputable def draymanlaw03_WireNobody_ann : FuncId → AnnT := fun f p => if f = 9 then (if p = [true, false, true, true] then ⟨[0, 1, 5, 6], [0, 1, 2, 3, 4, 5, 6, 7, 8, 9, 10, 11, 12, 13, 14, 15, 16, 17, 18, 19, 20, 21, 22, 23, 24, 25, 26, 27, 28, 29, 30, 31, 32, 33, 34, 35, 36, 37, 38, 39, 40, 41, 42, 43, 44, 45, 46, 47], [], [4], 0, [], []⟩ else ⟨[], [], [], [], 0, [], []⟩) else ⟨[], [], [], [], 0, [], []⟩

noncomputable def draymanlaw03_WireNobody_loops {α : Type} (wire_Reader_Int_s1 : wire_Reader_Int_s1_T α) (wire_Reader_Flag_s1 : wire_Reader_Flag_s1_T α) (wire_Reader_Text_s1 : wire_Reader_Text_s1_T α) (wire_Reader_List_s1 : wire_Reader_List_s1_T α) (wire_Reader_Left_s1 : wire_Reader_Left_s1_T α) (wire_Reader_Done_s1 : wire_Reader_Done_s1_T α) (wire_Reader_Int : wire_Reader_Int_T α) (wire_Reader_Flag : wire_Reader_Flag_T α) (wire_Reader_Text : wire_Reader_Text_T α) (wire_Reader_List : wire_Reader_List_T α) (wire_Reader_Left : wire_Reader_Left_T α) (wire_Reader_Done : wire_Reader_Done_T α) (draymanlaw03_awake : draymanlaw03_awake_T α) : List (LoopSpec α) := []

theorem draymanlaw03_WireNobody_ev {α : Type} (wire_Reader_Int_s1 : wire_Reader_Int_s1_T α) (wire_Reader_Flag_s1 : wire_Reader_Flag_s1_T α) (wire_Reader_Text_s1 : wire_Reader_Text_s1_T α) (wire_Reader_List_s1 : wire_Reader_List_s1_T α) (wire_Reader_Left_s1 : wire_Reader_Left_s1_T α) (wire_Reader_Done_s1 : wire_Reader_Done_s1_T α) (wire_Reader_Int : wire_Reader_Int_T α) (wire_Reader_Flag : wire_Reader_Flag_T α) (wire_Reader_Text : wire_Reader_Text_T α) (wire_Reader_List : wire_Reader_List_T α) (wire_Reader_Left : wire_Reader_Left_T α) (wire_Reader_Done : wire_Reader_Done_T α) (draymanlaw03_awake : draymanlaw03_awake_T α) : EvOk (α := α) Go.Proofs.Try.prog (envOf (draymanlaw03_WireNobody_C wire_Reader_Int_s1 wire_Reader_Flag_s1 wire_Reader_Text_s1 wire_Reader_List_s1 wire_Reader_Left_s1 wire_Reader_Done_s1 wire_Reader_Int wire_Reader_Flag wire_Reader_Text wire_Reader_List wire_Reader_Left wire_Reader_Done draymanlaw03_awake) draymanlaw03_WireNobody_q draymanlaw03_WireNobody_inl 1000 draymanlaw03_WireNobody_ann false (draymanlaw03_WireNobody_loops wire_Reader_Int_s1 wire_Reader_Flag_s1 wire_Reader_Text_s1 wire_Reader_List_s1 wire_Reader_Left_s1 wire_Reader_Done_s1 wire_Reader_Int wire_Reader_Flag wire_Reader_Text wire_Reader_List wire_Reader_Left wire_Reader_Done draymanlaw03_awake) (fun _ => none)) 6 (draymanlaw03_WireNobody_sp (draymanlaw03_WireNobody_g wire_Reader_Int_s1 wire_Reader_Flag_s1 wire_Reader_Text_s1 wire_Reader_List_s1 wire_Reader_Left_s1 wire_Reader_Done_s1 wire_Reader_Int wire_Reader_Flag wire_Reader_Text wire_Reader_List wire_Reader_Left wire_Reader_Done draymanlaw03_awake)) := by intro ds k; kernel_rfl

theorem draymanlaw03_WireNobody_ok {α : Type} : (draymanlaw03_WireNobody_spec : FunSpec α).ok Go.Proofs.Try.prog :=
  FunSpec.ok_of (sp := draymanlaw03_WireNobody_spec) (C := draymanlaw03_WireNobody_C wire_Reader_Int_s1 wire_Reader_Flag_s1 wire_Reader_Text_s1 wire_Reader_List_s1 wire_Reader_Left_s1 wire_Reader_Done_s1 wire_Reader_Int wire_Reader_Flag wire_Reader_Text wire_Reader_List wire_Reader_Left wire_Reader_Done draymanlaw03_awake) (q := draymanlaw03_WireNobody_q) (inl := draymanlaw03_WireNobody_inl) (N := 1000) (ann := draymanlaw03_WireNobody_ann) (fr := false) (D := 6) (l := (draymanlaw03_WireNobody_loops wire_Reader_Int_s1 wire_Reader_Flag_s1 wire_Reader_Text_s1 wire_Reader_List_s1 wire_Reader_Left_s1 wire_Reader_Done_s1 wire_Reader_Int wire_Reader_Flag wire_Reader_Text wire_Reader_List wire_Reader_Left wire_Reader_Done draymanlaw03_awake)) (hk := (fun _ => none)) (okCons wire_Reader_Int_s1_ok (okCons wire_Reader_Flag_s1_ok (okCons wire_Reader_Text_s1_ok (okCons wire_Reader_List_s1_ok (okCons wire_Reader_Left_s1_ok (okCons wire_Reader_Done_s1_ok (okCons wire_Reader_Int_ok (okCons wire_Reader_Flag_ok (okCons wire_Reader_Text_ok (okCons wire_Reader_List_ok (okCons wire_Reader_Left_ok (okCons wire_Reader_Done_ok (okCons draymanlaw03_awake_ok okNil))))))))))))) lokNil noHooks (draymanlaw03_WireNobody_ev wire_Reader_Int_s1 wire_Reader_Flag_s1 wire_Reader_Text_s1 wire_Reader_List_s1 wire_Reader_Left_s1 wire_Reader_Done_s1 wire_Reader_Int wire_Reader_Flag wire_Reader_Text wire_Reader_List wire_Reader_Left wire_Reader_Done draymanlaw03_awake)

end
end Go.Rv.Try

set_option linter.unusedVariables false
set_option maxRecDepth 100000
set_option maxHeartbeats 4000000
namespace Go.Rv.Try
open Go Go.Rv Go.RowKit
noncomputable section

-- drayman/draymanref03.place

abbrev draymanref03_place_T (α : Type) : Type := Int → (Int → Option α) → Option α

noncomputable def draymanref03_place {α : Type} (n1 : Int) (k : Int → Option α) : Option α :=
  (cond (decide (n1 < 0))
    (k (IntKind.u64.wrap ((IntKind.u64.wrap (2 * (IntKind.u64.wrap (IntKind.i64.wrap (0 - (IntKind.i64.wrap (n1 + 1))))))) + 1)))
    (k (IntKind.u64.wrap (2 * (IntKind.u64.wrap n1)))))

noncomputable def draymanref03_place_sp {α : Type} (draymanref03_place : draymanref03_place_T α) : FunSpec α := ⟨82, [.int .i64], [], fun ds k => draymanref03_place (hdI ds) (fun r1 => k (enc dep (.int .u64) [.i r1]).1 [])⟩

noncomputable def draymanref03_place_spec {α : Type} : FunSpec α := draymanref03_place_sp draymanref03_place

noncomputable def draymanref03_place_C {α : Type} : List (FunSpec α) := []

noncomputable def draymanref03_place_q : FuncId → Bool := fun f => false

noncomputable def draymanref03_place_inl : FuncId → Bool := fun f => false

noncomputable def draymanref03_place_ann : FuncId → AnnT := fun f p => ⟨[], [], [], [], 0, [], []⟩

noncomputable def draymanref03_place_loops {α : Type} : List (LoopSpec α) := []

theorem draymanref03_place_ev {α : Type} : EvOk (α := α) Go.Proofs.Try.prog (envOf (draymanref03_place_C) draymanref03_place_q draymanref03_place_inl 1000 draymanref03_place_ann false (draymanref03_place_loops) (fun _ => none)) 6 (draymanref03_place_sp (draymanref03_place)) := by intro ds k; kernel_rfl

theorem draymanref03_place_ok {α : Type} : (draymanref03_place_spec : FunSpec α).ok Go.Proofs.Try.prog :=
  FunSpec.ok_of (sp := draymanref03_place_spec) (C := draymanref03_place_C) (q := draymanref03_place_q) (inl := draymanref03_place_inl) (N := 1000) (ann := draymanref03_place_ann) (fr := false) (D := 6) (l := (draymanref03_place_loops)) (hk := (fun _ => none)) okNil lokNil noHooks (draymanref03_place_ev)

end
end Go.Rv.Try

set_option linter.unusedVariables false
set_option maxRecDepth 100000
set_option maxHeartbeats 4000000
namespace Go.Rv.Try
open Go Go.Rv Go.RowKit
noncomputable section

-- drayman/draymanref03.Int

abbrev draymanref03_Int_T (α : Type) : Type := Int → (ByteArray → Option α) → Option α

noncomputable def draymanref03_Int_l0_step {α : Type} (draymanref03_place : draymanref03_place_T α) (k0 : (ByteArray) → (Int) → Option α) (rec : (Int) → (ByteArray) → (Int) → Option α) (p3 : Int) (s4 : ByteArray) (x5 : Int) : Option α :=
  (cond (decide (p3 > 0))
    (cond (decide (((((bytesT 1 (fun _ => ((IntKind.u8.wrap (Int.tmod p3 256)), ())))).size + (s4).size : Nat) : Int) ≤ IntKind.i64.max))
      (rec (IntKind.u64.wrap (Int.tdiv p3 256)) ((bytesT 1 (fun _ => ((IntKind.u8.wrap (Int.tmod p3 256)), ()))) ++ s4) (IntKind.i64.wrap (x5 + 1)))
      none)
    (k0 s4 x5))

noncomputable def draymanref03_Int_l0_run {α : Type} (draymanref03_place : draymanref03_place_T α) (k0 : (ByteArray) → (Int) → Option α) : Nat → (Int) → (ByteArray) → (Int) → Option α
  | 0, _, _, _ => none
  | n + 1, p3, s4, x5 => draymanref03_Int_l0_step draymanref03_place k0 (fun p3 s4 x5 => draymanref03_Int_l0_run draymanref03_place k0 n p3 s4 x5) p3 s4 x5

noncomputable def draymanref03_Int_g {α : Type} (draymanref03_place : draymanref03_place_T α) (n1 : Int) (k : ByteArray → Option α) : Option α :=
  (draymanref03_place n1 fun r2 =>
    (draymanref03_Int_l0_run draymanref03_place
      (fun x6 x7 =>
        (cond (decide (((((bytesT 1 (fun _ => ((IntKind.u8.wrap x7), ())))).size + (x6).size : Nat) : Int) ≤ IntKind.i64.max))
          (k ((bytesT 1 (fun _ => ((IntKind.u8.wrap x7), ()))) ++ x6))
          none))
      1000 r2 (⟨#[]⟩ : ByteArray) 0))

noncomputable def draymanref03_Int {α : Type} : draymanref03_Int_T α := draymanref03_Int_g draymanref03_place

noncomputable def draymanref03_Int_sp {α : Type} (draymanref03_Int : draymanref03_Int_T α) : FunSpec α := ⟨54, [.int .i64], [], fun ds k => draymanref03_Int (hdI ds) (fun r1 => k (enc dep (.str) [.s r1]).1 [])⟩

noncomputable def draymanref03_Int_spec {α : Type} : FunSpec α := draymanref03_Int_sp draymanref03_Int

noncomputable def draymanref03_Int_C {α : Type} (draymanref03_place : draymanref03_place_T α) : List (FunSpec α) := [draymanref03_place_sp draymanref03_place]

noncomputable def draymanref03_Int_q : FuncId → Bool := fun f => Nat.beq f 82

noncomputable def draymanref03_Int_inl : FuncId → Bool := fun f => false

noncomputable def draymanref03_Int_ann : FuncId → AnnT := fun f p => if f = 54 then (if p = [false, true, true, true] then ⟨[3, 4, 5], [], [4, 5], [2], 0, [], []⟩ else ⟨[], [], [], [], 0, [], []⟩) else ⟨[], [], [], [], 0, [], []⟩

noncomputable def draymanref03_Int_l0_t : List Sh := [.dead, .dead, .dead, .int .u64, .str, .int .i64, .dead, .dead, .dead, .dead, .dead, .dead, .dead, .dead, .dead, .dead, .dead, .dead, .dead, .dead, .dead, .dead, .dead, .dead, .dead, .dead, .dead]
noncomputable def draymanref03_Int_l0_s : List (List Sh) := []
noncomputable def draymanref03_Int_l0_h : List BSh := []

noncomputable def draymanref03_Int_l0_spec {α : Type} (draymanref03_place : draymanref03_place_T α) : LoopSpec α := ⟨6, 54, [false, true, true, true], draymanref03_Int_l0_t, draymanref03_Int_l0_s, draymanref03_Int_l0_h, fun ds k => draymanref03_Int_l0_run draymanref03_place (fun y1 y2 => k (.exit 0) (encSt [.dead, .dead, .dead, .dead, .str, .int .i64, .dead, .dead, .dead, .dead, .dead, .dead, .dead, .dead, .dead, .dead, .dead, .dead, .dead, .dead, .dead, .dead, .dead, .dead, .dead, .dead, .dead] [] [] [.s y1, .i y2])) 1000 (hdI ds) (hdS ds.tail) (hdI ds.tail.tail)⟩

noncomputable def draymanref03_Int_loops {α : Type} (draymanref03_place : draymanref03_place_T α) : List (LoopSpec α) := [draymanref03_Int_l0_spec draymanref03_place]

noncomputable def draymanref03_Int_l0_ev {α : Type} (draymanref03_place : draymanref03_place_T α) (n : Nat) (st : St) (k : X → St → Option α) : Option α := loopN (evCode Go.Proofs.Try.prog (callD Go.Proofs.Try.prog (envOf (draymanref03_Int_C draymanref03_place) draymanref03_Int_q draymanref03_Int_inl 1000 draymanref03_Int_ann false (draymanref03_Int_loops draymanref03_place) (fun _ => none)) 6) (((envOf (draymanref03_Int_C draymanref03_place) draymanref03_Int_q draymanref03_Int_inl 1000 draymanref03_Int_ann false (draymanref03_Int_loops draymanref03_place) (fun _ => none)) : Env α).L 6 54) 1000 (draymanref03_Int_ann 54) (false :: [false, true, true, true]) (loopC Go.Proofs.Try.prog 54 [false, true, true, true])) ((draymanref03_Int_ann 54 [false, true, true, true]).head 0) ((draymanref03_Int_ann 54 [false, true, true, true]).leave 0) n st k

theorem draymanref03_Int_l0_eq {α : Type} (draymanref03_place : draymanref03_place_T α) : ∀ (n : Nat) (p3 : Int) (s4 : ByteArray) (x5 : Int) (k : X → St → Option α), draymanref03_Int_l0_ev draymanref03_place n (encSt draymanref03_Int_l0_t draymanref03_Int_l0_s draymanref03_Int_l0_h [.i p3, .s s4, .i x5]) k = draymanref03_Int_l0_run draymanref03_place (fun y1 y2 => k (.exit 0) (encSt [.dead, .dead, .dead, .dead, .str, .int .i64, .dead, .dead, .dead, .dead, .dead, .dead, .dead, .dead, .dead, .dead, .dead, .dead, .dead, .dead, .dead, .dead, .dead, .dead, .dead, .dead, .dead] [] [] [.s y1, .i y2])) n p3 s4 x5 := by
  intro n
  induction n with
  | zero => intros; kernel_rfl
  | succ n ih =>
    intro p3 s4 x5 k
    have e : (fun (p3 : Int) (s4 : ByteArray) (x5 : Int) => draymanref03_Int_l0_ev draymanref03_place n (encSt draymanref03_Int_l0_t draymanref03_Int_l0_s draymanref03_Int_l0_h [.i p3, .s s4, .i x5]) k) = (fun (p3 : Int) (s4 : ByteArray) (x5 : Int) => draymanref03_Int_l0_run draymanref03_place (fun y1 y2 => k (.exit 0) (encSt [.dead, .dead, .dead, .dead, .str, .int .i64, .dead, .dead, .dead, .dead, .dead, .dead, .dead, .dead, .dead, .dead, .dead, .dead, .dead, .dead, .dead, .dead, .dead, .dead, .dead, .dead, .dead] [] [] [.s y1, .i y2])) n p3 s4 x5) := by
      funext p3 s4 x5
      exact ih p3 s4 x5 k
    have h1 : draymanref03_Int_l0_ev draymanref03_place (n + 1) (encSt draymanref03_Int_l0_t draymanref03_Int_l0_s draymanref03_Int_l0_h [.i p3, .s s4, .i x5]) k = draymanref03_Int_l0_step draymanref03_place (fun y1 y2 => k (.exit 0) (encSt [.dead, .dead, .dead, .dead, .str, .int .i64, .dead, .dead, .dead, .dead, .dead, .dead, .dead, .dead, .dead, .dead, .dead, .dead, .dead, .dead, .dead, .dead, .dead, .dead, .dead, .dead, .dead] [] [] [.s y1, .i y2])) (fun (p3 : Int) (s4 : ByteArray) (x5 : Int) => draymanref03_Int_l0_ev draymanref03_place n (encSt draymanref03_Int_l0_t draymanref03_Int_l0_s draymanref03_Int_l0_h [.i p3, .s s4, .i x5]) k) p3 s4 x5 := by kernel_rfl
    have h2 := congrArg (fun r => draymanref03_Int_l0_step draymanref03_place (fun y1 y2 => k (.exit 0) (encSt [.dead, .dead, .dead, .dead, .str, .int .i64, .dead, .dead, .dead, .dead, .dead, .dead, .dead, .dead, .dead, .dead, .dead, .dead, .dead, .dead, .dead, .dead, .dead, .dead, .dead, .dead, .dead] [] [] [.s y1, .i y2])) r p3 s4 x5) e
    have h3 : draymanref03_Int_l0_step draymanref03_place (fun y1 y2 => k (.exit 0) (encSt [.dead, .dead, .dead, .dead, .str, .int .i64, .dead, .dead, .dead, .dead, .dead, .dead, .dead, .dead, .dead, .dead, .dead, .dead, .dead, .dead, .dead, .dead, .dead, .dead, .dead, .dead, .dead] [] [] [.s y1, .i y2])) (fun (p3 : Int) (s4 : ByteArray) (x5 : Int) => draymanref03_Int_l0_run draymanref03_place (fun y1 y2 => k (.exit 0) (encSt [.dead, .dead, .dead, .dead, .str, .int .i64, .dead, .dead, .dead, .dead, .dead, .dead, .dead, .dead, .dead, .dead, .dead, .dead, .dead, .dead, .dead, .dead, .dead, .dead, .dead, .dead, .dead] [] [] [.s y1, .i y2])) n p3 s4 x5) p3 s4 x5 = draymanref03_Int_l0_run draymanref03_place (fun y1 y2 => k (.exit 0) (encSt [.dead, .dead, .dead, .dead, .str, .int .i64, .dead, .dead, .dead, .dead, .dead, .dead, .dead, .dead, .dead, .dead, .dead, .dead, .dead, .dead, .dead, .dead, .dead, .dead, .dead, .dead, .dead] [] [] [.s y1, .i y2])) (n + 1) p3 s4 x5 := by kernel_rfl
    exact h1.trans (h2.trans h3)

theorem draymanref03_Int_l0_ok {α : Type} (draymanref03_place : draymanref03_place_T α) : (draymanref03_Int_l0_spec draymanref03_place : LoopSpec α).ok Go.Proofs.Try.prog (envOf (draymanref03_Int_C draymanref03_place) draymanref03_Int_q draymanref03_Int_inl 1000 draymanref03_Int_ann false (draymanref03_Int_loops draymanref03_place) (fun _ => none)) := by
  intro ds k
  have h1 : draymanref03_Int_l0_ev draymanref03_place 1000 (encSt draymanref03_Int_l0_t draymanref03_Int_l0_s draymanref03_Int_l0_h ds) k = draymanref03_Int_l0_ev draymanref03_place 1000 (encSt draymanref03_Int_l0_t draymanref03_Int_l0_s draymanref03_Int_l0_h [.i (hdI ds), .s (hdS ds.tail), .i (hdI ds.tail.tail)]) k := by kernel_rfl
  have h2 := draymanref03_Int_l0_eq draymanref03_place 1000 (hdI ds) (hdS ds.tail) (hdI ds.tail.tail) k
  exact h1.trans h2

theorem draymanref03_Int_ev {α : Type} (draymanref03_place : draymanref03_place_T α) : EvOk (α := α) Go.Proofs.Try.prog (envOf (draymanref03_Int_C draymanref03_place) draymanref03_Int_q draymanref03_Int_inl 1000 draymanref03_Int_ann false (draymanref03_Int_loops draymanref03_place) (fun _ => none)) 6 (draymanref03_Int_sp (draymanref03_Int_g draymanref03_place)) := by intro ds k; kernel_rfl

theorem draymanref03_Int_ok {α : Type} : (draymanref03_Int_spec : FunSpec α).ok Go.Proofs.Try.prog :=
  FunSpec.ok_of (sp := draymanref03_Int_spec) (C := draymanref03_Int_C draymanref03_place) (q := draymanref03_Int_q) (inl := draymanref03_Int_inl) (N := 1000) (ann := draymanref03_Int_ann) (fr := false) (D := 6) (l := (draymanref03_Int_loops draymanref03_place)) (hk := (fun _ => none)) (okCons draymanref03_place_ok okNil) (lokCons (draymanref03_Int_l0_ok draymanref03_place) lokNil) noHooks (draymanref03_Int_ev draymanref03_place)

end
end Go.Rv.Try

set_option linter.unusedVariables false
set_option maxRecDepth 100000
set_option maxHeartbeats 4000000
namespace Go.Rv.Try
open Go Go.Rv Go.RowKit
noncomputable section

-- drayman/draymanref03.Flag

abbrev draymanref03_Flag_T (α : Type) : Type := Bool → (ByteArray → Option α) → Option α

noncomputable def draymanref03_Flag {α : Type} (b1 : Bool) (k : ByteArray → Option α) : Option α :=
  (cond b1
    (k (⟨#[1]⟩ : ByteArray))
    (k (⟨#[0]⟩ : ByteArray)))

noncomputable def draymanref03_Flag_sp {α : Type} (draymanref03_Flag : draymanref03_Flag_T α) : FunSpec α := ⟨56, [.bool], [], fun ds k => draymanref03_Flag (hdB ds) (fun r1 => k (enc dep (.str) [.s r1]).1 [])⟩

noncomputable def draymanref03_Flag_spec {α : Type} : FunSpec α := draymanref03_Flag_sp draymanref03_Flag

noncomputable def draymanref03_Flag_C {α : Type} : List (FunSpec α) := []

noncomputable def draymanref03_Flag_q : FuncId → Bool := fun f => false

noncomputable def draymanref03_Flag_inl : FuncId → Bool := fun f => false

noncomputable def draymanref03_Flag_ann : FuncId → AnnT := fun f p => ⟨[], [], [], [], 0, [], []⟩

noncomputable def draymanref03_Flag_loops {α : Type} : List (LoopSpec α) := []

theorem draymanref03_Flag_ev {α : Type} : EvOk (α := α) Go.Proofs.Try.prog (envOf (draymanref03_Flag_C) draymanref03_Flag_q draymanref03_Flag_inl 1000 draymanref03_Flag_ann false (draymanref03_Flag_loops) (fun _ => none)) 6 (draymanref03_Flag_sp (draymanref03_Flag)) := by intro ds k; kernel_rfl

theorem draymanref03_Flag_ok {α : Type} : (draymanref03_Flag_spec : FunSpec α).ok Go.Proofs.Try.prog :=
  FunSpec.ok_of (sp := draymanref03_Flag_spec) (C := draymanref03_Flag_C) (q := draymanref03_Flag_q) (inl := draymanref03_Flag_inl) (N := 1000) (ann := draymanref03_Flag_ann) (fr := false) (D := 6) (l := (draymanref03_Flag_loops)) (hk := (fun _ => none)) okNil lokNil noHooks (draymanref03_Flag_ev)

end
end Go.Rv.Try

set_option linter.unusedVariables false
set_option maxRecDepth 100000
set_option maxHeartbeats 4000000
namespace Go.Rv.Try
open Go Go.Rv Go.RowKit
noncomputable section

-- drayman/draymanref03.Text

abbrev draymanref03_Text_T (α : Type) : Type := ByteArray → (ByteArray → Option α) → Option α

noncomputable def draymanref03_Text_g {α : Type} (draymanref03_Int : draymanref03_Int_T α) (s1 : ByteArray) (k : ByteArray → Option α) : Option α :=
  (draymanref03_Int (s1.size : Int) fun r2 =>
    (cond (decide ((((r2).size + (s1).size : Nat) : Int) ≤ IntKind.i64.max))
      (k (r2 ++ s1))
      none))

noncomputable def draymanref03_Text {α : Type} : draymanref03_Text_T α := draymanref03_Text_g draymanref03_Int

noncomputable def draymanref03_Text_sp {α : Type} (draymanref03_Text : draymanref03_Text_T α) : FunSpec α := ⟨58, [.str], [], fun ds k => draymanref03_Text (hdS ds) (fun r1 => k (enc dep (.str) [.s r1]).1 [])⟩

noncomputable def draymanref03_Text_spec {α : Type} : FunSpec α := draymanref03_Text_sp draymanref03_Text

noncomputable def draymanref03_Text_C {α : Type} (draymanref03_Int : draymanref03_Int_T α) : List (FunSpec α) := [draymanref03_Int_sp draymanref03_Int]

noncomputable def draymanref03_Text_q : FuncId → Bool := fun f => Nat.beq f 54

noncomputable def draymanref03_Text_inl : FuncId → Bool := fun f => false

noncomputable def draymanref03_Text_ann : FuncId → AnnT := fun f p => ⟨[], [], [], [], 0, [], []⟩

noncomputable def draymanref03_Text_loops {α : Type} (draymanref03_Int : draymanref03_Int_T α) : List (LoopSpec α) := []

theorem draymanref03_Text_ev {α : Type} (draymanref03_Int : draymanref03_Int_T α) : EvOk (α := α) Go.Proofs.Try.prog (envOf (draymanref03_Text_C draymanref03_Int) draymanref03_Text_q draymanref03_Text_inl 1000 draymanref03_Text_ann false (draymanref03_Text_loops draymanref03_Int) (fun _ => none)) 6 (draymanref03_Text_sp (draymanref03_Text_g draymanref03_Int)) := by intro ds k; kernel_rfl

theorem draymanref03_Text_ok {α : Type} : (draymanref03_Text_spec : FunSpec α).ok Go.Proofs.Try.prog :=
  FunSpec.ok_of (sp := draymanref03_Text_spec) (C := draymanref03_Text_C draymanref03_Int) (q := draymanref03_Text_q) (inl := draymanref03_Text_inl) (N := 1000) (ann := draymanref03_Text_ann) (fr := false) (D := 6) (l := (draymanref03_Text_loops draymanref03_Int)) (hk := (fun _ => none)) (okCons draymanref03_Int_ok okNil) lokNil noHooks (draymanref03_Text_ev draymanref03_Int)

end
end Go.Rv.Try

set_option linter.unusedVariables false
set_option maxRecDepth 100000
set_option maxHeartbeats 4000000
namespace Go.Rv.Try
open Go Go.Rv Go.RowKit
noncomputable section

-- drayman/draymanref03.Ints

abbrev draymanref03_Ints_T (α : Type) : Type := (Seq (Int × Unit)) → (ByteArray → Option α) → Option α

noncomputable def draymanref03_Ints_l0_step {α : Type} (draymanref03_Int : draymanref03_Int_T α) (k0 : (ByteArray) → Option α) (rec : (Seq (Int × Unit)) → (ByteArray) → (Int) → Option α) (l2 : Seq (Int × Unit)) (s3 : ByteArray) (i4 : Int) : Option α :=
  (cond (decide (i4 < (l2.n : Int)))
    (cond ((decide ((0 : Int) ≤ i4)) && (decide (i4 < (l2.n : Int))))
      (draymanref03_Int ((l2.g i4.toNat).1) fun r5 =>
        (cond (decide ((((s3).size + (r5).size : Nat) : Int) ≤ IntKind.i64.max))
          (rec l2 (s3 ++ r5) (IntKind.i64.wrap (i4 + 1)))
          none))
      none)
    (k0 s3))

noncomputable def draymanref03_Ints_l0_run {α : Type} (draymanref03_Int : draymanref03_Int_T α) (k0 : (ByteArray) → Option α) : Nat → (Seq (Int × Unit)) → (ByteArray) → (Int) → Option α
  | 0, _, _, _ => none
  | n + 1, l2, s3, i4 => draymanref03_Ints_l0_step draymanref03_Int k0 (fun l2 s3 i4 => draymanref03_Ints_l0_run draymanref03_Int k0 n l2 s3 i4) l2 s3 i4

noncomputable def draymanref03_Ints_g {α : Type} (draymanref03_Int : draymanref03_Int_T α) (l1 : Seq (Int × Unit)) (k : ByteArray → Option α) : Option α :=
  (draymanref03_Ints_l0_run draymanref03_Int
    (fun x6 =>
      (k x6))
    1000 l1 (⟨#[]⟩ : ByteArray) 0)

noncomputable def draymanref03_Ints {α : Type} : draymanref03_Ints_T α := draymanref03_Ints_g draymanref03_Int

noncomputable def draymanref03_Ints_sp {α : Type} (draymanref03_Ints : draymanref03_Ints_T α) : FunSpec α := ⟨60, [.sl (.int .i64 (.nil))], [], fun ds k => draymanref03_Ints (hdQ (.int .i64 (.nil)) ds) (fun r1 => k (enc dep (.str) [.s r1]).1 [])⟩

noncomputable def draymanref03_Ints_spec {α : Type} : FunSpec α := draymanref03_Ints_sp draymanref03_Ints

noncomputable def draymanref03_Ints_C {α : Type} (draymanref03_Int : draymanref03_Int_T α) : List (FunSpec α) := [draymanref03_Int_sp draymanref03_Int]

noncomputable def draymanref03_Ints_q : FuncId → Bool := fun f => Nat.beq f 54

noncomputable def draymanref03_Ints_inl : FuncId → Bool := fun f => false

noncomputable def draymanref03_Ints_ann : FuncId → AnnT := fun f p => if f = 60 then (if p = [true, false, true, true] then ⟨[0, 3, 4], [], [3], [2], 0, [], []⟩ else ⟨[], [], [], [], 0, [], []⟩) else ⟨[], [], [], [], 0, [], []⟩

noncomputable def draymanref03_Ints_l0_t : List Sh := [.sl (.int .i64 (.nil)), .dead, .dead, .str, .int .i64, .dead, .dead, .dead, .dead, .dead, .dead, .dead, .dead, .dead, .dead, .dead, .dead, .dead, .dead]
noncomputable def draymanref03_Ints_l0_s : List (List Sh) := []
noncomputable def draymanref03_Ints_l0_h : List BSh := []

noncomputable def draymanref03_Ints_l0_spec {α : Type} (draymanref03_Int : draymanref03_Int_T α) : LoopSpec α := ⟨6, 60, [true, false, true, true], draymanref03_Ints_l0_t, draymanref03_Ints_l0_s, draymanref03_Ints_l0_h, fun ds k => draymanref03_Ints_l0_run draymanref03_Int (fun y1 => k (.exit 0) (encSt [.dead, .dead, .dead, .str, .dead, .dead, .dead, .dead, .dead, .dead, .dead, .dead, .dead, .dead, .dead, .dead, .dead, .dead, .dead] [] [] [.s y1])) 1000 (hdQ (.int .i64 (.nil)) ds) (hdS ds.tail) (hdI ds.tail.tail)⟩

noncomputable def draymanref03_Ints_loops {α : Type} (draymanref03_Int : draymanref03_Int_T α) : List (LoopSpec α) := [draymanref03_Ints_l0_spec draymanref03_Int]

noncomputable def draymanref03_Ints_l0_ev {α : Type} (draymanref03_Int : draymanref03_Int_T α) (n : Nat) (st : St) (k : X → St → Option α) : Option α := loopN (evCode Go.Proofs.Try.prog (callD Go.Proofs.Try.prog (envOf (draymanref03_Ints_C draymanref03_Int) draymanref03_Ints_q draymanref03_Ints_inl 1000 draymanref03_Ints_ann false (draymanref03_Ints_loops draymanref03_Int) (fun _ => none)) 6) (((envOf (draymanref03_Ints_C draymanref03_Int) draymanref03_Ints_q draymanref03_Ints_inl 1000 draymanref03_Ints_ann false (draymanref03_Ints_loops draymanref03_Int) (fun _ => none)) : Env α).L 6 60) 1000 (draymanref03_Ints_ann 60) (false :: [true, false, true, true]) (loopC Go.Proofs.Try.prog 60 [true, false, true, true])) ((draymanref03_Ints_ann 60 [true, false, true, true]).head 0) ((draymanref03_Ints_ann 60 [true, false, true, true]).leave 0) n st k

theorem draymanref03_Ints_l0_eq {α : Type} (draymanref03_Int : draymanref03_Int_T α) : ∀ (n : Nat) (l2 : Seq (Int × Unit)) (s3 : ByteArray) (i4 : Int) (k : X → St → Option α), draymanref03_Ints_l0_ev draymanref03_Int n (encSt draymanref03_Ints_l0_t draymanref03_Ints_l0_s draymanref03_Ints_l0_h [.q (.int .i64 (.nil)) l2, .s s3, .i i4]) k = draymanref03_Ints_l0_run draymanref03_Int (fun y1 => k (.exit 0) (encSt [.dead, .dead, .dead, .str, .dead, .dead, .dead, .dead, .dead, .dead, .dead, .dead, .dead, .dead, .dead, .dead, .dead, .dead, .dead] [] [] [.s y1])) n l2 s3 i4 := by
  intro n
  induction n with
  | zero => intros; kernel_rfl
  | succ n ih =>
    intro l2 s3 i4 k
    have e : (fun (l2 : Seq (Int × Unit)) (s3 : ByteArray) (i4 : Int) => draymanref03_Ints_l0_ev draymanref03_Int n (encSt draymanref03_Ints_l0_t draymanref03_Ints_l0_s draymanref03_Ints_l0_h [.q (.int .i64 (.nil)) l2, .s s3, .i i4]) k) = (fun (l2 : Seq (Int × Unit)) (s3 : ByteArray) (i4 : Int) => draymanref03_Ints_l0_run draymanref03_Int (fun y1 => k (.exit 0) (encSt [.dead, .dead, .dead, .str, .dead, .dead, .dead, .dead, .dead, .dead, .dead, .dead, .dead, .dead, .dead, .dead, .dead, .dead, .dead] [] [] [.s y1])) n l2 s3 i4) := by
      funext l2 s3 i4
      exact ih l2 s3 i4 k
    have h1 : draymanref03_Ints_l0_ev draymanref03_Int (n + 1) (encSt draymanref03_Ints_l0_t draymanref03_Ints_l0_s draymanref03_Ints_l0_h [.q (.int .i64 (.nil)) l2, .s s3, .i i4]) k = draymanref03_Ints_l0_step draymanref03_Int (fun y1 => k (.exit 0) (encSt [.dead, .dead, .dead, .str, .dead, .dead, .dead, .dead, .dead, .dead, .dead, .dead, .dead, .dead, .dead, .dead, .dead, .dead, .dead] [] [] [.s y1])) (fun (l2 : Seq (Int × Unit)) (s3 : ByteArray) (i4 : Int) => draymanref03_Ints_l0_ev draymanref03_Int n (encSt draymanref03_Ints_l0_t draymanref03_Ints_l0_s draymanref03_Ints_l0_h [.q (.int .i64 (.nil)) l2, .s s3, .i i4]) k) l2 s3 i4 := by kernel_rfl
    have h2 := congrArg (fun r => draymanref03_Ints_l0_step draymanref03_Int (fun y1 => k (.exit 0) (encSt [.dead, .dead, .dead, .str, .dead, .dead, .dead, .dead, .dead, .dead, .dead, .dead, .dead, .dead, .dead, .dead, .dead, .dead, .dead] [] [] [.s y1])) r l2 s3 i4) e
    have h3 : draymanref03_Ints_l0_step draymanref03_Int (fun y1 => k (.exit 0) (encSt [.dead, .dead, .dead, .str, .dead, .dead, .dead, .dead, .dead, .dead, .dead, .dead, .dead, .dead, .dead, .dead, .dead, .dead, .dead] [] [] [.s y1])) (fun (l2 : Seq (Int × Unit)) (s3 : ByteArray) (i4 : Int) => draymanref03_Ints_l0_run draymanref03_Int (fun y1 => k (.exit 0) (encSt [.dead, .dead, .dead, .str, .dead, .dead, .dead, .dead, .dead, .dead, .dead, .dead, .dead, .dead, .dead, .dead, .dead, .dead, .dead] [] [] [.s y1])) n l2 s3 i4) l2 s3 i4 = draymanref03_Ints_l0_run draymanref03_Int (fun y1 => k (.exit 0) (encSt [.dead, .dead, .dead, .str, .dead, .dead, .dead, .dead, .dead, .dead, .dead, .dead, .dead, .dead, .dead, .dead, .dead, .dead, .dead] [] [] [.s y1])) (n + 1) l2 s3 i4 := by kernel_rfl
    exact h1.trans (h2.trans h3)

theorem draymanref03_Ints_l0_ok {α : Type} (draymanref03_Int : draymanref03_Int_T α) : (draymanref03_Ints_l0_spec draymanref03_Int : LoopSpec α).ok Go.Proofs.Try.prog (envOf (draymanref03_Ints_C draymanref03_Int) draymanref03_Ints_q draymanref03_Ints_inl 1000 draymanref03_Ints_ann false (draymanref03_Ints_loops draymanref03_Int) (fun _ => none)) := by
  intro ds k
  have h1 : draymanref03_Ints_l0_ev draymanref03_Int 1000 (encSt draymanref03_Ints_l0_t draymanref03_Ints_l0_s draymanref03_Ints_l0_h ds) k = draymanref03_Ints_l0_ev draymanref03_Int 1000 (encSt draymanref03_Ints_l0_t draymanref03_Ints_l0_s draymanref03_Ints_l0_h [.q (.int .i64 (.nil)) (hdQ (.int .i64 (.nil)) ds), .s (hdS ds.tail), .i (hdI ds.tail.tail)]) k := by kernel_rfl
  have h2 := draymanref03_Ints_l0_eq draymanref03_Int 1000 (hdQ (.int .i64 (.nil)) ds) (hdS ds.tail) (hdI ds.tail.tail) k
  exact h1.trans h2

theorem draymanref03_Ints_ev {α : Type} (draymanref03_Int : draymanref03_Int_T α) : EvOk (α := α) Go.Proofs.Try.prog (envOf (draymanref03_Ints_C draymanref03_Int) draymanref03_Ints_q draymanref03_Ints_inl 1000 draymanref03_Ints_ann false (draymanref03_Ints_loops draymanref03_Int) (fun _ => none)) 6 (draymanref03_Ints_sp (draymanref03_Ints_g draymanref03_Int)) := by intro ds k; kernel_rfl

theorem draymanref03_Ints_ok {α : Type} : (draymanref03_Ints_spec : FunSpec α).ok Go.Proofs.Try.prog :=
  FunSpec.ok_of (sp := draymanref03_Ints_spec) (C := draymanref03_Ints_C draymanref03_Int) (q := draymanref03_Ints_q) (inl := draymanref03_Ints_inl) (N := 1000) (ann := draymanref03_Ints_ann) (fr := false) (D := 6) (l := (draymanref03_Ints_loops draymanref03_Int)) (hk := (fun _ => none)) (okCons draymanref03_Int_ok okNil) (lokCons (draymanref03_Ints_l0_ok draymanref03_Int) lokNil) noHooks (draymanref03_Ints_ev draymanref03_Int)

end
end Go.Rv.Try

set_option linter.unusedVariables false
set_option maxRecDepth 100000
set_option maxHeartbeats 4000000
namespace Go.Rv.Try
open Go Go.Rv Go.RowKit
noncomputable section

-- drayman/draymanlaw03.WireWrites

abbrev draymanlaw03_WireWrites_T (α : Type) : Type := (Seq (Int × Unit)) → Bool → ByteArray → (Bool → Option α) → Option α

noncomputable def draymanlaw03_WireWrites_g {α : Type} (draymanlaw03_awake : draymanlaw03_awake_T α) (wire_Int : wire_Int_T α) (draymanref03_Int : draymanref03_Int_T α) (wire_Flag : wire_Flag_T α) (draymanref03_Flag : draymanref03_Flag_T α) (wire_Text : wire_Text_T α) (draymanref03_Text : draymanref03_Text_T α) (wire_Ints : wire_Ints_T α) (draymanref03_Ints : draymanref03_Ints_T α) (l1 : Seq (Int × Unit)) (b2 : Bool) (s3 : ByteArray) (k : Bool → Option α) : Option α :=
  (cond (!(decide ((l1.n : Int) > 20)))
    (cond (decide ((s3.size : Int) > 300))
      (draymanlaw03_awake fun r4 =>
        (k r4))
      (cond (decide ((l1.n : Int) > 0))
        (cond (decide ((0 : Int) < (l1.n : Int)))
          (wire_Int ((l1.g 0).1) fun r5 =>
            (draymanref03_Int ((l1.g 0).1) fun r6 =>
              (cond (r5.toList == r6.toList)
                (wire_Flag b2 fun r7 =>
                  (draymanref03_Flag b2 fun r8 =>
                    (cond (r7.toList == r8.toList)
                      (wire_Text s3 fun r9 =>
                        (draymanref03_Text s3 fun r10 =>
                          (cond (r9.toList == r10.toList)
                            (wire_Ints l1 fun r11 =>
                              (draymanref03_Ints l1 fun r12 =>
                                (cond (r11.toList == r12.toList)
                                  (draymanlaw03_awake fun r13 =>
                                    (k r13))
                                  (k false))))
                            (k false))))
                      (k false))))
                (k false))))
          none)
        (wire_Int 0 fun r14 =>
          (draymanref03_Int 0 fun r15 =>
            (cond (r14.toList == r15.toList)
              (wire_Flag b2 fun r16 =>
                (draymanref03_Flag b2 fun r17 =>
                  (cond (r16.toList == r17.toList)
                    (wire_Text s3 fun r18 =>
                      (draymanref03_Text s3 fun r19 =>
                        (cond (r18.toList == r19.toList)
                          (wire_Ints l1 fun r20 =>
                            (draymanref03_Ints l1 fun r21 =>
                              (cond (r20.toList == r21.toList)
                                (draymanlaw03_awake fun r22 =>
                                  (k r22))
                                (k false))))
                          (k false))))
                    (k false))))
              (k false))))))
    (draymanlaw03_awake fun r23 =>
      (k r23)))

noncomputable def draymanlaw03_WireWrites {α : Type} : draymanlaw03_WireWrites_T α := draymanlaw03_WireWrites_g draymanlaw03_awake wire_Int draymanref03_Int wire_Flag draymanref03_Flag wire_Text draymanref03_Text wire_Ints draymanref03_Ints

noncomputable def draymanlaw03_WireWrites_sp {α : Type} (draymanlaw03_WireWrites : draymanlaw03_WireWrites_T α) : FunSpec α := ⟨10, [.sl (.int .i64 (.nil)), .bool, .str], [], fun ds k => draymanlaw03_WireWrites (hdQ (.int .i64 (.nil)) ds) (hdB ds.tail) (hdS ds.tail.tail) (fun r1 => k (enc dep (.bool) [.b r1]).1 [])⟩

noncomputable def draymanlaw03_WireWrites_spec {α : Type} : FunSpec α := draymanlaw03_WireWrites_sp draymanlaw03_WireWrites

noncomputable def draymanlaw03_WireWrites_C {α : Type} (draymanlaw03_awake : draymanlaw03_awake_T α) (wire_Int : wire_Int_T α) (draymanref03_Int : draymanref03_Int_T α) (wire_Flag : wire_Flag_T α) (draymanref03_Flag : draymanref03_Flag_T α) (wire_Text : wire_Text_T α) (draymanref03_Text : draymanref03_Text_T α) (wire_Ints : wire_Ints_T α) (draymanref03_Ints : draymanref03_Ints_T α) : List (FunSpec α) := [draymanlaw03_awake_sp draymanlaw03_awake, wire_Int_sp wire_Int, draymanref03_Int_sp draymanref03_Int, wire_Flag_sp wire_Flag, draymanref03_Flag_sp draymanref03_Flag, wire_Text_sp wire_Text, draymanref03_Text_sp draymanref03_Text, wire_Ints_sp wire_Ints, draymanref03_Ints_sp draymanref03_Ints]

noncomputable def draymanlaw03_WireWrites_q : FuncId → Bool := fun f => Nat.beq f 39 || Nat.beq f 53 || Nat.beq f 54 || Nat.beq f 55 || Nat.beq f 56 || Nat.beq f 57 || Nat.beq f 58 || Nat.beq f 59 || Nat.beq f 60

noncomputable def draymanlaw03_WireWrites_inl : FuncId → Bool := fun f => false

noncomputable def draymanlaw03_WireWrites_ann : FuncId → AnnT := fun f p => ⟨[], [], [], [], 0, [], []⟩

noncomputable def draymanlaw03_WireWrites_loops {α : Type} (draymanlaw03_awake : draymanlaw03_awake_T α) (wire_Int : wire_Int_T α) (draymanref03_Int : draymanref03_Int_T α) (wire_Flag : wire_Flag_T α) (draymanref03_Flag : draymanref03_Flag_T α) (wire_Text : wire_Text_T α) (draymanref03_Text : draymanref03_Text_T α) (wire_Ints : wire_Ints_T α) (draymanref03_Ints : draymanref03_Ints_T α) : List (LoopSpec α) := []

theorem draymanlaw03_WireWrites_ev {α : Type} (draymanlaw03_awake : draymanlaw03_awake_T α) (wire_Int : wire_Int_T α) (draymanref03_Int : draymanref03_Int_T α) (wire_Flag : wire_Flag_T α) (draymanref03_Flag : draymanref03_Flag_T α) (wire_Text : wire_Text_T α) (draymanref03_Text : draymanref03_Text_T α) (wire_Ints : wire_Ints_T α) (draymanref03_Ints : draymanref03_Ints_T α) : EvOk (α := α) Go.Proofs.Try.prog (envOf (draymanlaw03_WireWrites_C draymanlaw03_awake wire_Int draymanref03_Int wire_Flag draymanref03_Flag wire_Text draymanref03_Text wire_Ints draymanref03_Ints) draymanlaw03_WireWrites_q draymanlaw03_WireWrites_inl 1000 draymanlaw03_WireWrites_ann false (draymanlaw03_WireWrites_loops draymanlaw03_awake wire_Int draymanref03_Int wire_Flag draymanref03_Flag wire_Text draymanref03_Text wire_Ints draymanref03_Ints) (fun _ => none)) 6 (draymanlaw03_WireWrites_sp (draymanlaw03_WireWrites_g draymanlaw03_awake wire_Int draymanref03_Int wire_Flag draymanref03_Flag wire_Text draymanref03_Text wire_Ints draymanref03_Ints)) := by intro ds k; kernel_rfl

theorem draymanlaw03_WireWrites_ok {α : Type} : (draymanlaw03_WireWrites_spec : FunSpec α).ok Go.Proofs.Try.prog :=
  FunSpec.ok_of (sp := draymanlaw03_WireWrites_spec) (C := draymanlaw03_WireWrites_C draymanlaw03_awake wire_Int draymanref03_Int wire_Flag draymanref03_Flag wire_Text draymanref03_Text wire_Ints draymanref03_Ints) (q := draymanlaw03_WireWrites_q) (inl := draymanlaw03_WireWrites_inl) (N := 1000) (ann := draymanlaw03_WireWrites_ann) (fr := false) (D := 6) (l := (draymanlaw03_WireWrites_loops draymanlaw03_awake wire_Int draymanref03_Int wire_Flag draymanref03_Flag wire_Text draymanref03_Text wire_Ints draymanref03_Ints)) (hk := (fun _ => none)) (okCons draymanlaw03_awake_ok (okCons wire_Int_ok (okCons draymanref03_Int_ok (okCons wire_Flag_ok (okCons draymanref03_Flag_ok (okCons wire_Text_ok (okCons draymanref03_Text_ok (okCons wire_Ints_ok (okCons draymanref03_Ints_ok okNil))))))))) lokNil noHooks (draymanlaw03_WireWrites_ev draymanlaw03_awake wire_Int draymanref03_Int wire_Flag draymanref03_Flag wire_Text draymanref03_Text wire_Ints draymanref03_Ints)

end
end Go.Rv.Try
