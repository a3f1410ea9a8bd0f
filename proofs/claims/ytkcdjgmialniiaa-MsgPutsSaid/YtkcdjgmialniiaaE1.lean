/- What the functions of the program compute, each with the proof that its code computes it. Written by a program (rvp2.py). -/
import Derived.Test.YtkcdjgmialniiaaProg
import Derived.Test.YtkcdjgmialniiaaRvP
import Derived.Test.YtkcdjgmialniiaaFx
import Derived.Test.YtkcdjgmialniiaaHooks
import Derived.Test.YtkcdjgmialniiaaE0

set_option linter.unusedVariables false
set_option maxRecDepth 100000
set_option maxHeartbeats 4000000
namespace Go.Rv.Try
open Go Go.Rv Go.RowKit
noncomputable section

-- (*drayman/wire.Reader).Int

abbrev wire_Reader_Int_T (α : Type) : Type := Int → Int → (ByteArray × Bool × Unit) → (Int → (ByteArray × Bool × Unit) → Option α) → Option α

noncomputable def wire_Reader_Int_g {α : Type} (wire_number : wire_number_T α) (wire_Reader_take : wire_Reader_take_T α) (low1 : Int) (high2 : Int) (x3 : ByteArray × Bool × Unit) (k : Int → (ByteArray × Bool × Unit) → Option α) : Option α :=
  (cond (!(!x3.2.1))
    (cond (!x3.2.1)
      (k 0 x3)
      (wire_number x3.1 fun r4 r5 =>
        (cond (decide (r5 > 0))
          (cond (decide (low1 ≤ r4))
            (cond (!(!x3.2.1))
              (cond (!(decide (r4 ≤ high2)))
                (k 0 ((⟨#[]⟩ : ByteArray), false, ()))
                (cond (!x3.2.1)
                  (k 0 x3)
                  (wire_Reader_take r5 x3 fun r6 r7 =>
                    (k r4 r7))))
              (k 0 ((⟨#[]⟩ : ByteArray), false, ())))
            (cond (!(!x3.2.1))
              (k 0 ((⟨#[]⟩ : ByteArray), false, ()))
              (k 0 ((⟨#[]⟩ : ByteArray), false, ()))))
          (cond (!(!x3.2.1))
            (k 0 ((⟨#[]⟩ : ByteArray), false, ()))
            (k 0 ((⟨#[]⟩ : ByteArray), false, ()))))))
    (k 0 ((⟨#[]⟩ : ByteArray), false, ())))

noncomputable def wire_Reader_Int {α : Type} : wire_Reader_Int_T α := wire_Reader_Int_g wire_number wire_Reader_take

noncomputable def wire_Reader_Int_sp {α : Type} (wire_Reader_Int : wire_Reader_Int_T α) : FunSpec α := ⟨106, [.ref 0 0, .int .i64, .int .i64], [.box [.str, .bool]], fun ds k => wire_Reader_Int (hdI ds) (hdI ds.tail) (hdS ds.tail.tail, hdB ds.tail.tail.tail, ()) (fun r1 r2 => k (enc dep (.int .i64) [.i r1]).1 (encBs [.box [.str, .bool]] [.s r2.1, .b r2.2.1]).1)⟩

noncomputable def wire_Reader_Int_spec {α : Type} : FunSpec α := wire_Reader_Int_sp wire_Reader_Int

noncomputable def wire_Reader_Int_C {α : Type} (wire_number : wire_number_T α) (wire_Reader_take : wire_Reader_take_T α) : List (FunSpec α) := [wire_number_sp wire_number, wire_Reader_take_sp wire_Reader_take]

noncomputable def wire_Reader_Int_q : FuncId → Bool := fun f => Nat.beq f 135 || Nat.beq f 136

noncomputable def wire_Reader_Int_inl : FuncId → Bool := fun f => Nat.beq f 134

noncomputable def wire_Reader_Int_ann : FuncId → AnnT := fun f p => ⟨[], [], [], [], 0, [], [], none⟩

noncomputable def wire_Reader_Int_loops {α : Type} (wire_number : wire_number_T α) (wire_Reader_take : wire_Reader_take_T α) : List (LoopSpec α) := []

theorem wire_Reader_Int_ev {α : Type} (wire_number : wire_number_T α) (wire_Reader_take : wire_Reader_take_T α) : EvOk (α := α) Go.Proofs.Try.prog (envOf (wire_Reader_Int_C wire_number wire_Reader_take) wire_Reader_Int_q wire_Reader_Int_inl 1000 wire_Reader_Int_ann false (wire_Reader_Int_loops wire_number wire_Reader_take) (fun _ => none)) 6 (wire_Reader_Int_sp (wire_Reader_Int_g wire_number wire_Reader_take)) := by intro ds k; kernel_rfl

theorem wire_Reader_Int_ok {α : Type} : (wire_Reader_Int_spec : FunSpec α).ok Go.Proofs.Try.prog :=
  FunSpec.ok_of (sp := wire_Reader_Int_spec) (C := wire_Reader_Int_C wire_number wire_Reader_take) (q := wire_Reader_Int_q) (inl := wire_Reader_Int_inl) (N := 1000) (ann := wire_Reader_Int_ann) (fr := false) (D := 6) (l := (wire_Reader_Int_loops wire_number wire_Reader_take)) (hk := (fun _ => none)) (okCons wire_number_ok (okCons wire_Reader_take_ok okNil)) lokNil noHooks (wire_Reader_Int_ev wire_number wire_Reader_take)

end
end Go.Rv.Try

set_option linter.unusedVariables false
set_option maxRecDepth 100000
set_option maxHeartbeats 4000000
namespace Go.Rv.Try
open Go Go.Rv Go.RowKit
noncomputable section

-- (*drayman/wire.Reader).Flag

abbrev wire_Reader_Flag_T (α : Type) : Type := (ByteArray × Bool × Unit) → (Bool → (ByteArray × Bool × Unit) → Option α) → Option α

noncomputable def wire_Reader_Flag_g {α : Type} (wire_Reader_take : wire_Reader_take_T α) (x1 : ByteArray × Bool × Unit) (k : Bool → (ByteArray × Bool × Unit) → Option α) : Option α :=
  (cond (!(!x1.2.1))
    (cond (!(!x1.2.1))
      (cond (!(x1.1.toList == (⟨#[]⟩ : ByteArray).toList))
        (cond (decide ((0 : Int) < (x1.1.size : Int)))
          (cond (!(!x1.2.1))
            (cond (!(decide ((byteAt x1.1 0) ≤ 1)))
              (k false ((⟨#[]⟩ : ByteArray), false, ()))
              (cond (!x1.2.1)
                (k false x1)
                (wire_Reader_take 1 x1 fun r2 r3 =>
                  (k (r2.toList == (⟨#[1]⟩ : ByteArray).toList) r3))))
            (k false ((⟨#[]⟩ : ByteArray), false, ())))
          none)
        (cond (!(!x1.2.1))
          (k false ((⟨#[]⟩ : ByteArray), false, ()))
          (k false ((⟨#[]⟩ : ByteArray), false, ()))))
      (k false x1))
    (k false ((⟨#[]⟩ : ByteArray), false, ())))

noncomputable def wire_Reader_Flag {α : Type} : wire_Reader_Flag_T α := wire_Reader_Flag_g wire_Reader_take

noncomputable def wire_Reader_Flag_sp {α : Type} (wire_Reader_Flag : wire_Reader_Flag_T α) : FunSpec α := ⟨108, [.ref 0 0], [.box [.str, .bool]], fun ds k => wire_Reader_Flag (hdS ds, hdB ds.tail, ()) (fun r1 r2 => k (enc dep (.bool) [.b r1]).1 (encBs [.box [.str, .bool]] [.s r2.1, .b r2.2.1]).1)⟩

noncomputable def wire_Reader_Flag_spec {α : Type} : FunSpec α := wire_Reader_Flag_sp wire_Reader_Flag

noncomputable def wire_Reader_Flag_C {α : Type} (wire_Reader_take : wire_Reader_take_T α) : List (FunSpec α) := [wire_Reader_take_sp wire_Reader_take]

noncomputable def wire_Reader_Flag_q : FuncId → Bool := fun f => Nat.beq f 136

noncomputable def wire_Reader_Flag_inl : FuncId → Bool := fun f => Nat.beq f 134

noncomputable def wire_Reader_Flag_ann : FuncId → AnnT := fun f p => ⟨[], [], [], [], 0, [], [], none⟩

noncomputable def wire_Reader_Flag_loops {α : Type} (wire_Reader_take : wire_Reader_take_T α) : List (LoopSpec α) := []

theorem wire_Reader_Flag_ev {α : Type} (wire_Reader_take : wire_Reader_take_T α) : EvOk (α := α) Go.Proofs.Try.prog (envOf (wire_Reader_Flag_C wire_Reader_take) wire_Reader_Flag_q wire_Reader_Flag_inl 1000 wire_Reader_Flag_ann false (wire_Reader_Flag_loops wire_Reader_take) (fun _ => none)) 6 (wire_Reader_Flag_sp (wire_Reader_Flag_g wire_Reader_take)) := by intro ds k; kernel_rfl

theorem wire_Reader_Flag_ok {α : Type} : (wire_Reader_Flag_spec : FunSpec α).ok Go.Proofs.Try.prog :=
  FunSpec.ok_of (sp := wire_Reader_Flag_spec) (C := wire_Reader_Flag_C wire_Reader_take) (q := wire_Reader_Flag_q) (inl := wire_Reader_Flag_inl) (N := 1000) (ann := wire_Reader_Flag_ann) (fr := false) (D := 6) (l := (wire_Reader_Flag_loops wire_Reader_take)) (hk := (fun _ => none)) (okCons wire_Reader_take_ok okNil) lokNil noHooks (wire_Reader_Flag_ev wire_Reader_take)

end
end Go.Rv.Try

set_option linter.unusedVariables false
set_option maxRecDepth 100000
set_option maxHeartbeats 4000000
namespace Go.Rv.Try
open Go Go.Rv Go.RowKit
noncomputable section

-- (*drayman/wire.Reader).Left

abbrev wire_Reader_Left_T (α : Type) : Type := (ByteArray × Bool × Unit) → (Int → (ByteArray × Bool × Unit) → Option α) → Option α

noncomputable def wire_Reader_Left {α : Type} (x1 : ByteArray × Bool × Unit) (k : Int → (ByteArray × Bool × Unit) → Option α) : Option α :=
  (k (x1.1.size : Int) x1)

noncomputable def wire_Reader_Left_sp {α : Type} (wire_Reader_Left : wire_Reader_Left_T α) : FunSpec α := ⟨63, [.ref 0 0], [.box [.str, .bool]], fun ds k => wire_Reader_Left (hdS ds, hdB ds.tail, ()) (fun r1 r2 => k (enc dep (.int .i64) [.i r1]).1 (encBs [.box [.str, .bool]] [.s r2.1, .b r2.2.1]).1)⟩

noncomputable def wire_Reader_Left_spec {α : Type} : FunSpec α := wire_Reader_Left_sp wire_Reader_Left

noncomputable def wire_Reader_Left_C {α : Type} : List (FunSpec α) := []

noncomputable def wire_Reader_Left_q : FuncId → Bool := fun f => false

noncomputable def wire_Reader_Left_inl : FuncId → Bool := fun f => false

noncomputable def wire_Reader_Left_ann : FuncId → AnnT := fun f p => ⟨[], [], [], [], 0, [], [], none⟩

noncomputable def wire_Reader_Left_loops {α : Type} : List (LoopSpec α) := []

theorem wire_Reader_Left_ev {α : Type} : EvOk (α := α) Go.Proofs.Try.prog (envOf (wire_Reader_Left_C) wire_Reader_Left_q wire_Reader_Left_inl 1000 wire_Reader_Left_ann false (wire_Reader_Left_loops) (fun _ => none)) 6 (wire_Reader_Left_sp (wire_Reader_Left)) := by intro ds k; kernel_rfl

theorem wire_Reader_Left_ok {α : Type} : (wire_Reader_Left_spec : FunSpec α).ok Go.Proofs.Try.prog :=
  FunSpec.ok_of (sp := wire_Reader_Left_spec) (C := wire_Reader_Left_C) (q := wire_Reader_Left_q) (inl := wire_Reader_Left_inl) (N := 1000) (ann := wire_Reader_Left_ann) (fr := false) (D := 6) (l := (wire_Reader_Left_loops)) (hk := (fun _ => none)) okNil lokNil noHooks (wire_Reader_Left_ev)

end
end Go.Rv.Try

set_option linter.unusedVariables false
set_option maxRecDepth 100000
set_option maxHeartbeats 4000000
namespace Go.Rv.Try
open Go Go.Rv Go.RowKit
noncomputable section

-- (*drayman/wire.Reader).Done

abbrev wire_Reader_Done_T (α : Type) : Type := (ByteArray × Bool × Unit) → (Bool → (ByteArray × Bool × Unit) → Option α) → Option α

noncomputable def wire_Reader_Done {α : Type} (x1 : ByteArray × Bool × Unit) (k : Bool → (ByteArray × Bool × Unit) → Option α) : Option α :=
  (cond x1.2.1
    (k (x1.1.toList == (⟨#[]⟩ : ByteArray).toList) x1)
    (k false x1))

noncomputable def wire_Reader_Done_sp {α : Type} (wire_Reader_Done : wire_Reader_Done_T α) : FunSpec α := ⟨65, [.ref 0 0], [.box [.str, .bool]], fun ds k => wire_Reader_Done (hdS ds, hdB ds.tail, ()) (fun r1 r2 => k (enc dep (.bool) [.b r1]).1 (encBs [.box [.str, .bool]] [.s r2.1, .b r2.2.1]).1)⟩

noncomputable def wire_Reader_Done_spec {α : Type} : FunSpec α := wire_Reader_Done_sp wire_Reader_Done

noncomputable def wire_Reader_Done_C {α : Type} : List (FunSpec α) := []

noncomputable def wire_Reader_Done_q : FuncId → Bool := fun f => false

noncomputable def wire_Reader_Done_inl : FuncId → Bool := fun f => false

noncomputable def wire_Reader_Done_ann : FuncId → AnnT := fun f p => ⟨[], [], [], [], 0, [], [], none⟩

noncomputable def wire_Reader_Done_loops {α : Type} : List (LoopSpec α) := []

theorem wire_Reader_Done_ev {α : Type} : EvOk (α := α) Go.Proofs.Try.prog (envOf (wire_Reader_Done_C) wire_Reader_Done_q wire_Reader_Done_inl 1000 wire_Reader_Done_ann false (wire_Reader_Done_loops) (fun _ => none)) 6 (wire_Reader_Done_sp (wire_Reader_Done)) := by intro ds k; kernel_rfl

theorem wire_Reader_Done_ok {α : Type} : (wire_Reader_Done_spec : FunSpec α).ok Go.Proofs.Try.prog :=
  FunSpec.ok_of (sp := wire_Reader_Done_spec) (C := wire_Reader_Done_C) (q := wire_Reader_Done_q) (inl := wire_Reader_Done_inl) (N := 1000) (ann := wire_Reader_Done_ann) (fr := false) (D := 6) (l := (wire_Reader_Done_loops)) (hk := (fun _ => none)) okNil lokNil noHooks (wire_Reader_Done_ev)

end
end Go.Rv.Try

set_option linter.unusedVariables false
set_option maxRecDepth 100000
set_option maxHeartbeats 4000000
namespace Go.Rv.Try
open Go Go.Rv Go.RowKit
noncomputable section

-- drayman/msg.bad

abbrev msg_bad_T (α : Type) : Type := (ByteArray × Bool × Unit) → (Bool → (ByteArray × Bool × Unit) → Option α) → Option α

noncomputable def msg_bad_g {α : Type} (wire_Reader_Left : wire_Reader_Left_T α) (wire_Reader_Done : wire_Reader_Done_T α) (x1 : ByteArray × Bool × Unit) (k : Bool → (ByteArray × Bool × Unit) → Option α) : Option α :=
  (wire_Reader_Left x1 fun r2 r3 =>
    (cond (r2 == 0)
      (wire_Reader_Done r3 fun r4 r5 =>
        (k (!r4) r5))
      (k false r3)))

noncomputable def msg_bad {α : Type} : msg_bad_T α := msg_bad_g wire_Reader_Left wire_Reader_Done

noncomputable def msg_bad_sp {α : Type} (msg_bad : msg_bad_T α) : FunSpec α := ⟨111, [.ref 0 0], [.box [.str, .bool]], fun ds k => msg_bad (hdS ds, hdB ds.tail, ()) (fun r1 r2 => k (enc dep (.bool) [.b r1]).1 (encBs [.box [.str, .bool]] [.s r2.1, .b r2.2.1]).1)⟩

noncomputable def msg_bad_spec {α : Type} : FunSpec α := msg_bad_sp msg_bad

noncomputable def msg_bad_C {α : Type} (wire_Reader_Left : wire_Reader_Left_T α) (wire_Reader_Done : wire_Reader_Done_T α) : List (FunSpec α) := [wire_Reader_Left_sp wire_Reader_Left, wire_Reader_Done_sp wire_Reader_Done]

noncomputable def msg_bad_q : FuncId → Bool := fun f => Nat.beq f 63 || Nat.beq f 65

noncomputable def msg_bad_inl : FuncId → Bool := fun f => false

noncomputable def msg_bad_ann : FuncId → AnnT := fun f p => ⟨[], [], [], [], 0, [], [], none⟩

noncomputable def msg_bad_loops {α : Type} (wire_Reader_Left : wire_Reader_Left_T α) (wire_Reader_Done : wire_Reader_Done_T α) : List (LoopSpec α) := []

theorem msg_bad_ev {α : Type} (wire_Reader_Left : wire_Reader_Left_T α) (wire_Reader_Done : wire_Reader_Done_T α) : EvOk (α := α) Go.Proofs.Try.prog (envOf (msg_bad_C wire_Reader_Left wire_Reader_Done) msg_bad_q msg_bad_inl 1000 msg_bad_ann false (msg_bad_loops wire_Reader_Left wire_Reader_Done) (fun _ => none)) 6 (msg_bad_sp (msg_bad_g wire_Reader_Left wire_Reader_Done)) := by intro ds k; kernel_rfl

theorem msg_bad_ok {α : Type} : (msg_bad_spec : FunSpec α).ok Go.Proofs.Try.prog :=
  FunSpec.ok_of (sp := msg_bad_spec) (C := msg_bad_C wire_Reader_Left wire_Reader_Done) (q := msg_bad_q) (inl := msg_bad_inl) (N := 1000) (ann := msg_bad_ann) (fr := false) (D := 6) (l := (msg_bad_loops wire_Reader_Left wire_Reader_Done)) (hk := (fun _ => none)) (okCons wire_Reader_Left_ok (okCons wire_Reader_Done_ok okNil)) lokNil noHooks (msg_bad_ev wire_Reader_Left wire_Reader_Done)

end
end Go.Rv.Try

set_option linter.unusedVariables false
set_option maxRecDepth 100000
set_option maxHeartbeats 4000000
namespace Go.Rv.Try
open Go Go.Rv Go.RowKit
noncomputable section

-- drayman/msg.TakeEntry

abbrev msg_TakeEntry_T (α : Type) : Type := (ByteArray × Bool × Unit) → (Z0 → (ByteArray × Bool × Unit) → Option α) → Option α

noncomputable def msg_TakeEntry_g {α : Type} (wire_Reader_Int : wire_Reader_Int_T α) (wire_Reader_Flag : wire_Reader_Flag_T α) (msg_bad : msg_bad_T α) (x1 : ByteArray × Bool × Unit) (k : Z0 → (ByteArray × Bool × Unit) → Option α) : Option α :=
  (wire_Reader_Int (-9223372036854775808) 9223372036854775807 x1 fun r2 r3 =>
    (wire_Reader_Int (-9223372036854775808) 9223372036854775807 r3 fun r4 r5 =>
      (wire_Reader_Int (-9223372036854775808) 9223372036854775807 r5 fun r6 r7 =>
        (wire_Reader_Flag r7 fun r8 r9 =>
          (wire_Reader_Int (-9223372036854775808) 9223372036854775807 r9 fun r10 r11 =>
            (wire_Reader_Int (-9223372036854775808) 9223372036854775807 r11 fun r12 r13 =>
              (wire_Reader_Flag r13 fun r14 r15 =>
                (msg_bad r15 fun r16 r17 =>
                  (cond r16
                    (k (0, 0, 0, false, 0, 0, false, ()) r17)
                    (k (r2, r4, r6, r8, r10, r12, r14, ()) r17))))))))))

noncomputable def msg_TakeEntry {α : Type} : msg_TakeEntry_T α := msg_TakeEntry_g wire_Reader_Int wire_Reader_Flag msg_bad

noncomputable def msg_TakeEntry_sp {α : Type} (msg_TakeEntry : msg_TakeEntry_T α) : FunSpec α := ⟨61, [.ref 0 0], [.box [.str, .bool]], fun ds k => msg_TakeEntry (hdS ds, hdB ds.tail, ()) (fun r1 r2 => k (enc dep (.agg [.int .i64, .int .i64, .int .i64, .bool, .int .i64, .int .i64, .bool]) [.i r1.1, .i r1.2.1, .i r1.2.2.1, .b r1.2.2.2.1, .i r1.2.2.2.2.1, .i r1.2.2.2.2.2.1, .b r1.2.2.2.2.2.2.1]).1 (encBs [.box [.str, .bool]] [.s r2.1, .b r2.2.1]).1)⟩

noncomputable def msg_TakeEntry_spec {α : Type} : FunSpec α := msg_TakeEntry_sp msg_TakeEntry

noncomputable def msg_TakeEntry_C {α : Type} (wire_Reader_Int : wire_Reader_Int_T α) (wire_Reader_Flag : wire_Reader_Flag_T α) (msg_bad : msg_bad_T α) : List (FunSpec α) := [wire_Reader_Int_sp wire_Reader_Int, wire_Reader_Flag_sp wire_Reader_Flag, msg_bad_sp msg_bad]

noncomputable def msg_TakeEntry_q : FuncId → Bool := fun f => Nat.beq f 106 || Nat.beq f 108 || Nat.beq f 111

noncomputable def msg_TakeEntry_inl : FuncId → Bool := fun f => Nat.beq f 107

noncomputable def msg_TakeEntry_ann : FuncId → AnnT := fun f p => if f = 107 then (if p = [true] then ⟨[0, 6, 7, 8], [0, 1, 2, 3, 4, 5, 6, 7, 8, 9, 10, 11, 12, 13, 14, 15, 16, 17, 18, 19, 20, 21, 22, 23, 24, 25, 26, 27, 28, 29, 30, 31, 32, 33, 34, 35, 36, 37, 38, 39, 40, 41, 42, 43, 44, 45, 46, 47], [], [], 0, [], [], none⟩ else ⟨[], [], [], [], 0, [], [], none⟩) else ⟨[], [], [], [], 0, [], [], none⟩

noncomputable def msg_TakeEntry_loops {α : Type} (wire_Reader_Int : wire_Reader_Int_T α) (wire_Reader_Flag : wire_Reader_Flag_T α) (msg_bad : msg_bad_T α) : List (LoopSpec α) := []

theorem msg_TakeEntry_ev {α : Type} (wire_Reader_Int : wire_Reader_Int_T α) (wire_Reader_Flag : wire_Reader_Flag_T α) (msg_bad : msg_bad_T α) : EvOk (α := α) Go.Proofs.Try.prog (envOf (msg_TakeEntry_C wire_Reader_Int wire_Reader_Flag msg_bad) msg_TakeEntry_q msg_TakeEntry_inl 1000 msg_TakeEntry_ann false (msg_TakeEntry_loops wire_Reader_Int wire_Reader_Flag msg_bad) (fun _ => none)) 6 (msg_TakeEntry_sp (msg_TakeEntry_g wire_Reader_Int wire_Reader_Flag msg_bad)) := by intro ds k; kernel_rfl

theorem msg_TakeEntry_ok {α : Type} : (msg_TakeEntry_spec : FunSpec α).ok Go.Proofs.Try.prog :=
  FunSpec.ok_of (sp := msg_TakeEntry_spec) (C := msg_TakeEntry_C wire_Reader_Int wire_Reader_Flag msg_bad) (q := msg_TakeEntry_q) (inl := msg_TakeEntry_inl) (N := 1000) (ann := msg_TakeEntry_ann) (fr := false) (D := 6) (l := (msg_TakeEntry_loops wire_Reader_Int wire_Reader_Flag msg_bad)) (hk := (fun _ => none)) (okCons wire_Reader_Int_ok (okCons wire_Reader_Flag_ok (okCons msg_bad_ok okNil))) lokNil noHooks (msg_TakeEntry_ev wire_Reader_Int wire_Reader_Flag msg_bad)

end
end Go.Rv.Try

set_option linter.unusedVariables false
set_option maxRecDepth 100000
set_option maxHeartbeats 4000000
namespace Go.Rv.Try
open Go Go.Rv Go.RowKit
noncomputable section

-- drayman/msg.TakeReply

abbrev msg_TakeReply_T (α : Type) : Type := (ByteArray × Bool × Unit) → ((Int × Int × Int × Int × Bool × Int × Int × Unit) → (ByteArray × Bool × Unit) → Option α) → Option α

noncomputable def msg_TakeReply_g {α : Type} (wire_Reader_Int : wire_Reader_Int_T α) (wire_Reader_Flag : wire_Reader_Flag_T α) (msg_bad : msg_bad_T α) (x1 : ByteArray × Bool × Unit) (k : (Int × Int × Int × Int × Bool × Int × Int × Unit) → (ByteArray × Bool × Unit) → Option α) : Option α :=
  (wire_Reader_Int (-9223372036854775808) 9223372036854775807 x1 fun r2 r3 =>
    (wire_Reader_Int (-9223372036854775808) 9223372036854775807 r3 fun r4 r5 =>
      (wire_Reader_Int (-9223372036854775808) 9223372036854775807 r5 fun r6 r7 =>
        (wire_Reader_Int (-9223372036854775808) 9223372036854775807 r7 fun r8 r9 =>
          (wire_Reader_Flag r9 fun r10 r11 =>
            (wire_Reader_Int (-9223372036854775808) 9223372036854775807 r11 fun r12 r13 =>
              (wire_Reader_Int (-9223372036854775808) 9223372036854775807 r13 fun r14 r15 =>
                (msg_bad r15 fun r16 r17 =>
                  (cond r16
                    (k (0, 0, 0, 0, false, 0, 0, ()) r17)
                    (k (r2, r4, r6, r8, r10, r12, r14, ()) r17))))))))))

noncomputable def msg_TakeReply {α : Type} : msg_TakeReply_T α := msg_TakeReply_g wire_Reader_Int wire_Reader_Flag msg_bad

noncomputable def msg_TakeReply_sp {α : Type} (msg_TakeReply : msg_TakeReply_T α) : FunSpec α := ⟨67, [.ref 0 0], [.box [.str, .bool]], fun ds k => msg_TakeReply (hdS ds, hdB ds.tail, ()) (fun r1 r2 => k (enc dep (.agg [.int .i64, .int .i64, .int .i64, .int .i64, .bool, .int .i64, .int .i64]) [.i r1.1, .i r1.2.1, .i r1.2.2.1, .i r1.2.2.2.1, .b r1.2.2.2.2.1, .i r1.2.2.2.2.2.1, .i r1.2.2.2.2.2.2.1]).1 (encBs [.box [.str, .bool]] [.s r2.1, .b r2.2.1]).1)⟩

noncomputable def msg_TakeReply_spec {α : Type} : FunSpec α := msg_TakeReply_sp msg_TakeReply

noncomputable def msg_TakeReply_C {α : Type} (wire_Reader_Int : wire_Reader_Int_T α) (wire_Reader_Flag : wire_Reader_Flag_T α) (msg_bad : msg_bad_T α) : List (FunSpec α) := [wire_Reader_Int_sp wire_Reader_Int, wire_Reader_Flag_sp wire_Reader_Flag, msg_bad_sp msg_bad]

noncomputable def msg_TakeReply_q : FuncId → Bool := fun f => Nat.beq f 106 || Nat.beq f 108 || Nat.beq f 111

noncomputable def msg_TakeReply_inl : FuncId → Bool := fun f => Nat.beq f 107

noncomputable def msg_TakeReply_ann : FuncId → AnnT := fun f p => if f = 107 then (if p = [true] then ⟨[0, 6, 7, 8], [0, 1, 2, 3, 4, 5, 6, 7, 8, 9, 10, 11, 12, 13, 14, 15, 16, 17, 18, 19, 20, 21, 22, 23, 24, 25, 26, 27, 28, 29, 30, 31, 32, 33, 34, 35, 36, 37, 38, 39, 40, 41, 42, 43, 44, 45, 46, 47], [], [], 0, [], [], none⟩ else ⟨[], [], [], [], 0, [], [], none⟩) else ⟨[], [], [], [], 0, [], [], none⟩

noncomputable def msg_TakeReply_loops {α : Type} (wire_Reader_Int : wire_Reader_Int_T α) (wire_Reader_Flag : wire_Reader_Flag_T α) (msg_bad : msg_bad_T α) : List (LoopSpec α) := []

theorem msg_TakeReply_ev {α : Type} (wire_Reader_Int : wire_Reader_Int_T α) (wire_Reader_Flag : wire_Reader_Flag_T α) (msg_bad : msg_bad_T α) : EvOk (α := α) Go.Proofs.Try.prog (envOf (msg_TakeReply_C wire_Reader_Int wire_Reader_Flag msg_bad) msg_TakeReply_q msg_TakeReply_inl 1000 msg_TakeReply_ann false (msg_TakeReply_loops wire_Reader_Int wire_Reader_Flag msg_bad) (fun _ => none)) 6 (msg_TakeReply_sp (msg_TakeReply_g wire_Reader_Int wire_Reader_Flag msg_bad)) := by intro ds k; kernel_rfl

theorem msg_TakeReply_ok {α : Type} : (msg_TakeReply_spec : FunSpec α).ok Go.Proofs.Try.prog :=
  FunSpec.ok_of (sp := msg_TakeReply_spec) (C := msg_TakeReply_C wire_Reader_Int wire_Reader_Flag msg_bad) (q := msg_TakeReply_q) (inl := msg_TakeReply_inl) (N := 1000) (ann := msg_TakeReply_ann) (fr := false) (D := 6) (l := (msg_TakeReply_loops wire_Reader_Int wire_Reader_Flag msg_bad)) (hk := (fun _ => none)) (okCons wire_Reader_Int_ok (okCons wire_Reader_Flag_ok (okCons msg_bad_ok okNil))) lokNil noHooks (msg_TakeReply_ev wire_Reader_Int wire_Reader_Flag msg_bad)

end
end Go.Rv.Try

set_option linter.unusedVariables false
set_option maxRecDepth 100000
set_option maxHeartbeats 4000000
namespace Go.Rv.Try
open Go Go.Rv Go.RowKit
noncomputable section

-- drayman/msg.Take

abbrev msg_Take_T (α : Type) : Type := ByteArray → ((Int × Bool × Int × Int × Int × Int × Bool × Int × Int × Bool × Int × Int × Int × Int × Bool × Int × Int × Unit) → Int → Option α) → Option α

noncomputable def msg_Take_g {α : Type} (wire_Reader_Int : wire_Reader_Int_T α) (wire_Reader_Flag : wire_Reader_Flag_T α) (msg_TakeEntry : msg_TakeEntry_T α) (outbox_Service : outbox_Service_T α) (wire_Reader_Done : wire_Reader_Done_T α) (msg_Fit : msg_Fit_T α) (msg_TakeReply : msg_TakeReply_T α) (s1 : ByteArray) (k : (Int × Bool × Int × Int × Int × Int × Bool × Int × Int × Bool × Int × Int × Int × Int × Bool × Int × Int × Unit) → Int → Option α) : Option α :=
  (wire_Reader_Int 1 1 (s1, true, ()) fun r2 r3 =>
    (wire_Reader_Int (-9223372036854775808) 9223372036854775807 r3 fun r4 r5 =>
      (wire_Reader_Flag r5 fun r6 r7 =>
        (cond r6
          (msg_TakeEntry r7 fun r8 r9 =>
            (outbox_Service r8.2.2.2.2.1 fun r10 =>
              (wire_Reader_Done r9 fun r11 r12 =>
                (cond (!(!r11))
                  (msg_Fit (r4, r6, r10, r8.1, r8.2.1, r8.2.2.1, r8.2.2.2.1, r8.2.2.2.2.1, r8.2.2.2.2.2.1, r8.2.2.2.2.2.2.1, 0, 0, 0, 0, false, 0, 0, ()) fun r13 =>
                    (cond (!r13)
                      (k (0, false, 0, 0, 0, 0, false, 0, 0, false, 0, 0, 0, 0, false, 0, 0, ()) 7)
                      (k (r4, r6, r10, r8.1, r8.2.1, r8.2.2.1, r8.2.2.2.1, r8.2.2.2.2.1, r8.2.2.2.2.2.1, r8.2.2.2.2.2.2.1, 0, 0, 0, 0, false, 0, 0, ()) 0)))
                  (k (0, false, 0, 0, 0, 0, false, 0, 0, false, 0, 0, 0, 0, false, 0, 0, ()) 7)))))
          (msg_TakeReply r7 fun r14 r15 =>
            (wire_Reader_Done r15 fun r16 r17 =>
              (cond (!(!r16))
                (msg_Fit (r4, r6, r14.1, 0, 0, 0, false, 0, 0, false, r14.1, r14.2.1, r14.2.2.1, r14.2.2.2.1, r14.2.2.2.2.1, r14.2.2.2.2.2.1, r14.2.2.2.2.2.2.1, ()) fun r18 =>
                  (cond (!r18)
                    (k (0, false, 0, 0, 0, 0, false, 0, 0, false, 0, 0, 0, 0, false, 0, 0, ()) 7)
                    (k (r4, r6, r14.1, 0, 0, 0, false, 0, 0, false, r14.1, r14.2.1, r14.2.2.1, r14.2.2.2.1, r14.2.2.2.2.1, r14.2.2.2.2.2.1, r14.2.2.2.2.2.2.1, ()) 0)))
                (k (0, false, 0, 0, 0, 0, false, 0, 0, false, 0, 0, 0, 0, false, 0, 0, ()) 7))))))))

noncomputable def msg_Take {α : Type} : msg_Take_T α := msg_Take_g wire_Reader_Int wire_Reader_Flag msg_TakeEntry outbox_Service wire_Reader_Done msg_Fit msg_TakeReply

noncomputable def msg_Take_sp {α : Type} (msg_Take : msg_Take_T α) : FunSpec α := ⟨58, [.str], [], fun ds k => msg_Take (hdS ds) (fun r1 r2 => k (enc dep (.tup [.agg [.int .i64, .bool, .int .i64, .int .i64, .int .i64, .int .i64, .bool, .int .i64, .int .i64, .bool, .int .i64, .int .i64, .int .i64, .int .i64, .bool, .int .i64, .int .i64], .int .i64]) [.i r1.1, .b r1.2.1, .i r1.2.2.1, .i r1.2.2.2.1, .i r1.2.2.2.2.1, .i r1.2.2.2.2.2.1, .b r1.2.2.2.2.2.2.1, .i r1.2.2.2.2.2.2.2.1, .i r1.2.2.2.2.2.2.2.2.1, .b r1.2.2.2.2.2.2.2.2.2.1, .i r1.2.2.2.2.2.2.2.2.2.2.1, .i r1.2.2.2.2.2.2.2.2.2.2.2.1, .i r1.2.2.2.2.2.2.2.2.2.2.2.2.1, .i r1.2.2.2.2.2.2.2.2.2.2.2.2.2.1, .b r1.2.2.2.2.2.2.2.2.2.2.2.2.2.2.1, .i r1.2.2.2.2.2.2.2.2.2.2.2.2.2.2.2.1, .i r1.2.2.2.2.2.2.2.2.2.2.2.2.2.2.2.2.1, .i r2]).1 [])⟩

noncomputable def msg_Take_spec {α : Type} : FunSpec α := msg_Take_sp msg_Take

noncomputable def msg_Take_C {α : Type} (wire_Reader_Int : wire_Reader_Int_T α) (wire_Reader_Flag : wire_Reader_Flag_T α) (msg_TakeEntry : msg_TakeEntry_T α) (outbox_Service : outbox_Service_T α) (wire_Reader_Done : wire_Reader_Done_T α) (msg_Fit : msg_Fit_T α) (msg_TakeReply : msg_TakeReply_T α) : List (FunSpec α) := [wire_Reader_Int_sp wire_Reader_Int, wire_Reader_Flag_sp wire_Reader_Flag, msg_TakeEntry_sp msg_TakeEntry, outbox_Service_sp outbox_Service, wire_Reader_Done_sp wire_Reader_Done, msg_Fit_sp msg_Fit, msg_TakeReply_sp msg_TakeReply]

noncomputable def msg_Take_q : FuncId → Bool := fun f => Nat.beq f 49 || Nat.beq f 61 || Nat.beq f 65 || Nat.beq f 67 || Nat.beq f 81 || Nat.beq f 106 || Nat.beq f 108

noncomputable def msg_Take_inl : FuncId → Bool := fun f => Nat.beq f 60 || Nat.beq f 107

noncomputable def msg_Take_ann : FuncId → AnnT := fun f p => if f = 107 then (if p = [true] then ⟨[0, 6, 7, 8], [0, 1, 2, 3, 4, 5, 6, 7, 8, 9, 10, 11, 12, 13, 14, 15, 16, 17, 18, 19, 20, 21, 22, 23, 24, 25, 26, 27, 28, 29, 30, 31, 32, 33, 34, 35, 36, 37, 38, 39, 40, 41, 42, 43, 44, 45, 46, 47], [], [], 0, [], [], none⟩ else ⟨[], [], [], [], 0, [], [], none⟩) else ⟨[], [], [], [], 0, [], [], none⟩

noncomputable def msg_Take_loops {α : Type} (wire_Reader_Int : wire_Reader_Int_T α) (wire_Reader_Flag : wire_Reader_Flag_T α) (msg_TakeEntry : msg_TakeEntry_T α) (outbox_Service : outbox_Service_T α) (wire_Reader_Done : wire_Reader_Done_T α) (msg_Fit : msg_Fit_T α) (msg_TakeReply : msg_TakeReply_T α) : List (LoopSpec α) := []

theorem msg_Take_ev {α : Type} (wire_Reader_Int : wire_Reader_Int_T α) (wire_Reader_Flag : wire_Reader_Flag_T α) (msg_TakeEntry : msg_TakeEntry_T α) (outbox_Service : outbox_Service_T α) (wire_Reader_Done : wire_Reader_Done_T α) (msg_Fit : msg_Fit_T α) (msg_TakeReply : msg_TakeReply_T α) : EvOk (α := α) Go.Proofs.Try.prog (envOf (msg_Take_C wire_Reader_Int wire_Reader_Flag msg_TakeEntry outbox_Service wire_Reader_Done msg_Fit msg_TakeReply) msg_Take_q msg_Take_inl 1000 msg_Take_ann false (msg_Take_loops wire_Reader_Int wire_Reader_Flag msg_TakeEntry outbox_Service wire_Reader_Done msg_Fit msg_TakeReply) (fun _ => none)) 6 (msg_Take_sp (msg_Take_g wire_Reader_Int wire_Reader_Flag msg_TakeEntry outbox_Service wire_Reader_Done msg_Fit msg_TakeReply)) := by intro ds k; kernel_rfl

theorem msg_Take_ok {α : Type} : (msg_Take_spec : FunSpec α).ok Go.Proofs.Try.prog :=
  FunSpec.ok_of (sp := msg_Take_spec) (C := msg_Take_C wire_Reader_Int wire_Reader_Flag msg_TakeEntry outbox_Service wire_Reader_Done msg_Fit msg_TakeReply) (q := msg_Take_q) (inl := msg_Take_inl) (N := 1000) (ann := msg_Take_ann) (fr := false) (D := 6) (l := (msg_Take_loops wire_Reader_Int wire_Reader_Flag msg_TakeEntry outbox_Service wire_Reader_Done msg_Fit msg_TakeReply)) (hk := (fun _ => none)) (okCons wire_Reader_Int_ok (okCons wire_Reader_Flag_ok (okCons msg_TakeEntry_ok (okCons outbox_Service_ok (okCons wire_Reader_Done_ok (okCons msg_Fit_ok (okCons msg_TakeReply_ok okNil))))))) lokNil noHooks (msg_Take_ev wire_Reader_Int wire_Reader_Flag msg_TakeEntry outbox_Service wire_Reader_Done msg_Fit msg_TakeReply)

end
end Go.Rv.Try

set_option linter.unusedVariables false
set_option maxRecDepth 100000
set_option maxHeartbeats 4000000
namespace Go.Rv.Try
open Go Go.Rv Go.RowKit
noncomputable section

-- drayman/draymanlaw23.awake

abbrev draymanlaw23_awake_T (α : Type) : Type := (Bool → Option α) → Option α

noncomputable def draymanlaw23_awake_g {α : Type} (msg_Put : msg_Put_T α) (msg_Take : msg_Take_T α) (k : Bool → Option α) : Option α :=
  (msg_Put (9, false, 1, 0, 0, 0, false, 0, 0, false, 1, 1, 3, 0, false, 2, 1, ()) fun r1 r2 =>
    (msg_Take r1 fun r3 r4 =>
      (msg_Take (⟨#[]⟩ : ByteArray) fun r5 r6 =>
        (cond (r2 == 0)
          (cond (r4 == 0)
            (cond ((r3.1 == 9) && ((r3.2.1 == false) && ((r3.2.2.1 == 1) && (((r3.2.2.2.1 == 0) && ((r3.2.2.2.2.1 == 0) && ((r3.2.2.2.2.2.1 == 0) && ((r3.2.2.2.2.2.2.1 == false) && ((r3.2.2.2.2.2.2.2.1 == 0) && ((r3.2.2.2.2.2.2.2.2.1 == 0) && ((r3.2.2.2.2.2.2.2.2.2.1 == false) && true))))))) && (((r3.2.2.2.2.2.2.2.2.2.2.1 == 1) && ((r3.2.2.2.2.2.2.2.2.2.2.2.1 == 1) && ((r3.2.2.2.2.2.2.2.2.2.2.2.2.1 == 3) && ((r3.2.2.2.2.2.2.2.2.2.2.2.2.2.1 == 0) && ((r3.2.2.2.2.2.2.2.2.2.2.2.2.2.2.1 == false) && ((r3.2.2.2.2.2.2.2.2.2.2.2.2.2.2.2.1 == 2) && ((r3.2.2.2.2.2.2.2.2.2.2.2.2.2.2.2.2.1 == 1) && true))))))) && true)))))
              (cond ((r1.size : Int) == 17)
                (k (r6 == 7))
                (k false))
              (k false))
            (k false))
          (k false)))))

noncomputable def draymanlaw23_awake {α : Type} : draymanlaw23_awake_T α := draymanlaw23_awake_g msg_Put msg_Take

noncomputable def draymanlaw23_awake_sp {α : Type} (draymanlaw23_awake : draymanlaw23_awake_T α) : FunSpec α := ⟨57, [], [], fun ds k => draymanlaw23_awake  (fun r1 => k (enc dep (.bool) [.b r1]).1 [])⟩

noncomputable def draymanlaw23_awake_spec {α : Type} : FunSpec α := draymanlaw23_awake_sp draymanlaw23_awake

noncomputable def draymanlaw23_awake_C {α : Type} (msg_Put : msg_Put_T α) (msg_Take : msg_Take_T α) : List (FunSpec α) := [msg_Put_sp msg_Put, msg_Take_sp msg_Take]

noncomputable def draymanlaw23_awake_q : FuncId → Bool := fun f => Nat.beq f 47 || Nat.beq f 58

noncomputable def draymanlaw23_awake_inl : FuncId → Bool := fun f => false

noncomputable def draymanlaw23_awake_ann : FuncId → AnnT := fun f p => ⟨[], [], [], [], 0, [], [], none⟩

noncomputable def draymanlaw23_awake_loops {α : Type} (msg_Put : msg_Put_T α) (msg_Take : msg_Take_T α) : List (LoopSpec α) := []

theorem draymanlaw23_awake_ev {α : Type} (msg_Put : msg_Put_T α) (msg_Take : msg_Take_T α) : EvOk (α := α) Go.Proofs.Try.prog (envOf (draymanlaw23_awake_C msg_Put msg_Take) draymanlaw23_awake_q draymanlaw23_awake_inl 1000 draymanlaw23_awake_ann false (draymanlaw23_awake_loops msg_Put msg_Take) (fun _ => none)) 6 (draymanlaw23_awake_sp (draymanlaw23_awake_g msg_Put msg_Take)) := by intro ds k; kernel_rfl

theorem draymanlaw23_awake_ok {α : Type} : (draymanlaw23_awake_spec : FunSpec α).ok Go.Proofs.Try.prog :=
  FunSpec.ok_of (sp := draymanlaw23_awake_spec) (C := draymanlaw23_awake_C msg_Put msg_Take) (q := draymanlaw23_awake_q) (inl := draymanlaw23_awake_inl) (N := 1000) (ann := draymanlaw23_awake_ann) (fr := false) (D := 6) (l := (draymanlaw23_awake_loops msg_Put msg_Take)) (hk := (fun _ => none)) (okCons msg_Put_ok (okCons msg_Take_ok okNil)) lokNil noHooks (draymanlaw23_awake_ev msg_Put msg_Take)

end
end Go.Rv.Try

set_option linter.unusedVariables false
set_option maxRecDepth 100000
set_option maxHeartbeats 4000000
namespace Go.Rv.Try
open Go Go.Rv Go.RowKit
noncomputable section

-- drayman/draymanlaw23.MsgPuts

abbrev draymanlaw23_MsgPuts_T (α : Type) : Type := (Int × Bool × Int × Int × Int × Int × Bool × Int × Int × Bool × Int × Int × Int × Int × Bool × Int × Int × Unit) → Z0 → (Int × Int × Int × Int × Bool × Int × Int × Unit) → (Bool → Option α) → Option α

noncomputable def draymanlaw23_MsgPuts_g {α : Type} (msg_Put : msg_Put_T α) (draymanref23_Put : draymanref23_Put_T α) (msg_Fit : msg_Fit_T α) (draymanref23_Fit : draymanref23_Fit_T α) (msg_FitReply : msg_FitReply_T α) (draymanref23_FitReply : draymanref23_FitReply_T α) (msg_PutEntry : msg_PutEntry_T α) (draymanref23_PutEntry : draymanref23_PutEntry_T α) (msg_PutReply : msg_PutReply_T α) (draymanref23_PutReply : draymanref23_PutReply_T α) (draymanlaw23_awake : draymanlaw23_awake_T α) (x1 : Int × Bool × Int × Int × Int × Int × Bool × Int × Int × Bool × Int × Int × Int × Int × Bool × Int × Int × Unit) (e2 : Int × Int × Int × Bool × Int × Int × Bool × Unit) (r3 : Int × Int × Int × Int × Bool × Int × Int × Unit) (k : Bool → Option α) : Option α :=
  (msg_Put x1 fun r4 r5 =>
    (draymanref23_Put x1 fun r6 r7 =>
      (msg_Fit x1 fun r8 =>
        (draymanref23_Fit x1 fun r9 =>
          (cond (r8 == r9)
            (msg_FitReply r3 fun r10 =>
              (draymanref23_FitReply r3 fun r11 =>
                (cond (r10 == r11)
                  (msg_PutEntry e2 fun r12 =>
                    (draymanref23_PutEntry e2 fun r13 =>
                      (cond (r12.toList == r13.toList)
                        (msg_PutReply r3 fun r14 =>
                          (draymanref23_PutReply r3 fun r15 =>
                            (cond (r14.toList == r15.toList)
                              (cond (r4.toList == r6.toList)
                                (cond (r5 == r7)
                                  (draymanlaw23_awake fun r16 =>
                                    (k r16))
                                  (k false))
                                (k false))
                              (k false))))
                        (k false))))
                  (k false))))
            (k false))))))

noncomputable def draymanlaw23_MsgPuts {α : Type} : draymanlaw23_MsgPuts_T α := draymanlaw23_MsgPuts_g msg_Put draymanref23_Put msg_Fit draymanref23_Fit msg_FitReply draymanref23_FitReply msg_PutEntry draymanref23_PutEntry msg_PutReply draymanref23_PutReply draymanlaw23_awake

noncomputable def draymanlaw23_MsgPuts_sp {α : Type} (draymanlaw23_MsgPuts : draymanlaw23_MsgPuts_T α) : FunSpec α := ⟨8, [.agg [.int .i64, .bool, .int .i64, .int .i64, .int .i64, .int .i64, .bool, .int .i64, .int .i64, .bool, .int .i64, .int .i64, .int .i64, .int .i64, .bool, .int .i64, .int .i64], .agg [.int .i64, .int .i64, .int .i64, .bool, .int .i64, .int .i64, .bool], .agg [.int .i64, .int .i64, .int .i64, .int .i64, .bool, .int .i64, .int .i64]], [], fun ds k => draymanlaw23_MsgPuts (hdI ds, hdB ds.tail, hdI ds.tail.tail, hdI ds.tail.tail.tail, hdI ds.tail.tail.tail.tail, hdI ds.tail.tail.tail.tail.tail, hdB ds.tail.tail.tail.tail.tail.tail, hdI ds.tail.tail.tail.tail.tail.tail.tail, hdI ds.tail.tail.tail.tail.tail.tail.tail.tail, hdB ds.tail.tail.tail.tail.tail.tail.tail.tail.tail, hdI ds.tail.tail.tail.tail.tail.tail.tail.tail.tail.tail, hdI ds.tail.tail.tail.tail.tail.tail.tail.tail.tail.tail.tail, hdI ds.tail.tail.tail.tail.tail.tail.tail.tail.tail.tail.tail.tail, hdI ds.tail.tail.tail.tail.tail.tail.tail.tail.tail.tail.tail.tail.tail, hdB ds.tail.tail.tail.tail.tail.tail.tail.tail.tail.tail.tail.tail.tail.tail, hdI ds.tail.tail.tail.tail.tail.tail.tail.tail.tail.tail.tail.tail.tail.tail.tail, hdI ds.tail.tail.tail.tail.tail.tail.tail.tail.tail.tail.tail.tail.tail.tail.tail.tail, ()) (hdI ds.tail.tail.tail.tail.tail.tail.tail.tail.tail.tail.tail.tail.tail.tail.tail.tail.tail, hdI ds.tail.tail.tail.tail.tail.tail.tail.tail.tail.tail.tail.tail.tail.tail.tail.tail.tail.tail, hdI ds.tail.tail.tail.tail.tail.tail.tail.tail.tail.tail.tail.tail.tail.tail.tail.tail.tail.tail.tail, hdB ds.tail.tail.tail.tail.tail.tail.tail.tail.tail.tail.tail.tail.tail.tail.tail.tail.tail.tail.tail.tail, hdI ds.tail.tail.tail.tail.tail.tail.tail.tail.tail.tail.tail.tail.tail.tail.tail.tail.tail.tail.tail.tail.tail, hdI ds.tail.tail.tail.tail.tail.tail.tail.tail.tail.tail.tail.tail.tail.tail.tail.tail.tail.tail.tail.tail.tail.tail, hdB ds.tail.tail.tail.tail.tail.tail.tail.tail.tail.tail.tail.tail.tail.tail.tail.tail.tail.tail.tail.tail.tail.tail.tail, ()) (hdI ds.tail.tail.tail.tail.tail.tail.tail.tail.tail.tail.tail.tail.tail.tail.tail.tail.tail.tail.tail.tail.tail.tail.tail.tail, hdI ds.tail.tail.tail.tail.tail.tail.tail.tail.tail.tail.tail.tail.tail.tail.tail.tail.tail.tail.tail.tail.tail.tail.tail.tail.tail, hdI ds.tail.tail.tail.tail.tail.tail.tail.tail.tail.tail.tail.tail.tail.tail.tail.tail.tail.tail.tail.tail.tail.tail.tail.tail.tail.tail, hdI ds.tail.tail.tail.tail.tail.tail.tail.tail.tail.tail.tail.tail.tail.tail.tail.tail.tail.tail.tail.tail.tail.tail.tail.tail.tail.tail.tail, hdB ds.tail.tail.tail.tail.tail.tail.tail.tail.tail.tail.tail.tail.tail.tail.tail.tail.tail.tail.tail.tail.tail.tail.tail.tail.tail.tail.tail.tail, hdI ds.tail.tail.tail.tail.tail.tail.tail.tail.tail.tail.tail.tail.tail.tail.tail.tail.tail.tail.tail.tail.tail.tail.tail.tail.tail.tail.tail.tail.tail, hdI ds.tail.tail.tail.tail.tail.tail.tail.tail.tail.tail.tail.tail.tail.tail.tail.tail.tail.tail.tail.tail.tail.tail.tail.tail.tail.tail.tail.tail.tail.tail, ()) (fun r1 => k (enc dep (.bool) [.b r1]).1 [])⟩

noncomputable def draymanlaw23_MsgPuts_spec {α : Type} : FunSpec α := draymanlaw23_MsgPuts_sp draymanlaw23_MsgPuts

noncomputable def draymanlaw23_MsgPuts_C {α : Type} (msg_Put : msg_Put_T α) (draymanref23_Put : draymanref23_Put_T α) (msg_Fit : msg_Fit_T α) (draymanref23_Fit : draymanref23_Fit_T α) (msg_FitReply : msg_FitReply_T α) (draymanref23_FitReply : draymanref23_FitReply_T α) (msg_PutEntry : msg_PutEntry_T α) (draymanref23_PutEntry : draymanref23_PutEntry_T α) (msg_PutReply : msg_PutReply_T α) (draymanref23_PutReply : draymanref23_PutReply_T α) (draymanlaw23_awake : draymanlaw23_awake_T α) : List (FunSpec α) := [msg_Put_sp msg_Put, draymanref23_Put_sp draymanref23_Put, msg_Fit_sp msg_Fit, draymanref23_Fit_sp draymanref23_Fit, msg_FitReply_sp msg_FitReply, draymanref23_FitReply_sp draymanref23_FitReply, msg_PutEntry_sp msg_PutEntry, draymanref23_PutEntry_sp draymanref23_PutEntry, msg_PutReply_sp msg_PutReply, draymanref23_PutReply_sp draymanref23_PutReply, draymanlaw23_awake_sp draymanlaw23_awake]

noncomputable def draymanlaw23_MsgPuts_q : FuncId → Bool := fun f => Nat.beq f 47 || Nat.beq f 48 || Nat.beq f 49 || Nat.beq f 50 || Nat.beq f 51 || Nat.beq f 52 || Nat.beq f 53 || Nat.beq f 54 || Nat.beq f 55 || Nat.beq f 56 || Nat.beq f 57

noncomputable def draymanlaw23_MsgPuts_inl : FuncId → Bool := fun f => false

noncomputable def draymanlaw23_MsgPuts_ann : FuncId → AnnT := fun f p => if f = 8 then (if p = [false, true, true, true] then ⟨[], [], [], [], 2, [], [], none⟩ else ⟨[], [], [], [], 0, [], [], none⟩) else ⟨[], [], [], [], 0, [], [], none⟩

noncomputable def draymanlaw23_MsgPuts_loops {α : Type} (msg_Put : msg_Put_T α) (draymanref23_Put : draymanref23_Put_T α) (msg_Fit : msg_Fit_T α) (draymanref23_Fit : draymanref23_Fit_T α) (msg_FitReply : msg_FitReply_T α) (draymanref23_FitReply : draymanref23_FitReply_T α) (msg_PutEntry : msg_PutEntry_T α) (draymanref23_PutEntry : draymanref23_PutEntry_T α) (msg_PutReply : msg_PutReply_T α) (draymanref23_PutReply : draymanref23_PutReply_T α) (draymanlaw23_awake : draymanlaw23_awake_T α) : List (LoopSpec α) := []

theorem draymanlaw23_MsgPuts_ev {α : Type} (msg_Put : msg_Put_T α) (draymanref23_Put : draymanref23_Put_T α) (msg_Fit : msg_Fit_T α) (draymanref23_Fit : draymanref23_Fit_T α) (msg_FitReply : msg_FitReply_T α) (draymanref23_FitReply : draymanref23_FitReply_T α) (msg_PutEntry : msg_PutEntry_T α) (draymanref23_PutEntry : draymanref23_PutEntry_T α) (msg_PutReply : msg_PutReply_T α) (draymanref23_PutReply : draymanref23_PutReply_T α) (draymanlaw23_awake : draymanlaw23_awake_T α) : EvOk (α := α) Go.Proofs.Try.prog (envOf (draymanlaw23_MsgPuts_C msg_Put draymanref23_Put msg_Fit draymanref23_Fit msg_FitReply draymanref23_FitReply msg_PutEntry draymanref23_PutEntry msg_PutReply draymanref23_PutReply draymanlaw23_awake) draymanlaw23_MsgPuts_q draymanlaw23_MsgPuts_inl 1000 draymanlaw23_MsgPuts_ann false (draymanlaw23_MsgPuts_loops msg_Put draymanref23_Put msg_Fit draymanref23_Fit msg_FitReply draymanref23_FitReply msg_PutEntry draymanref23_PutEntry msg_PutReply draymanref23_PutReply draymanlaw23_awake) (fun _ => none)) 6 (draymanlaw23_MsgPuts_sp (draymanlaw23_MsgPuts_g msg_Put draymanref23_Put msg_Fit draymanref23_Fit msg_FitReply draymanref23_FitReply msg_PutEntry draymanref23_PutEntry msg_PutReply draymanref23_PutReply draymanlaw23_awake)) := by intro ds k; kernel_rfl

theorem draymanlaw23_MsgPuts_ok {α : Type} : (draymanlaw23_MsgPuts_spec : FunSpec α).ok Go.Proofs.Try.prog :=
  FunSpec.ok_of (sp := draymanlaw23_MsgPuts_spec) (C := draymanlaw23_MsgPuts_C msg_Put draymanref23_Put msg_Fit draymanref23_Fit msg_FitReply draymanref23_FitReply msg_PutEntry draymanref23_PutEntry msg_PutReply draymanref23_PutReply draymanlaw23_awake) (q := draymanlaw23_MsgPuts_q) (inl := draymanlaw23_MsgPuts_inl) (N := 1000) (ann := draymanlaw23_MsgPuts_ann) (fr := false) (D := 6) (l := (draymanlaw23_MsgPuts_loops msg_Put draymanref23_Put msg_Fit draymanref23_Fit msg_FitReply draymanref23_FitReply msg_PutEntry draymanref23_PutEntry msg_PutReply draymanref23_PutReply draymanlaw23_awake)) (hk := (fun _ => none)) (okCons msg_Put_ok (okCons draymanref23_Put_ok (okCons msg_Fit_ok (okCons draymanref23_Fit_ok (okCons msg_FitReply_ok (okCons draymanref23_FitReply_ok (okCons msg_PutEntry_ok (okCons draymanref23_PutEntry_ok (okCons msg_PutReply_ok (okCons draymanref23_PutReply_ok (okCons draymanlaw23_awake_ok okNil))))))))))) lokNil noHooks (draymanlaw23_MsgPuts_ev msg_Put draymanref23_Put msg_Fit draymanref23_Fit msg_FitReply draymanref23_FitReply msg_PutEntry draymanref23_PutEntry msg_PutReply draymanref23_PutReply draymanlaw23_awake)

end
end Go.Rv.Try

set_option linter.unusedVariables false
set_option maxRecDepth 100000
set_option maxHeartbeats 4000000
namespace Go.Rv.Try
open Go Go.Rv Go.RowKit
noncomputable section

-- (*drayman/draymanref03.Reader).fails

abbrev draymanref03_Reader_fails_T (α : Type) : Type := (ByteArray × Bool × Unit) → ((ByteArray × Bool × Unit) → Option α) → Option α

noncomputable def draymanref03_Reader_fails {α : Type} (x1 : ByteArray × Bool × Unit) (k : (ByteArray × Bool × Unit) → Option α) : Option α :=
  (k ((⟨#[]⟩ : ByteArray), true, ()))

noncomputable def draymanref03_Reader_fails_sp {α : Type} (draymanref03_Reader_fails : draymanref03_Reader_fails_T α) : FunSpec α := ⟨138, [.ref 0 0], [.box [.str, .bool]], fun ds k => draymanref03_Reader_fails (hdS ds, hdB ds.tail, ()) (fun r1 => k (enc dep (.tup []) []).1 (encBs [.box [.str, .bool]] [.s r1.1, .b r1.2.1]).1)⟩

noncomputable def draymanref03_Reader_fails_spec {α : Type} : FunSpec α := draymanref03_Reader_fails_sp draymanref03_Reader_fails

noncomputable def draymanref03_Reader_fails_C {α : Type} : List (FunSpec α) := []

noncomputable def draymanref03_Reader_fails_q : FuncId → Bool := fun f => false

noncomputable def draymanref03_Reader_fails_inl : FuncId → Bool := fun f => false

noncomputable def draymanref03_Reader_fails_ann : FuncId → AnnT := fun f p => ⟨[], [], [], [], 0, [], [], none⟩

noncomputable def draymanref03_Reader_fails_loops {α : Type} : List (LoopSpec α) := []

theorem draymanref03_Reader_fails_ev {α : Type} : EvOk (α := α) Go.Proofs.Try.prog (envOf (draymanref03_Reader_fails_C) draymanref03_Reader_fails_q draymanref03_Reader_fails_inl 1000 draymanref03_Reader_fails_ann false (draymanref03_Reader_fails_loops) (fun _ => none)) 6 (draymanref03_Reader_fails_sp (draymanref03_Reader_fails)) := by intro ds k; kernel_rfl

theorem draymanref03_Reader_fails_ok {α : Type} : (draymanref03_Reader_fails_spec : FunSpec α).ok Go.Proofs.Try.prog :=
  FunSpec.ok_of (sp := draymanref03_Reader_fails_spec) (C := draymanref03_Reader_fails_C) (q := draymanref03_Reader_fails_q) (inl := draymanref03_Reader_fails_inl) (N := 1000) (ann := draymanref03_Reader_fails_ann) (fr := false) (D := 6) (l := (draymanref03_Reader_fails_loops)) (hk := (fun _ => none)) okNil lokNil noHooks (draymanref03_Reader_fails_ev)

end
end Go.Rv.Try

set_option linter.unusedVariables false
set_option maxRecDepth 100000
set_option maxHeartbeats 4000000
namespace Go.Rv.Try
open Go Go.Rv Go.RowKit
noncomputable section

-- (*drayman/draymanref03.Reader).Int

abbrev draymanref03_Reader_Int_T (α : Type) : Type := Int → Int → (ByteArray × Bool × Unit) → (Int → (ByteArray × Bool × Unit) → Option α) → Option α

noncomputable def draymanref03_Reader_Int_l0_step {α : Type} (draymanref03_Reader_fails : draymanref03_Reader_fails_T α) (k0 : (Int) → (Int) → (Int) → (Int) → (ByteArray × Bool × Unit) → Option α) (rec : (Int) → (Int) → (Int) → (Int) → (Int) → (ByteArray × Bool × Unit) → Option α) (x8 : Int) (x9 : Int) (x10 : Int) (x11 : Int) (x12 : Int) (x13 : ByteArray × Bool × Unit) : Option α :=
  (cond (decide (x12 < x10))
    (cond ((decide ((0 : Int) ≤ x12)) && (decide (x12 < (x13.1.size : Int))))
      (rec x8 x9 x10 (IntKind.u64.wrap ((IntKind.u64.wrap (x11 * 256)) + (IntKind.u64.wrap (byteAt x13.1 x12)))) (IntKind.i64.wrap (x12 + 1)) x13)
      none)
    (k0 x8 x9 x10 x11 x13))

noncomputable def draymanref03_Reader_Int_l0_run {α : Type} (draymanref03_Reader_fails : draymanref03_Reader_fails_T α) (k0 : (Int) → (Int) → (Int) → (Int) → (ByteArray × Bool × Unit) → Option α) : Nat → (Int) → (Int) → (Int) → (Int) → (Int) → (ByteArray × Bool × Unit) → Option α
  | 0, _, _, _, _, _, _ => none
  | n + 1, x8, x9, x10, x11, x12, x13 => draymanref03_Reader_Int_l0_step draymanref03_Reader_fails k0 (fun x8 x9 x10 x11 x12 x13 => draymanref03_Reader_Int_l0_run draymanref03_Reader_fails k0 n x8 x9 x10 x11 x12 x13) x8 x9 x10 x11 x12 x13

noncomputable def draymanref03_Reader_Int_g {α : Type} (draymanref03_Reader_fails : draymanref03_Reader_fails_T α) (x1 : Int) (x2 : Int) (x3 : ByteArray × Bool × Unit) (k : Int → (ByteArray × Bool × Unit) → Option α) : Option α :=
  (joinD
    (fun ds => (fun (x4 : Int) (x5 : Int) (x6 : ByteArray × Bool × Unit) =>
      (cond (decide ((0 : Int) < (x6.1.size : Int)))
        (draymanref03_Reader_Int_l0_run draymanref03_Reader_fails
          (fun x14 x15 x16 x17 x18 =>
            (cond ((Int.tmod x17 2) == 1)
              (cond (!(decide ((IntKind.i64.wrap ((IntKind.i64.wrap (0 - (IntKind.i64.wrap (IntKind.u64.wrap (Int.tdiv x17 2))))) - 1)) < x14)))
                (cond (decide ((IntKind.i64.wrap ((IntKind.i64.wrap (0 - (IntKind.i64.wrap (IntKind.u64.wrap (Int.tdiv x17 2))))) - 1)) > x15))
                  (draymanref03_Reader_fails x18 fun r19 =>
                    (k 0 r19))
                  (cond ((decide ((0 : Int) ≤ x16)) && (decide (x16 ≤ (x18.1.size : Int))))
                    (k (IntKind.i64.wrap ((IntKind.i64.wrap (0 - (IntKind.i64.wrap (IntKind.u64.wrap (Int.tdiv x17 2))))) - 1)) ((x18.1.extract x16.toNat x18.1.size), x18.2.1, ()))
                    none))
                (draymanref03_Reader_fails x18 fun r20 =>
                  (k 0 r20)))
              (cond (!(decide ((IntKind.i64.wrap (IntKind.u64.wrap (Int.tdiv x17 2))) < x14)))
                (cond (decide ((IntKind.i64.wrap (IntKind.u64.wrap (Int.tdiv x17 2))) > x15))
                  (draymanref03_Reader_fails x18 fun r21 =>
                    (k 0 r21))
                  (cond ((decide ((0 : Int) ≤ x16)) && (decide (x16 ≤ (x18.1.size : Int))))
                    (k (IntKind.i64.wrap (IntKind.u64.wrap (Int.tdiv x17 2))) ((x18.1.extract x16.toNat x18.1.size), x18.2.1, ()))
                    none))
                (draymanref03_Reader_fails x18 fun r22 =>
                  (k 0 r22)))))
          1000 x4 x5 (IntKind.i64.wrap (1 + (IntKind.i64.wrap (byteAt x6.1 0)))) 0 1 x6)
        none))
      (hdI ds) (hdI ds.tail) (hdS ds.tail.tail, hdB ds.tail.tail.tail, ()))
    (fun j7 =>
      (cond (!x3.2.1)
        (cond (!((x3.1.size : Int) == 0))
          (cond (decide ((0 : Int) < (x3.1.size : Int)))
            (cond (!(decide ((byteAt x3.1 0) > 8)))
              (cond (decide ((0 : Int) < (x3.1.size : Int)))
                (cond (!(decide ((x3.1.size : Int) < (IntKind.i64.wrap (1 + (IntKind.i64.wrap (byteAt x3.1 0)))))))
                  (cond (decide ((0 : Int) < (x3.1.size : Int)))
                    (cond (decide ((byteAt x3.1 0) > 0))
                      (cond (decide ((1 : Int) < (x3.1.size : Int)))
                        (cond ((byteAt x3.1 1) == 0)
                          (draymanref03_Reader_fails x3 fun r23 =>
                            (k 0 r23))
                          (j7 [.i x1, .i x2, .s x3.1, .b x3.2.1]))
                        none)
                      (j7 [.i x1, .i x2, .s x3.1, .b x3.2.1]))
                    none)
                  (draymanref03_Reader_fails x3 fun r24 =>
                    (k 0 r24)))
                none)
              (draymanref03_Reader_fails x3 fun r25 =>
                (k 0 r25)))
            none)
          (draymanref03_Reader_fails x3 fun r26 =>
            (k 0 r26)))
        (draymanref03_Reader_fails x3 fun r27 =>
          (k 0 r27)))))

noncomputable def draymanref03_Reader_Int {α : Type} : draymanref03_Reader_Int_T α := draymanref03_Reader_Int_g draymanref03_Reader_fails

noncomputable def draymanref03_Reader_Int_sp {α : Type} (draymanref03_Reader_Int : draymanref03_Reader_Int_T α) : FunSpec α := ⟨137, [.ref 0 0, .int .i64, .int .i64], [.box [.str, .bool]], fun ds k => draymanref03_Reader_Int (hdI ds) (hdI ds.tail) (hdS ds.tail.tail, hdB ds.tail.tail.tail, ()) (fun r1 r2 => k (enc dep (.int .i64) [.i r1]).1 (encBs [.box [.str, .bool]] [.s r2.1, .b r2.2.1]).1)⟩

noncomputable def draymanref03_Reader_Int_spec {α : Type} : FunSpec α := draymanref03_Reader_Int_sp draymanref03_Reader_Int

noncomputable def draymanref03_Reader_Int_C {α : Type} (draymanref03_Reader_fails : draymanref03_Reader_fails_T α) : List (FunSpec α) := [draymanref03_Reader_fails_sp draymanref03_Reader_fails]

noncomputable def draymanref03_Reader_Int_q : FuncId → Bool := fun f => Nat.beq f 138

noncomputable def draymanref03_Reader_Int_inl : FuncId → Bool := fun f => false

noncomputable def draymanref03_Reader_Int_ann : FuncId → AnnT := fun f p => if f = 137 then (if p = [true] then ⟨[0, 1, 2], [], [], [], 0, [], [], some ([.ref 0 0, .int .i64, .int .i64, .dead, .dead, .dead, .dead, .dead, .dead, .dead, .dead, .dead, .dead, .dead, .dead, .dead, .dead, .dead, .dead, .dead, .dead, .dead, .dead, .dead, .dead, .dead, .dead, .dead, .dead, .dead, .dead, .dead, .dead, .dead, .dead, .dead, .dead, .dead, .dead, .dead, .dead, .dead, .dead, .dead, .dead, .dead, .dead, .dead, .dead, .dead, .dead, .dead, .dead, .dead, .dead, .dead, .dead, .dead, .dead, .dead, .dead, .dead, .dead, .dead, .dead, .dead, .dead, .dead, .dead, .dead, .dead, .dead, .dead, .dead, .dead, .dead, .dead, .dead, .dead, .dead, .dead, .dead, .dead, .dead, .dead, .dead, .dead, .dead, .dead, .dead, .dead, .dead, .dead, .dead, .dead, .dead, .dead, .dead, .dead, .dead, .dead, .dead, .dead, .dead, .dead, .dead, .dead, .dead, .dead, .dead, .dead, .dead, .dead, .dead, .dead], [], [.box [.str, .bool]])⟩ else if p = [true, false, true, true, true, true] then ⟨[0, 1, 2, 7, 8, 9], [], [0, 1, 2, 7, 8], [6], 0, [], [], none⟩ else ⟨[], [], [], [], 0, [], [], none⟩) else ⟨[], [], [], [], 0, [], [], none⟩

noncomputable def draymanref03_Reader_Int_l0_t : List Sh := [.ref 0 0, .int .i64, .int .i64, .dead, .dead, .dead, .dead, .int .i64, .int .u64, .int .i64, .dead, .dead, .dead, .dead, .dead, .dead, .dead, .dead, .dead, .dead, .dead, .dead, .dead, .dead, .dead, .dead, .dead, .dead, .dead, .dead, .dead, .dead, .dead, .dead, .dead, .dead, .dead, .dead, .dead, .dead, .dead, .dead, .dead, .dead, .dead, .dead, .dead, .dead, .dead, .dead, .dead, .dead, .dead, .dead, .dead, .dead, .dead, .dead, .dead, .dead, .dead, .dead, .dead, .dead, .dead, .dead, .dead, .dead, .dead, .dead, .dead, .dead, .dead, .dead, .dead, .dead, .dead, .dead, .dead, .dead, .dead, .dead, .dead, .dead, .dead, .dead, .dead, .dead, .dead, .dead, .dead, .dead, .dead, .dead, .dead, .dead, .dead, .dead, .dead, .dead, .dead, .dead, .dead, .dead, .dead, .dead, .dead, .dead, .dead, .dead, .dead, .dead, .dead, .dead, .dead]
noncomputable def draymanref03_Reader_Int_l0_s : List (List Sh) := []
noncomputable def draymanref03_Reader_Int_l0_h : List BSh := [.box [.str, .bool]]

noncomputable def draymanref03_Reader_Int_l0_spec {α : Type} (draymanref03_Reader_fails : draymanref03_Reader_fails_T α) : LoopSpec α := ⟨6, 137, [true, false, true, true, true, true], draymanref03_Reader_Int_l0_t, draymanref03_Reader_Int_l0_s, draymanref03_Reader_Int_l0_h, fun ds k => draymanref03_Reader_Int_l0_run draymanref03_Reader_fails (fun y1 y2 y3 y4 y5 => k (.exit 0) (encSt [.ref 0 0, .int .i64, .int .i64, .dead, .dead, .dead, .dead, .int .i64, .int .u64, .dead, .dead, .dead, .dead, .dead, .dead, .dead, .dead, .dead, .dead, .dead, .dead, .dead, .dead, .dead, .dead, .dead, .dead, .dead, .dead, .dead, .dead, .dead, .dead, .dead, .dead, .dead, .dead, .dead, .dead, .dead, .dead, .dead, .dead, .dead, .dead, .dead, .dead, .dead, .dead, .dead, .dead, .dead, .dead, .dead, .dead, .dead, .dead, .dead, .dead, .dead, .dead, .dead, .dead, .dead, .dead, .dead, .dead, .dead, .dead, .dead, .dead, .dead, .dead, .dead, .dead, .dead, .dead, .dead, .dead, .dead, .dead, .dead, .dead, .dead, .dead, .dead, .dead, .dead, .dead, .dead, .dead, .dead, .dead, .dead, .dead, .dead, .dead, .dead, .dead, .dead, .dead, .dead, .dead, .dead, .dead, .dead, .dead, .dead, .dead, .dead, .dead, .dead, .dead, .dead, .dead] [] [.box [.str, .bool]] [.i y1, .i y2, .i y3, .i y4, .s y5.1, .b y5.2.1])) 1000 (hdI ds) (hdI ds.tail) (hdI ds.tail.tail) (hdI ds.tail.tail.tail) (hdI ds.tail.tail.tail.tail) (hdS ds.tail.tail.tail.tail.tail, hdB ds.tail.tail.tail.tail.tail.tail, ())⟩

noncomputable def draymanref03_Reader_Int_loops {α : Type} (draymanref03_Reader_fails : draymanref03_Reader_fails_T α) : List (LoopSpec α) := [draymanref03_Reader_Int_l0_spec draymanref03_Reader_fails]

noncomputable def draymanref03_Reader_Int_l0_ev {α : Type} (draymanref03_Reader_fails : draymanref03_Reader_fails_T α) (n : Nat) (st : St) (k : X → St → Option α) : Option α := loopN (evCode Go.Proofs.Try.prog (callD Go.Proofs.Try.prog (envOf (draymanref03_Reader_Int_C draymanref03_Reader_fails) draymanref03_Reader_Int_q draymanref03_Reader_Int_inl 1000 draymanref03_Reader_Int_ann false (draymanref03_Reader_Int_loops draymanref03_Reader_fails) (fun _ => none)) 6) (((envOf (draymanref03_Reader_Int_C draymanref03_Reader_fails) draymanref03_Reader_Int_q draymanref03_Reader_Int_inl 1000 draymanref03_Reader_Int_ann false (draymanref03_Reader_Int_loops draymanref03_Reader_fails) (fun _ => none)) : Env α).L 6 137) 1000 (draymanref03_Reader_Int_ann 137) (false :: [true, false, true, true, true, true]) (loopC Go.Proofs.Try.prog 137 [true, false, true, true, true, true])) ((draymanref03_Reader_Int_ann 137 [true, false, true, true, true, true]).head 1) ((draymanref03_Reader_Int_ann 137 [true, false, true, true, true, true]).leave 1) n st k

theorem draymanref03_Reader_Int_l0_eq {α : Type} (draymanref03_Reader_fails : draymanref03_Reader_fails_T α) : ∀ (n : Nat) (x8 : Int) (x9 : Int) (x10 : Int) (x11 : Int) (x12 : Int) (x13 : ByteArray × Bool × Unit) (k : X → St → Option α), draymanref03_Reader_Int_l0_ev draymanref03_Reader_fails n (encSt draymanref03_Reader_Int_l0_t draymanref03_Reader_Int_l0_s draymanref03_Reader_Int_l0_h [.i x8, .i x9, .i x10, .i x11, .i x12, .s x13.1, .b x13.2.1]) k = draymanref03_Reader_Int_l0_run draymanref03_Reader_fails (fun y1 y2 y3 y4 y5 => k (.exit 0) (encSt [.ref 0 0, .int .i64, .int .i64, .dead, .dead, .dead, .dead, .int .i64, .int .u64, .dead, .dead, .dead, .dead, .dead, .dead, .dead, .dead, .dead, .dead, .dead, .dead, .dead, .dead, .dead, .dead, .dead, .dead, .dead, .dead, .dead, .dead, .dead, .dead, .dead, .dead, .dead, .dead, .dead, .dead, .dead, .dead, .dead, .dead, .dead, .dead, .dead, .dead, .dead, .dead, .dead, .dead, .dead, .dead, .dead, .dead, .dead, .dead, .dead, .dead, .dead, .dead, .dead, .dead, .dead, .dead, .dead, .dead, .dead, .dead, .dead, .dead, .dead, .dead, .dead, .dead, .dead, .dead, .dead, .dead, .dead, .dead, .dead, .dead, .dead, .dead, .dead, .dead, .dead, .dead, .dead, .dead, .dead, .dead, .dead, .dead, .dead, .dead, .dead, .dead, .dead, .dead, .dead, .dead, .dead, .dead, .dead, .dead, .dead, .dead, .dead, .dead, .dead, .dead, .dead, .dead] [] [.box [.str, .bool]] [.i y1, .i y2, .i y3, .i y4, .s y5.1, .b y5.2.1])) n x8 x9 x10 x11 x12 x13 := by
  intro n
  induction n with
  | zero => intros; kernel_rfl
  | succ n ih =>
    intro x8 x9 x10 x11 x12 x13 k
    have e : (fun (x8 : Int) (x9 : Int) (x10 : Int) (x11 : Int) (x12 : Int) (x13 : ByteArray × Bool × Unit) => draymanref03_Reader_Int_l0_ev draymanref03_Reader_fails n (encSt draymanref03_Reader_Int_l0_t draymanref03_Reader_Int_l0_s draymanref03_Reader_Int_l0_h [.i x8, .i x9, .i x10, .i x11, .i x12, .s x13.1, .b x13.2.1]) k) = (fun (x8 : Int) (x9 : Int) (x10 : Int) (x11 : Int) (x12 : Int) (x13 : ByteArray × Bool × Unit) => draymanref03_Reader_Int_l0_run draymanref03_Reader_fails (fun y1 y2 y3 y4 y5 => k (.exit 0) (encSt [.ref 0 0, .int .i64, .int .i64, .dead, .dead, .dead, .dead, .int .i64, .int .u64, .dead, .dead, .dead, .dead, .dead, .dead, .dead, .dead, .dead, .dead, .dead, .dead, .dead, .dead, .dead, .dead, .dead, .dead, .dead, .dead, .dead, .dead, .dead, .dead, .dead, .dead, .dead, .dead, .dead, .dead, .dead, .dead, .dead, .dead, .dead, .dead, .dead, .dead, .dead, .dead, .dead, .dead, .dead, .dead, .dead, .dead, .dead, .dead, .dead, .dead, .dead, .dead, .dead, .dead, .dead, .dead, .dead, .dead, .dead, .dead, .dead, .dead, .dead, .dead, .dead, .dead, .dead, .dead, .dead, .dead, .dead, .dead, .dead, .dead, .dead, .dead, .dead, .dead, .dead, .dead, .dead, .dead, .dead, .dead, .dead, .dead, .dead, .dead, .dead, .dead, .dead, .dead, .dead, .dead, .dead, .dead, .dead, .dead, .dead, .dead, .dead, .dead, .dead, .dead, .dead, .dead] [] [.box [.str, .bool]] [.i y1, .i y2, .i y3, .i y4, .s y5.1, .b y5.2.1])) n x8 x9 x10 x11 x12 x13) := by
      funext x8 x9 x10 x11 x12 x13
      exact ih x8 x9 x10 x11 x12 x13 k
    have h1 : draymanref03_Reader_Int_l0_ev draymanref03_Reader_fails (n + 1) (encSt draymanref03_Reader_Int_l0_t draymanref03_Reader_Int_l0_s draymanref03_Reader_Int_l0_h [.i x8, .i x9, .i x10, .i x11, .i x12, .s x13.1, .b x13.2.1]) k = draymanref03_Reader_Int_l0_step draymanref03_Reader_fails (fun y1 y2 y3 y4 y5 => k (.exit 0) (encSt [.ref 0 0, .int .i64, .int .i64, .dead, .dead, .dead, .dead, .int .i64, .int .u64, .dead, .dead, .dead, .dead, .dead, .dead, .dead, .dead, .dead, .dead, .dead, .dead, .dead, .dead, .dead, .dead, .dead, .dead, .dead, .dead, .dead, .dead, .dead, .dead, .dead, .dead, .dead, .dead, .dead, .dead, .dead, .dead, .dead, .dead, .dead, .dead, .dead, .dead, .dead, .dead, .dead, .dead, .dead, .dead, .dead, .dead, .dead, .dead, .dead, .dead, .dead, .dead, .dead, .dead, .dead, .dead, .dead, .dead, .dead, .dead, .dead, .dead, .dead, .dead, .dead, .dead, .dead, .dead, .dead, .dead, .dead, .dead, .dead, .dead, .dead, .dead, .dead, .dead, .dead, .dead, .dead, .dead, .dead, .dead, .dead, .dead, .dead, .dead, .dead, .dead, .dead, .dead, .dead, .dead, .dead, .dead, .dead, .dead, .dead, .dead, .dead, .dead, .dead, .dead, .dead, .dead] [] [.box [.str, .bool]] [.i y1, .i y2, .i y3, .i y4, .s y5.1, .b y5.2.1])) (fun (x8 : Int) (x9 : Int) (x10 : Int) (x11 : Int) (x12 : Int) (x13 : ByteArray × Bool × Unit) => draymanref03_Reader_Int_l0_ev draymanref03_Reader_fails n (encSt draymanref03_Reader_Int_l0_t draymanref03_Reader_Int_l0_s draymanref03_Reader_Int_l0_h [.i x8, .i x9, .i x10, .i x11, .i x12, .s x13.1, .b x13.2.1]) k) x8 x9 x10 x11 x12 x13 := by kernel_rfl
    have h2 := congrArg (fun r => draymanref03_Reader_Int_l0_step draymanref03_Reader_fails (fun y1 y2 y3 y4 y5 => k (.exit 0) (encSt [.ref 0 0, .int .i64, .int .i64, .dead, .dead, .dead, .dead, .int .i64, .int .u64, .dead, .dead, .dead, .dead, .dead, .dead, .dead, .dead, .dead, .dead, .dead, .dead, .dead, .dead, .dead, .dead, .dead, .dead, .dead, .dead, .dead, .dead, .dead, .dead, .dead, .dead, .dead, .dead, .dead, .dead, .dead, .dead, .dead, .dead, .dead, .dead, .dead, .dead, .dead, .dead, .dead, .dead, .dead, .dead, .dead, .dead, .dead, .dead, .dead, .dead, .dead, .dead, .dead, .dead, .dead, .dead, .dead, .dead, .dead, .dead, .dead, .dead, .dead, .dead, .dead, .dead, .dead, .dead, .dead, .dead, .dead, .dead, .dead, .dead, .dead, .dead, .dead, .dead, .dead, .dead, .dead, .dead, .dead, .dead, .dead, .dead, .dead, .dead, .dead, .dead, .dead, .dead, .dead, .dead, .dead, .dead, .dead, .dead, .dead, .dead, .dead, .dead, .dead, .dead, .dead, .dead] [] [.box [.str, .bool]] [.i y1, .i y2, .i y3, .i y4, .s y5.1, .b y5.2.1])) r x8 x9 x10 x11 x12 x13) e
    have h3 : draymanref03_Reader_Int_l0_step draymanref03_Reader_fails (fun y1 y2 y3 y4 y5 => k (.exit 0) (encSt [.ref 0 0, .int .i64, .int .i64, .dead, .dead, .dead, .dead, .int .i64, .int .u64, .dead, .dead, .dead, .dead, .dead, .dead, .dead, .dead, .dead, .dead, .dead, .dead, .dead, .dead, .dead, .dead, .dead, .dead, .dead, .dead, .dead, .dead, .dead, .dead, .dead, .dead, .dead, .dead, .dead, .dead, .dead, .dead, .dead, .dead, .dead, .dead, .dead, .dead, .dead, .dead, .dead, .dead, .dead, .dead, .dead, .dead, .dead, .dead, .dead, .dead, .dead, .dead, .dead, .dead, .dead, .dead, .dead, .dead, .dead, .dead, .dead, .dead, .dead, .dead, .dead, .dead, .dead, .dead, .dead, .dead, .dead, .dead, .dead, .dead, .dead, .dead, .dead, .dead, .dead, .dead, .dead, .dead, .dead, .dead, .dead, .dead, .dead, .dead, .dead, .dead, .dead, .dead, .dead, .dead, .dead, .dead, .dead, .dead, .dead, .dead, .dead, .dead, .dead, .dead, .dead, .dead] [] [.box [.str, .bool]] [.i y1, .i y2, .i y3, .i y4, .s y5.1, .b y5.2.1])) (fun (x8 : Int) (x9 : Int) (x10 : Int) (x11 : Int) (x12 : Int) (x13 : ByteArray × Bool × Unit) => draymanref03_Reader_Int_l0_run draymanref03_Reader_fails (fun y1 y2 y3 y4 y5 => k (.exit 0) (encSt [.ref 0 0, .int .i64, .int .i64, .dead, .dead, .dead, .dead, .int .i64, .int .u64, .dead, .dead, .dead, .dead, .dead, .dead, .dead, .dead, .dead, .dead, .dead, .dead, .dead, .dead, .dead, .dead, .dead, .dead, .dead, .dead, .dead, .dead, .dead, .dead, .dead, .dead, .dead, .dead, .dead, .dead, .dead, .dead, .dead, .dead, .dead, .dead, .dead, .dead, .dead, .dead, .dead, .dead, .dead, .dead, .dead, .dead, .dead, .dead, .dead, .dead, .dead, .dead, .dead, .dead, .dead, .dead, .dead, .dead, .dead, .dead, .dead, .dead, .dead, .dead, .dead, .dead, .dead, .dead, .dead, .dead, .dead, .dead, .dead, .dead, .dead, .dead, .dead, .dead, .dead, .dead, .dead, .dead, .dead, .dead, .dead, .dead, .dead, .dead, .dead, .dead, .dead, .dead, .dead, .dead, .dead, .dead, .dead, .dead, .dead, .dead, .dead, .dead, .dead, .dead, .dead, .dead] [] [.box [.str, .bool]] [.i y1, .i y2, .i y3, .i y4, .s y5.1, .b y5.2.1])) n x8 x9 x10 x11 x12 x13) x8 x9 x10 x11 x12 x13 = draymanref03_Reader_Int_l0_run draymanref03_Reader_fails (fun y1 y2 y3 y4 y5 => k (.exit 0) (encSt [.ref 0 0, .int .i64, .int .i64, .dead, .dead, .dead, .dead, .int .i64, .int .u64, .dead, .dead, .dead, .dead, .dead, .dead, .dead, .dead, .dead, .dead, .dead, .dead, .dead, .dead, .dead, .dead, .dead, .dead, .dead, .dead, .dead, .dead, .dead, .dead, .dead, .dead, .dead, .dead, .dead, .dead, .dead, .dead, .dead, .dead, .dead, .dead, .dead, .dead, .dead, .dead, .dead, .dead, .dead, .dead, .dead, .dead, .dead, .dead, .dead, .dead, .dead, .dead, .dead, .dead, .dead, .dead, .dead, .dead, .dead, .dead, .dead, .dead, .dead, .dead, .dead, .dead, .dead, .dead, .dead, .dead, .dead, .dead, .dead, .dead, .dead, .dead, .dead, .dead, .dead, .dead, .dead, .dead, .dead, .dead, .dead, .dead, .dead, .dead, .dead, .dead, .dead, .dead, .dead, .dead, .dead, .dead, .dead, .dead, .dead, .dead, .dead, .dead, .dead, .dead, .dead, .dead] [] [.box [.str, .bool]] [.i y1, .i y2, .i y3, .i y4, .s y5.1, .b y5.2.1])) (n + 1) x8 x9 x10 x11 x12 x13 := by kernel_rfl
    exact h1.trans (h2.trans h3)

theorem draymanref03_Reader_Int_l0_ok {α : Type} (draymanref03_Reader_fails : draymanref03_Reader_fails_T α) : (draymanref03_Reader_Int_l0_spec draymanref03_Reader_fails : LoopSpec α).ok Go.Proofs.Try.prog (envOf (draymanref03_Reader_Int_C draymanref03_Reader_fails) draymanref03_Reader_Int_q draymanref03_Reader_Int_inl 1000 draymanref03_Reader_Int_ann false (draymanref03_Reader_Int_loops draymanref03_Reader_fails) (fun _ => none)) := by
  intro ds k
  have h1 : draymanref03_Reader_Int_l0_ev draymanref03_Reader_fails 1000 (encSt draymanref03_Reader_Int_l0_t draymanref03_Reader_Int_l0_s draymanref03_Reader_Int_l0_h ds) k = draymanref03_Reader_Int_l0_ev draymanref03_Reader_fails 1000 (encSt draymanref03_Reader_Int_l0_t draymanref03_Reader_Int_l0_s draymanref03_Reader_Int_l0_h [.i (hdI ds), .i (hdI ds.tail), .i (hdI ds.tail.tail), .i (hdI ds.tail.tail.tail), .i (hdI ds.tail.tail.tail.tail), .s ((hdS ds.tail.tail.tail.tail.tail, hdB ds.tail.tail.tail.tail.tail.tail, ()).1), .b ((hdS ds.tail.tail.tail.tail.tail, hdB ds.tail.tail.tail.tail.tail.tail, ()).2.1)]) k := by kernel_rfl
  have h2 := draymanref03_Reader_Int_l0_eq draymanref03_Reader_fails 1000 (hdI ds) (hdI ds.tail) (hdI ds.tail.tail) (hdI ds.tail.tail.tail) (hdI ds.tail.tail.tail.tail) (hdS ds.tail.tail.tail.tail.tail, hdB ds.tail.tail.tail.tail.tail.tail, ()) k
  exact h1.trans h2

theorem draymanref03_Reader_Int_ev {α : Type} (draymanref03_Reader_fails : draymanref03_Reader_fails_T α) : EvOk (α := α) Go.Proofs.Try.prog (envOf (draymanref03_Reader_Int_C draymanref03_Reader_fails) draymanref03_Reader_Int_q draymanref03_Reader_Int_inl 1000 draymanref03_Reader_Int_ann false (draymanref03_Reader_Int_loops draymanref03_Reader_fails) (fun _ => none)) 6 (draymanref03_Reader_Int_sp (draymanref03_Reader_Int_g draymanref03_Reader_fails)) := by intro ds k; kernel_rfl

theorem draymanref03_Reader_Int_ok {α : Type} : (draymanref03_Reader_Int_spec : FunSpec α).ok Go.Proofs.Try.prog :=
  FunSpec.ok_of (sp := draymanref03_Reader_Int_spec) (C := draymanref03_Reader_Int_C draymanref03_Reader_fails) (q := draymanref03_Reader_Int_q) (inl := draymanref03_Reader_Int_inl) (N := 1000) (ann := draymanref03_Reader_Int_ann) (fr := false) (D := 6) (l := (draymanref03_Reader_Int_loops draymanref03_Reader_fails)) (hk := (fun _ => none)) (okCons draymanref03_Reader_fails_ok okNil) (lokCons (draymanref03_Reader_Int_l0_ok draymanref03_Reader_fails) lokNil) noHooks (draymanref03_Reader_Int_ev draymanref03_Reader_fails)

end
end Go.Rv.Try

set_option linter.unusedVariables false
set_option maxRecDepth 100000
set_option maxHeartbeats 4000000
namespace Go.Rv.Try
open Go Go.Rv Go.RowKit
noncomputable section

-- (*drayman/draymanref03.Reader).Flag

abbrev draymanref03_Reader_Flag_T (α : Type) : Type := (ByteArray × Bool × Unit) → (Bool → (ByteArray × Bool × Unit) → Option α) → Option α

noncomputable def draymanref03_Reader_Flag_g {α : Type} (draymanref03_Reader_fails : draymanref03_Reader_fails_T α) (x1 : ByteArray × Bool × Unit) (k : Bool → (ByteArray × Bool × Unit) → Option α) : Option α :=
  (cond (!x1.2.1)
    (cond (!((x1.1.size : Int) == 0))
      (cond (decide ((0 : Int) < (x1.1.size : Int)))
        (cond (decide ((byteAt x1.1 0) > 1))
          (draymanref03_Reader_fails x1 fun r2 =>
            (k false r2))
          (cond (decide ((0 : Int) < (x1.1.size : Int)))
            (cond (decide ((1 : Int) ≤ (x1.1.size : Int)))
              (k ((byteAt x1.1 0) == 1) ((x1.1.extract 1 x1.1.size), x1.2.1, ()))
              none)
            none))
        none)
      (draymanref03_Reader_fails x1 fun r3 =>
        (k false r3)))
    (draymanref03_Reader_fails x1 fun r4 =>
      (k false r4)))

noncomputable def draymanref03_Reader_Flag {α : Type} : draymanref03_Reader_Flag_T α := draymanref03_Reader_Flag_g draymanref03_Reader_fails

noncomputable def draymanref03_Reader_Flag_sp {α : Type} (draymanref03_Reader_Flag : draymanref03_Reader_Flag_T α) : FunSpec α := ⟨110, [.ref 0 0], [.box [.str, .bool]], fun ds k => draymanref03_Reader_Flag (hdS ds, hdB ds.tail, ()) (fun r1 r2 => k (enc dep (.bool) [.b r1]).1 (encBs [.box [.str, .bool]] [.s r2.1, .b r2.2.1]).1)⟩

noncomputable def draymanref03_Reader_Flag_spec {α : Type} : FunSpec α := draymanref03_Reader_Flag_sp draymanref03_Reader_Flag

noncomputable def draymanref03_Reader_Flag_C {α : Type} (draymanref03_Reader_fails : draymanref03_Reader_fails_T α) : List (FunSpec α) := [draymanref03_Reader_fails_sp draymanref03_Reader_fails]

noncomputable def draymanref03_Reader_Flag_q : FuncId → Bool := fun f => Nat.beq f 138

noncomputable def draymanref03_Reader_Flag_inl : FuncId → Bool := fun f => false

noncomputable def draymanref03_Reader_Flag_ann : FuncId → AnnT := fun f p => ⟨[], [], [], [], 0, [], [], none⟩

noncomputable def draymanref03_Reader_Flag_loops {α : Type} (draymanref03_Reader_fails : draymanref03_Reader_fails_T α) : List (LoopSpec α) := []

theorem draymanref03_Reader_Flag_ev {α : Type} (draymanref03_Reader_fails : draymanref03_Reader_fails_T α) : EvOk (α := α) Go.Proofs.Try.prog (envOf (draymanref03_Reader_Flag_C draymanref03_Reader_fails) draymanref03_Reader_Flag_q draymanref03_Reader_Flag_inl 1000 draymanref03_Reader_Flag_ann false (draymanref03_Reader_Flag_loops draymanref03_Reader_fails) (fun _ => none)) 6 (draymanref03_Reader_Flag_sp (draymanref03_Reader_Flag_g draymanref03_Reader_fails)) := by intro ds k; kernel_rfl

theorem draymanref03_Reader_Flag_ok {α : Type} : (draymanref03_Reader_Flag_spec : FunSpec α).ok Go.Proofs.Try.prog :=
  FunSpec.ok_of (sp := draymanref03_Reader_Flag_spec) (C := draymanref03_Reader_Flag_C draymanref03_Reader_fails) (q := draymanref03_Reader_Flag_q) (inl := draymanref03_Reader_Flag_inl) (N := 1000) (ann := draymanref03_Reader_Flag_ann) (fr := false) (D := 6) (l := (draymanref03_Reader_Flag_loops draymanref03_Reader_fails)) (hk := (fun _ => none)) (okCons draymanref03_Reader_fails_ok okNil) lokNil noHooks (draymanref03_Reader_Flag_ev draymanref03_Reader_fails)

end
end Go.Rv.Try

set_option linter.unusedVariables false
set_option maxRecDepth 100000
set_option maxHeartbeats 4000000
namespace Go.Rv.Try
open Go Go.Rv Go.RowKit
noncomputable section

-- (*drayman/draymanref03.Reader).Done

abbrev draymanref03_Reader_Done_T (α : Type) : Type := (ByteArray × Bool × Unit) → (Bool → (ByteArray × Bool × Unit) → Option α) → Option α

noncomputable def draymanref03_Reader_Done {α : Type} (x1 : ByteArray × Bool × Unit) (k : Bool → (ByteArray × Bool × Unit) → Option α) : Option α :=
  (cond (!x1.2.1)
    (k ((x1.1.size : Int) == 0) x1)
    (k false x1))

noncomputable def draymanref03_Reader_Done_sp {α : Type} (draymanref03_Reader_Done : draymanref03_Reader_Done_T α) : FunSpec α := ⟨66, [.ref 0 0], [.box [.str, .bool]], fun ds k => draymanref03_Reader_Done (hdS ds, hdB ds.tail, ()) (fun r1 r2 => k (enc dep (.bool) [.b r1]).1 (encBs [.box [.str, .bool]] [.s r2.1, .b r2.2.1]).1)⟩

noncomputable def draymanref03_Reader_Done_spec {α : Type} : FunSpec α := draymanref03_Reader_Done_sp draymanref03_Reader_Done

noncomputable def draymanref03_Reader_Done_C {α : Type} : List (FunSpec α) := []

noncomputable def draymanref03_Reader_Done_q : FuncId → Bool := fun f => false

noncomputable def draymanref03_Reader_Done_inl : FuncId → Bool := fun f => false

noncomputable def draymanref03_Reader_Done_ann : FuncId → AnnT := fun f p => ⟨[], [], [], [], 0, [], [], none⟩

noncomputable def draymanref03_Reader_Done_loops {α : Type} : List (LoopSpec α) := []

theorem draymanref03_Reader_Done_ev {α : Type} : EvOk (α := α) Go.Proofs.Try.prog (envOf (draymanref03_Reader_Done_C) draymanref03_Reader_Done_q draymanref03_Reader_Done_inl 1000 draymanref03_Reader_Done_ann false (draymanref03_Reader_Done_loops) (fun _ => none)) 6 (draymanref03_Reader_Done_sp (draymanref03_Reader_Done)) := by intro ds k; kernel_rfl

theorem draymanref03_Reader_Done_ok {α : Type} : (draymanref03_Reader_Done_spec : FunSpec α).ok Go.Proofs.Try.prog :=
  FunSpec.ok_of (sp := draymanref03_Reader_Done_spec) (C := draymanref03_Reader_Done_C) (q := draymanref03_Reader_Done_q) (inl := draymanref03_Reader_Done_inl) (N := 1000) (ann := draymanref03_Reader_Done_ann) (fr := false) (D := 6) (l := (draymanref03_Reader_Done_loops)) (hk := (fun _ => none)) okNil lokNil noHooks (draymanref03_Reader_Done_ev)

end
end Go.Rv.Try

set_option linter.unusedVariables false
set_option maxRecDepth 100000
set_option maxHeartbeats 4000000
namespace Go.Rv.Try
open Go Go.Rv Go.RowKit
noncomputable section

-- (*drayman/draymanref03.Reader).Left

abbrev draymanref03_Reader_Left_T (α : Type) : Type := (ByteArray × Bool × Unit) → (Int → (ByteArray × Bool × Unit) → Option α) → Option α

noncomputable def draymanref03_Reader_Left {α : Type} (x1 : ByteArray × Bool × Unit) (k : Int → (ByteArray × Bool × Unit) → Option α) : Option α :=
  (k (x1.1.size : Int) x1)

noncomputable def draymanref03_Reader_Left_sp {α : Type} (draymanref03_Reader_Left : draymanref03_Reader_Left_T α) : FunSpec α := ⟨64, [.ref 0 0], [.box [.str, .bool]], fun ds k => draymanref03_Reader_Left (hdS ds, hdB ds.tail, ()) (fun r1 r2 => k (enc dep (.int .i64) [.i r1]).1 (encBs [.box [.str, .bool]] [.s r2.1, .b r2.2.1]).1)⟩

noncomputable def draymanref03_Reader_Left_spec {α : Type} : FunSpec α := draymanref03_Reader_Left_sp draymanref03_Reader_Left

noncomputable def draymanref03_Reader_Left_C {α : Type} : List (FunSpec α) := []

noncomputable def draymanref03_Reader_Left_q : FuncId → Bool := fun f => false

noncomputable def draymanref03_Reader_Left_inl : FuncId → Bool := fun f => false

noncomputable def draymanref03_Reader_Left_ann : FuncId → AnnT := fun f p => ⟨[], [], [], [], 0, [], [], none⟩

noncomputable def draymanref03_Reader_Left_loops {α : Type} : List (LoopSpec α) := []

theorem draymanref03_Reader_Left_ev {α : Type} : EvOk (α := α) Go.Proofs.Try.prog (envOf (draymanref03_Reader_Left_C) draymanref03_Reader_Left_q draymanref03_Reader_Left_inl 1000 draymanref03_Reader_Left_ann false (draymanref03_Reader_Left_loops) (fun _ => none)) 6 (draymanref03_Reader_Left_sp (draymanref03_Reader_Left)) := by intro ds k; kernel_rfl

theorem draymanref03_Reader_Left_ok {α : Type} : (draymanref03_Reader_Left_spec : FunSpec α).ok Go.Proofs.Try.prog :=
  FunSpec.ok_of (sp := draymanref03_Reader_Left_spec) (C := draymanref03_Reader_Left_C) (q := draymanref03_Reader_Left_q) (inl := draymanref03_Reader_Left_inl) (N := 1000) (ann := draymanref03_Reader_Left_ann) (fr := false) (D := 6) (l := (draymanref03_Reader_Left_loops)) (hk := (fun _ => none)) okNil lokNil noHooks (draymanref03_Reader_Left_ev)

end
end Go.Rv.Try

set_option linter.unusedVariables false
set_option maxRecDepth 100000
set_option maxHeartbeats 4000000
namespace Go.Rv.Try
open Go Go.Rv Go.RowKit
noncomputable section

-- drayman/draymanref23.wide

abbrev draymanref23_wide_T (α : Type) : Type := (ByteArray × Bool × Unit) → (Int → (ByteArray × Bool × Unit) → Option α) → Option α

noncomputable def draymanref23_wide_g {α : Type} (draymanref03_Reader_Int : draymanref03_Reader_Int_T α) (x1 : ByteArray × Bool × Unit) (k : Int → (ByteArray × Bool × Unit) → Option α) : Option α :=
  (draymanref03_Reader_Int (-9223372036854775808) 9223372036854775807 x1 fun r2 r3 =>
    (k r2 r3))

noncomputable def draymanref23_wide {α : Type} : draymanref23_wide_T α := draymanref23_wide_g draymanref03_Reader_Int

noncomputable def draymanref23_wide_sp {α : Type} (draymanref23_wide : draymanref23_wide_T α) : FunSpec α := ⟨109, [.ref 0 0], [.box [.str, .bool]], fun ds k => draymanref23_wide (hdS ds, hdB ds.tail, ()) (fun r1 r2 => k (enc dep (.int .i64) [.i r1]).1 (encBs [.box [.str, .bool]] [.s r2.1, .b r2.2.1]).1)⟩

noncomputable def draymanref23_wide_spec {α : Type} : FunSpec α := draymanref23_wide_sp draymanref23_wide

noncomputable def draymanref23_wide_C {α : Type} (draymanref03_Reader_Int : draymanref03_Reader_Int_T α) : List (FunSpec α) := [draymanref03_Reader_Int_sp draymanref03_Reader_Int]

noncomputable def draymanref23_wide_q : FuncId → Bool := fun f => Nat.beq f 137

noncomputable def draymanref23_wide_inl : FuncId → Bool := fun f => false

noncomputable def draymanref23_wide_ann : FuncId → AnnT := fun f p => ⟨[], [], [], [], 0, [], [], none⟩

noncomputable def draymanref23_wide_loops {α : Type} (draymanref03_Reader_Int : draymanref03_Reader_Int_T α) : List (LoopSpec α) := []

theorem draymanref23_wide_ev {α : Type} (draymanref03_Reader_Int : draymanref03_Reader_Int_T α) : EvOk (α := α) Go.Proofs.Try.prog (envOf (draymanref23_wide_C draymanref03_Reader_Int) draymanref23_wide_q draymanref23_wide_inl 1000 draymanref23_wide_ann false (draymanref23_wide_loops draymanref03_Reader_Int) (fun _ => none)) 6 (draymanref23_wide_sp (draymanref23_wide_g draymanref03_Reader_Int)) := by intro ds k; kernel_rfl

theorem draymanref23_wide_ok {α : Type} : (draymanref23_wide_spec : FunSpec α).ok Go.Proofs.Try.prog :=
  FunSpec.ok_of (sp := draymanref23_wide_spec) (C := draymanref23_wide_C draymanref03_Reader_Int) (q := draymanref23_wide_q) (inl := draymanref23_wide_inl) (N := 1000) (ann := draymanref23_wide_ann) (fr := false) (D := 6) (l := (draymanref23_wide_loops draymanref03_Reader_Int)) (hk := (fun _ => none)) (okCons draymanref03_Reader_Int_ok okNil) lokNil noHooks (draymanref23_wide_ev draymanref03_Reader_Int)

end
end Go.Rv.Try

set_option linter.unusedVariables false
set_option maxRecDepth 100000
set_option maxHeartbeats 4000000
namespace Go.Rv.Try
open Go Go.Rv Go.RowKit
noncomputable section

-- drayman/draymanref23.TakeEntry

abbrev draymanref23_TakeEntry_T (α : Type) : Type := (ByteArray × Bool × Unit) → (Z0 → (ByteArray × Bool × Unit) → Option α) → Option α

noncomputable def draymanref23_TakeEntry_g {α : Type} (draymanref23_wide : draymanref23_wide_T α) (draymanref03_Reader_Flag : draymanref03_Reader_Flag_T α) (x1 : ByteArray × Bool × Unit) (k : Z0 → (ByteArray × Bool × Unit) → Option α) : Option α :=
  (draymanref23_wide x1 fun r2 r3 =>
    (draymanref23_wide r3 fun r4 r5 =>
      (draymanref23_wide r5 fun r6 r7 =>
        (draymanref03_Reader_Flag r7 fun r8 r9 =>
          (draymanref23_wide r9 fun r10 r11 =>
            (draymanref23_wide r11 fun r12 r13 =>
              (draymanref03_Reader_Flag r13 fun r14 r15 =>
                (cond r15.2.1
                  (k (0, 0, 0, false, 0, 0, false, ()) r15)
                  (k (r2, r4, r6, r8, r10, r12, r14, ()) r15)))))))))

noncomputable def draymanref23_TakeEntry {α : Type} : draymanref23_TakeEntry_T α := draymanref23_TakeEntry_g draymanref23_wide draymanref03_Reader_Flag

noncomputable def draymanref23_TakeEntry_sp {α : Type} (draymanref23_TakeEntry : draymanref23_TakeEntry_T α) : FunSpec α := ⟨62, [.ref 0 0], [.box [.str, .bool]], fun ds k => draymanref23_TakeEntry (hdS ds, hdB ds.tail, ()) (fun r1 r2 => k (enc dep (.agg [.int .i64, .int .i64, .int .i64, .bool, .int .i64, .int .i64, .bool]) [.i r1.1, .i r1.2.1, .i r1.2.2.1, .b r1.2.2.2.1, .i r1.2.2.2.2.1, .i r1.2.2.2.2.2.1, .b r1.2.2.2.2.2.2.1]).1 (encBs [.box [.str, .bool]] [.s r2.1, .b r2.2.1]).1)⟩

noncomputable def draymanref23_TakeEntry_spec {α : Type} : FunSpec α := draymanref23_TakeEntry_sp draymanref23_TakeEntry

noncomputable def draymanref23_TakeEntry_C {α : Type} (draymanref23_wide : draymanref23_wide_T α) (draymanref03_Reader_Flag : draymanref03_Reader_Flag_T α) : List (FunSpec α) := [draymanref23_wide_sp draymanref23_wide, draymanref03_Reader_Flag_sp draymanref03_Reader_Flag]

noncomputable def draymanref23_TakeEntry_q : FuncId → Bool := fun f => Nat.beq f 109 || Nat.beq f 110

noncomputable def draymanref23_TakeEntry_inl : FuncId → Bool := fun f => false

noncomputable def draymanref23_TakeEntry_ann : FuncId → AnnT := fun f p => ⟨[], [], [], [], 0, [], [], none⟩

noncomputable def draymanref23_TakeEntry_loops {α : Type} (draymanref23_wide : draymanref23_wide_T α) (draymanref03_Reader_Flag : draymanref03_Reader_Flag_T α) : List (LoopSpec α) := []

theorem draymanref23_TakeEntry_ev {α : Type} (draymanref23_wide : draymanref23_wide_T α) (draymanref03_Reader_Flag : draymanref03_Reader_Flag_T α) : EvOk (α := α) Go.Proofs.Try.prog (envOf (draymanref23_TakeEntry_C draymanref23_wide draymanref03_Reader_Flag) draymanref23_TakeEntry_q draymanref23_TakeEntry_inl 1000 draymanref23_TakeEntry_ann false (draymanref23_TakeEntry_loops draymanref23_wide draymanref03_Reader_Flag) (fun _ => none)) 6 (draymanref23_TakeEntry_sp (draymanref23_TakeEntry_g draymanref23_wide draymanref03_Reader_Flag)) := by intro ds k; kernel_rfl

theorem draymanref23_TakeEntry_ok {α : Type} : (draymanref23_TakeEntry_spec : FunSpec α).ok Go.Proofs.Try.prog :=
  FunSpec.ok_of (sp := draymanref23_TakeEntry_spec) (C := draymanref23_TakeEntry_C draymanref23_wide draymanref03_Reader_Flag) (q := draymanref23_TakeEntry_q) (inl := draymanref23_TakeEntry_inl) (N := 1000) (ann := draymanref23_TakeEntry_ann) (fr := false) (D := 6) (l := (draymanref23_TakeEntry_loops draymanref23_wide draymanref03_Reader_Flag)) (hk := (fun _ => none)) (okCons draymanref23_wide_ok (okCons draymanref03_Reader_Flag_ok okNil)) lokNil noHooks (draymanref23_TakeEntry_ev draymanref23_wide draymanref03_Reader_Flag)

end
end Go.Rv.Try

set_option linter.unusedVariables false
set_option maxRecDepth 100000
set_option maxHeartbeats 4000000
namespace Go.Rv.Try
open Go Go.Rv Go.RowKit
noncomputable section

-- drayman/draymanref23.TakeReply

abbrev draymanref23_TakeReply_T (α : Type) : Type := (ByteArray × Bool × Unit) → ((Int × Int × Int × Int × Bool × Int × Int × Unit) → (ByteArray × Bool × Unit) → Option α) → Option α

noncomputable def draymanref23_TakeReply_g {α : Type} (draymanref23_wide : draymanref23_wide_T α) (draymanref03_Reader_Flag : draymanref03_Reader_Flag_T α) (x1 : ByteArray × Bool × Unit) (k : (Int × Int × Int × Int × Bool × Int × Int × Unit) → (ByteArray × Bool × Unit) → Option α) : Option α :=
  (draymanref23_wide x1 fun r2 r3 =>
    (draymanref23_wide r3 fun r4 r5 =>
      (draymanref23_wide r5 fun r6 r7 =>
        (draymanref23_wide r7 fun r8 r9 =>
          (draymanref03_Reader_Flag r9 fun r10 r11 =>
            (draymanref23_wide r11 fun r12 r13 =>
              (draymanref23_wide r13 fun r14 r15 =>
                (cond r15.2.1
                  (k (0, 0, 0, 0, false, 0, 0, ()) r15)
                  (k (r2, r4, r6, r8, r10, r12, r14, ()) r15)))))))))

noncomputable def draymanref23_TakeReply {α : Type} : draymanref23_TakeReply_T α := draymanref23_TakeReply_g draymanref23_wide draymanref03_Reader_Flag

noncomputable def draymanref23_TakeReply_sp {α : Type} (draymanref23_TakeReply : draymanref23_TakeReply_T α) : FunSpec α := ⟨68, [.ref 0 0], [.box [.str, .bool]], fun ds k => draymanref23_TakeReply (hdS ds, hdB ds.tail, ()) (fun r1 r2 => k (enc dep (.agg [.int .i64, .int .i64, .int .i64, .int .i64, .bool, .int .i64, .int .i64]) [.i r1.1, .i r1.2.1, .i r1.2.2.1, .i r1.2.2.2.1, .b r1.2.2.2.2.1, .i r1.2.2.2.2.2.1, .i r1.2.2.2.2.2.2.1]).1 (encBs [.box [.str, .bool]] [.s r2.1, .b r2.2.1]).1)⟩

noncomputable def draymanref23_TakeReply_spec {α : Type} : FunSpec α := draymanref23_TakeReply_sp draymanref23_TakeReply

noncomputable def draymanref23_TakeReply_C {α : Type} (draymanref23_wide : draymanref23_wide_T α) (draymanref03_Reader_Flag : draymanref03_Reader_Flag_T α) : List (FunSpec α) := [draymanref23_wide_sp draymanref23_wide, draymanref03_Reader_Flag_sp draymanref03_Reader_Flag]

noncomputable def draymanref23_TakeReply_q : FuncId → Bool := fun f => Nat.beq f 109 || Nat.beq f 110

noncomputable def draymanref23_TakeReply_inl : FuncId → Bool := fun f => false

noncomputable def draymanref23_TakeReply_ann : FuncId → AnnT := fun f p => ⟨[], [], [], [], 0, [], [], none⟩

noncomputable def draymanref23_TakeReply_loops {α : Type} (draymanref23_wide : draymanref23_wide_T α) (draymanref03_Reader_Flag : draymanref03_Reader_Flag_T α) : List (LoopSpec α) := []

theorem draymanref23_TakeReply_ev {α : Type} (draymanref23_wide : draymanref23_wide_T α) (draymanref03_Reader_Flag : draymanref03_Reader_Flag_T α) : EvOk (α := α) Go.Proofs.Try.prog (envOf (draymanref23_TakeReply_C draymanref23_wide draymanref03_Reader_Flag) draymanref23_TakeReply_q draymanref23_TakeReply_inl 1000 draymanref23_TakeReply_ann false (draymanref23_TakeReply_loops draymanref23_wide draymanref03_Reader_Flag) (fun _ => none)) 6 (draymanref23_TakeReply_sp (draymanref23_TakeReply_g draymanref23_wide draymanref03_Reader_Flag)) := by intro ds k; kernel_rfl

theorem draymanref23_TakeReply_ok {α : Type} : (draymanref23_TakeReply_spec : FunSpec α).ok Go.Proofs.Try.prog :=
  FunSpec.ok_of (sp := draymanref23_TakeReply_spec) (C := draymanref23_TakeReply_C draymanref23_wide draymanref03_Reader_Flag) (q := draymanref23_TakeReply_q) (inl := draymanref23_TakeReply_inl) (N := 1000) (ann := draymanref23_TakeReply_ann) (fr := false) (D := 6) (l := (draymanref23_TakeReply_loops draymanref23_wide draymanref03_Reader_Flag)) (hk := (fun _ => none)) (okCons draymanref23_wide_ok (okCons draymanref03_Reader_Flag_ok okNil)) lokNil noHooks (draymanref23_TakeReply_ev draymanref23_wide draymanref03_Reader_Flag)

end
end Go.Rv.Try

set_option linter.unusedVariables false
set_option maxRecDepth 100000
set_option maxHeartbeats 4000000
namespace Go.Rv.Try
open Go Go.Rv Go.RowKit
noncomputable section

-- drayman/draymanref23.Take

abbrev draymanref23_Take_T (α : Type) : Type := ByteArray → ((Int × Bool × Int × Int × Int × Int × Bool × Int × Int × Bool × Int × Int × Int × Int × Bool × Int × Int × Unit) → Int → Option α) → Option α

noncomputable def draymanref23_Take_g {α : Type} (draymanref23_wide : draymanref23_wide_T α) (draymanref03_Reader_Flag : draymanref03_Reader_Flag_T α) (draymanref23_TakeEntry : draymanref23_TakeEntry_T α) (draymanref17_Service : draymanref17_Service_T α) (draymanref03_Reader_Done : draymanref03_Reader_Done_T α) (draymanref23_Fit : draymanref23_Fit_T α) (draymanref23_TakeReply : draymanref23_TakeReply_T α) (s1 : ByteArray) (k : (Int × Bool × Int × Int × Int × Int × Bool × Int × Int × Bool × Int × Int × Int × Int × Bool × Int × Int × Unit) → Int → Option α) : Option α :=
  (draymanref23_wide (s1, false, ()) fun r2 r3 =>
    (draymanref23_wide r3 fun r4 r5 =>
      (draymanref03_Reader_Flag r5 fun r6 r7 =>
        (cond r6
          (draymanref23_TakeEntry r7 fun r8 r9 =>
            (draymanref17_Service r8.2.2.2.2.1 fun r10 =>
              (cond (!(r2 != 1))
                (draymanref03_Reader_Done r9 fun r11 r12 =>
                  (cond (!(!r11))
                    (draymanref23_Fit (r4, r6, r10, r8.1, r8.2.1, r8.2.2.1, r8.2.2.2.1, r8.2.2.2.2.1, r8.2.2.2.2.2.1, r8.2.2.2.2.2.2.1, 0, 0, 0, 0, false, 0, 0, ()) fun r13 =>
                      (cond (!r13)
                        (k (0, false, 0, 0, 0, 0, false, 0, 0, false, 0, 0, 0, 0, false, 0, 0, ()) 7)
                        (k (r4, r6, r10, r8.1, r8.2.1, r8.2.2.1, r8.2.2.2.1, r8.2.2.2.2.1, r8.2.2.2.2.2.1, r8.2.2.2.2.2.2.1, 0, 0, 0, 0, false, 0, 0, ()) 0)))
                    (k (0, false, 0, 0, 0, 0, false, 0, 0, false, 0, 0, 0, 0, false, 0, 0, ()) 7)))
                (k (0, false, 0, 0, 0, 0, false, 0, 0, false, 0, 0, 0, 0, false, 0, 0, ()) 7))))
          (draymanref23_TakeReply r7 fun r14 r15 =>
            (cond (!(r2 != 1))
              (draymanref03_Reader_Done r15 fun r16 r17 =>
                (cond (!(!r16))
                  (draymanref23_Fit (r4, r6, r14.1, 0, 0, 0, false, 0, 0, false, r14.1, r14.2.1, r14.2.2.1, r14.2.2.2.1, r14.2.2.2.2.1, r14.2.2.2.2.2.1, r14.2.2.2.2.2.2.1, ()) fun r18 =>
                    (cond (!r18)
                      (k (0, false, 0, 0, 0, 0, false, 0, 0, false, 0, 0, 0, 0, false, 0, 0, ()) 7)
                      (k (r4, r6, r14.1, 0, 0, 0, false, 0, 0, false, r14.1, r14.2.1, r14.2.2.1, r14.2.2.2.1, r14.2.2.2.2.1, r14.2.2.2.2.2.1, r14.2.2.2.2.2.2.1, ()) 0)))
                  (k (0, false, 0, 0, 0, 0, false, 0, 0, false, 0, 0, 0, 0, false, 0, 0, ()) 7)))
              (k (0, false, 0, 0, 0, 0, false, 0, 0, false, 0, 0, 0, 0, false, 0, 0, ()) 7)))))))

noncomputable def draymanref23_Take {α : Type} : draymanref23_Take_T α := draymanref23_Take_g draymanref23_wide draymanref03_Reader_Flag draymanref23_TakeEntry draymanref17_Service draymanref03_Reader_Done draymanref23_Fit draymanref23_TakeReply

noncomputable def draymanref23_Take_sp {α : Type} (draymanref23_Take : draymanref23_Take_T α) : FunSpec α := ⟨59, [.str], [], fun ds k => draymanref23_Take (hdS ds) (fun r1 r2 => k (enc dep (.tup [.agg [.int .i64, .bool, .int .i64, .int .i64, .int .i64, .int .i64, .bool, .int .i64, .int .i64, .bool, .int .i64, .int .i64, .int .i64, .int .i64, .bool, .int .i64, .int .i64], .int .i64]) [.i r1.1, .b r1.2.1, .i r1.2.2.1, .i r1.2.2.2.1, .i r1.2.2.2.2.1, .i r1.2.2.2.2.2.1, .b r1.2.2.2.2.2.2.1, .i r1.2.2.2.2.2.2.2.1, .i r1.2.2.2.2.2.2.2.2.1, .b r1.2.2.2.2.2.2.2.2.2.1, .i r1.2.2.2.2.2.2.2.2.2.2.1, .i r1.2.2.2.2.2.2.2.2.2.2.2.1, .i r1.2.2.2.2.2.2.2.2.2.2.2.2.1, .i r1.2.2.2.2.2.2.2.2.2.2.2.2.2.1, .b r1.2.2.2.2.2.2.2.2.2.2.2.2.2.2.1, .i r1.2.2.2.2.2.2.2.2.2.2.2.2.2.2.2.1, .i r1.2.2.2.2.2.2.2.2.2.2.2.2.2.2.2.2.1, .i r2]).1 [])⟩

noncomputable def draymanref23_Take_spec {α : Type} : FunSpec α := draymanref23_Take_sp draymanref23_Take

noncomputable def draymanref23_Take_C {α : Type} (draymanref23_wide : draymanref23_wide_T α) (draymanref03_Reader_Flag : draymanref03_Reader_Flag_T α) (draymanref23_TakeEntry : draymanref23_TakeEntry_T α) (draymanref17_Service : draymanref17_Service_T α) (draymanref03_Reader_Done : draymanref03_Reader_Done_T α) (draymanref23_Fit : draymanref23_Fit_T α) (draymanref23_TakeReply : draymanref23_TakeReply_T α) : List (FunSpec α) := [draymanref23_wide_sp draymanref23_wide, draymanref03_Reader_Flag_sp draymanref03_Reader_Flag, draymanref23_TakeEntry_sp draymanref23_TakeEntry, draymanref17_Service_sp draymanref17_Service, draymanref03_Reader_Done_sp draymanref03_Reader_Done, draymanref23_Fit_sp draymanref23_Fit, draymanref23_TakeReply_sp draymanref23_TakeReply]

noncomputable def draymanref23_Take_q : FuncId → Bool := fun f => Nat.beq f 50 || Nat.beq f 62 || Nat.beq f 66 || Nat.beq f 68 || Nat.beq f 87 || Nat.beq f 109 || Nat.beq f 110

noncomputable def draymanref23_Take_inl : FuncId → Bool := fun f => false

noncomputable def draymanref23_Take_ann : FuncId → AnnT := fun f p => ⟨[], [], [], [], 0, [], [], none⟩

noncomputable def draymanref23_Take_loops {α : Type} (draymanref23_wide : draymanref23_wide_T α) (draymanref03_Reader_Flag : draymanref03_Reader_Flag_T α) (draymanref23_TakeEntry : draymanref23_TakeEntry_T α) (draymanref17_Service : draymanref17_Service_T α) (draymanref03_Reader_Done : draymanref03_Reader_Done_T α) (draymanref23_Fit : draymanref23_Fit_T α) (draymanref23_TakeReply : draymanref23_TakeReply_T α) : List (LoopSpec α) := []

theorem draymanref23_Take_ev {α : Type} (draymanref23_wide : draymanref23_wide_T α) (draymanref03_Reader_Flag : draymanref03_Reader_Flag_T α) (draymanref23_TakeEntry : draymanref23_TakeEntry_T α) (draymanref17_Service : draymanref17_Service_T α) (draymanref03_Reader_Done : draymanref03_Reader_Done_T α) (draymanref23_Fit : draymanref23_Fit_T α) (draymanref23_TakeReply : draymanref23_TakeReply_T α) : EvOk (α := α) Go.Proofs.Try.prog (envOf (draymanref23_Take_C draymanref23_wide draymanref03_Reader_Flag draymanref23_TakeEntry draymanref17_Service draymanref03_Reader_Done draymanref23_Fit draymanref23_TakeReply) draymanref23_Take_q draymanref23_Take_inl 1000 draymanref23_Take_ann false (draymanref23_Take_loops draymanref23_wide draymanref03_Reader_Flag draymanref23_TakeEntry draymanref17_Service draymanref03_Reader_Done draymanref23_Fit draymanref23_TakeReply) (fun _ => none)) 6 (draymanref23_Take_sp (draymanref23_Take_g draymanref23_wide draymanref03_Reader_Flag draymanref23_TakeEntry draymanref17_Service draymanref03_Reader_Done draymanref23_Fit draymanref23_TakeReply)) := by intro ds k; kernel_rfl

theorem draymanref23_Take_ok {α : Type} : (draymanref23_Take_spec : FunSpec α).ok Go.Proofs.Try.prog :=
  FunSpec.ok_of (sp := draymanref23_Take_spec) (C := draymanref23_Take_C draymanref23_wide draymanref03_Reader_Flag draymanref23_TakeEntry draymanref17_Service draymanref03_Reader_Done draymanref23_Fit draymanref23_TakeReply) (q := draymanref23_Take_q) (inl := draymanref23_Take_inl) (N := 1000) (ann := draymanref23_Take_ann) (fr := false) (D := 6) (l := (draymanref23_Take_loops draymanref23_wide draymanref03_Reader_Flag draymanref23_TakeEntry draymanref17_Service draymanref03_Reader_Done draymanref23_Fit draymanref23_TakeReply)) (hk := (fun _ => none)) (okCons draymanref23_wide_ok (okCons draymanref03_Reader_Flag_ok (okCons draymanref23_TakeEntry_ok (okCons draymanref17_Service_ok (okCons draymanref03_Reader_Done_ok (okCons draymanref23_Fit_ok (okCons draymanref23_TakeReply_ok okNil))))))) lokNil noHooks (draymanref23_Take_ev draymanref23_wide draymanref03_Reader_Flag draymanref23_TakeEntry draymanref17_Service draymanref03_Reader_Done draymanref23_Fit draymanref23_TakeReply)

end
end Go.Rv.Try
