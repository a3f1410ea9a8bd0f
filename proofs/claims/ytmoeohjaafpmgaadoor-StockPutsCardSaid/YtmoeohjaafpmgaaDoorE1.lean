/- What the functions of the program compute, each with the proof that its code computes it. Written by a program (rvp2.py). -/
import Derived.Test.YtmoeohjaafpmgaaDoorProg
import Derived.Test.YtmoeohjaafpmgaaDoorRvP
import Derived.Test.YtmoeohjaafpmgaaDoorFx
import Derived.Test.YtmoeohjaafpmgaaDoorUtf8
import Derived.Test.YtmoeohjaafpmgaaDoorE0

set_option linter.unusedVariables false
set_option maxRecDepth 100000
set_option maxHeartbeats 4000000
namespace Go.Rv.Tryd
open Go Go.Rv Go.RowKit
noncomputable section

-- drayman/stock.Send

abbrev stock_Send_T (α : Type) : Type := Z0 → Int → (Z0 → Int → Option α) → Option α

noncomputable def stock_Send_g {α : Type} (stock_Fit : stock_Fit_T α) (x1 : ByteArray × Int × Int × Int × Int × Int × Unit) (n2 : Int) (k : Z0 → Int → Option α) : Option α :=
  (stock_Fit x1 fun r3 =>
    (cond (!r3)
      (k ((⟨#[]⟩ : ByteArray), 0, 0, 0, 0, 0, ()) 12)
      (cond (!(decide (n2 < 1)))
        (cond (decide (n2 > 1048576))
          (k ((⟨#[]⟩ : ByteArray), 0, 0, 0, 0, 0, ()) 11)
          (cond (decide (x1.2.2.2.1 < n2))
            (k ((⟨#[]⟩ : ByteArray), 0, 0, 0, 0, 0, ()) 6)
            (k (x1.1, x1.2.1, x1.2.2.1, (IntKind.i64.wrap (x1.2.2.2.1 - n2)), (IntKind.i64.wrap (x1.2.2.2.2.1 + n2)), x1.2.2.2.2.2.1, ()) 0)))
        (k ((⟨#[]⟩ : ByteArray), 0, 0, 0, 0, 0, ()) 11))))

noncomputable def stock_Send {α : Type} : stock_Send_T α := stock_Send_g stock_Fit

noncomputable def stock_Send_sp {α : Type} (stock_Send : stock_Send_T α) : FunSpec α := ⟨57, [.agg [.str, .int .i64, .int .i64, .int .i64, .int .i64, .int .i64], .int .i64], [], fun ds k => stock_Send (hdS ds, hdI ds.tail, hdI ds.tail.tail, hdI ds.tail.tail.tail, hdI ds.tail.tail.tail.tail, hdI ds.tail.tail.tail.tail.tail, ()) (hdI ds.tail.tail.tail.tail.tail.tail) (fun r1 r2 => k (enc dep (.tup [.agg [.str, .int .i64, .int .i64, .int .i64, .int .i64, .int .i64], .int .i64]) [.s r1.1, .i r1.2.1, .i r1.2.2.1, .i r1.2.2.2.1, .i r1.2.2.2.2.1, .i r1.2.2.2.2.2.1, .i r2]).1 [])⟩

noncomputable def stock_Send_spec {α : Type} : FunSpec α := stock_Send_sp stock_Send

noncomputable def stock_Send_C {α : Type} (stock_Fit : stock_Fit_T α) : List (FunSpec α) := [stock_Fit_sp stock_Fit]

noncomputable def stock_Send_q : FuncId → Bool := fun f => Nat.beq f 20

noncomputable def stock_Send_inl : FuncId → Bool := fun f => Nat.beq f 88 || Nat.beq f 98

noncomputable def stock_Send_ann : FuncId → AnnT := fun f p => ⟨[], [], [], [], 0, [], [], none⟩

noncomputable def stock_Send_loops {α : Type} (stock_Fit : stock_Fit_T α) : List (LoopSpec α) := []

theorem stock_Send_ev {α : Type} (stock_Fit : stock_Fit_T α) : EvOk (α := α) Go.Proofs.Tryd.prog (envOf (stock_Send_C stock_Fit) stock_Send_q stock_Send_inl 1000 stock_Send_ann false (stock_Send_loops stock_Fit) (fun _ => none)) 6 (stock_Send_sp (stock_Send_g stock_Fit)) := by intro ds k; kernel_rfl

theorem stock_Send_ok {α : Type} : (stock_Send_spec : FunSpec α).ok Go.Proofs.Tryd.prog :=
  FunSpec.ok_of (sp := stock_Send_spec) (C := stock_Send_C stock_Fit) (q := stock_Send_q) (inl := stock_Send_inl) (N := 1000) (ann := stock_Send_ann) (fr := false) (D := 6) (l := (stock_Send_loops stock_Fit)) (hk := (fun _ => none)) (okCons stock_Fit_ok okNil) lokNil noHooks (stock_Send_ev stock_Fit)

end
end Go.Rv.Tryd

set_option linter.unusedVariables false
set_option maxRecDepth 100000
set_option maxHeartbeats 4000000
namespace Go.Rv.Tryd
open Go Go.Rv Go.RowKit
noncomputable section

-- drayman/draymanlaw12.move

abbrev draymanlaw12_move_T (α : Type) : Type := Z0 → Int → Int → (Z0 → Int → Option α) → Option α

noncomputable def draymanlaw12_move_g {α : Type} (stock_Hold : stock_Hold_T α) (stock_Release : stock_Release_T α) (stock_Keep : stock_Keep_T α) (stock_Unkeep : stock_Unkeep_T α) (stock_Send : stock_Send_T α) (x1 : ByteArray × Int × Int × Int × Int × Int × Unit) (which2 : Int) (n3 : Int) (k : Z0 → Int → Option α) : Option α :=
  (cond (which2 == 1)
    (stock_Hold x1 n3 fun r4 r5 =>
      (k r4 r5))
    (cond (which2 == 2)
      (stock_Release x1 n3 fun r6 r7 =>
        (k r6 r7))
      (cond (which2 == 3)
        (stock_Keep x1 n3 fun r8 r9 =>
          (k r8 r9))
        (cond (which2 == 4)
          (stock_Unkeep x1 n3 fun r10 r11 =>
            (k r10 r11))
          (stock_Send x1 n3 fun r12 r13 =>
            (k r12 r13))))))

noncomputable def draymanlaw12_move {α : Type} : draymanlaw12_move_T α := draymanlaw12_move_g stock_Hold stock_Release stock_Keep stock_Unkeep stock_Send

noncomputable def draymanlaw12_move_sp {α : Type} (draymanlaw12_move : draymanlaw12_move_T α) : FunSpec α := ⟨18, [.agg [.str, .int .i64, .int .i64, .int .i64, .int .i64, .int .i64], .int .i64, .int .i64], [], fun ds k => draymanlaw12_move (hdS ds, hdI ds.tail, hdI ds.tail.tail, hdI ds.tail.tail.tail, hdI ds.tail.tail.tail.tail, hdI ds.tail.tail.tail.tail.tail, ()) (hdI ds.tail.tail.tail.tail.tail.tail) (hdI ds.tail.tail.tail.tail.tail.tail.tail) (fun r1 r2 => k (enc dep (.tup [.agg [.str, .int .i64, .int .i64, .int .i64, .int .i64, .int .i64], .int .i64]) [.s r1.1, .i r1.2.1, .i r1.2.2.1, .i r1.2.2.2.1, .i r1.2.2.2.2.1, .i r1.2.2.2.2.2.1, .i r2]).1 [])⟩

noncomputable def draymanlaw12_move_spec {α : Type} : FunSpec α := draymanlaw12_move_sp draymanlaw12_move

noncomputable def draymanlaw12_move_C {α : Type} (stock_Hold : stock_Hold_T α) (stock_Release : stock_Release_T α) (stock_Keep : stock_Keep_T α) (stock_Unkeep : stock_Unkeep_T α) (stock_Send : stock_Send_T α) : List (FunSpec α) := [stock_Hold_sp stock_Hold, stock_Release_sp stock_Release, stock_Keep_sp stock_Keep, stock_Unkeep_sp stock_Unkeep, stock_Send_sp stock_Send]

noncomputable def draymanlaw12_move_q : FuncId → Bool := fun f => Nat.beq f 50 || Nat.beq f 54 || Nat.beq f 55 || Nat.beq f 56 || Nat.beq f 57

noncomputable def draymanlaw12_move_inl : FuncId → Bool := fun f => false

noncomputable def draymanlaw12_move_ann : FuncId → AnnT := fun f p => ⟨[], [], [], [], 0, [], [], none⟩

noncomputable def draymanlaw12_move_loops {α : Type} (stock_Hold : stock_Hold_T α) (stock_Release : stock_Release_T α) (stock_Keep : stock_Keep_T α) (stock_Unkeep : stock_Unkeep_T α) (stock_Send : stock_Send_T α) : List (LoopSpec α) := []

theorem draymanlaw12_move_ev {α : Type} (stock_Hold : stock_Hold_T α) (stock_Release : stock_Release_T α) (stock_Keep : stock_Keep_T α) (stock_Unkeep : stock_Unkeep_T α) (stock_Send : stock_Send_T α) : EvOk (α := α) Go.Proofs.Tryd.prog (envOf (draymanlaw12_move_C stock_Hold stock_Release stock_Keep stock_Unkeep stock_Send) draymanlaw12_move_q draymanlaw12_move_inl 1000 draymanlaw12_move_ann false (draymanlaw12_move_loops stock_Hold stock_Release stock_Keep stock_Unkeep stock_Send) (fun _ => none)) 6 (draymanlaw12_move_sp (draymanlaw12_move_g stock_Hold stock_Release stock_Keep stock_Unkeep stock_Send)) := by intro ds k; kernel_rfl

theorem draymanlaw12_move_ok {α : Type} : (draymanlaw12_move_spec : FunSpec α).ok Go.Proofs.Tryd.prog :=
  FunSpec.ok_of (sp := draymanlaw12_move_spec) (C := draymanlaw12_move_C stock_Hold stock_Release stock_Keep stock_Unkeep stock_Send) (q := draymanlaw12_move_q) (inl := draymanlaw12_move_inl) (N := 1000) (ann := draymanlaw12_move_ann) (fr := false) (D := 6) (l := (draymanlaw12_move_loops stock_Hold stock_Release stock_Keep stock_Unkeep stock_Send)) (hk := (fun _ => none)) (okCons stock_Hold_ok (okCons stock_Release_ok (okCons stock_Keep_ok (okCons stock_Unkeep_ok (okCons stock_Send_ok okNil))))) lokNil noHooks (draymanlaw12_move_ev stock_Hold stock_Release stock_Keep stock_Unkeep stock_Send)

end
end Go.Rv.Tryd
