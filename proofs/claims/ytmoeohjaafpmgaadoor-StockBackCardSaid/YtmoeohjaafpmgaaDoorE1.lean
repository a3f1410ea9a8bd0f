/- What the functions of the program compute, each with the proof that its code computes it. Written by a program (rvp2.py). -/
import Derived.Test.YtmoeohjaafpmgaaDoorProg
import Derived.Test.YtmoeohjaafpmgaaDoorRvP
import Derived.Test.YtmoeohjaafpmgaaDoorFx
import Derived.Test.YtmoeohjaafpmgaaDoorUtf8
import Derived.Test.YtmoeohjaafpmgaaDoorE0

set_option linter.unusedVariables false
set_option maxRecDepth 100000
set_option maxHeartbeats 4000000
namespace Go.Rv.Tryd
open Go Go.Rv Go.RowKit
noncomputable section

-- drayman/draymanref12.New

abbrev draymanref12_New_T (α : Type) : Type := ByteArray → (Z0 → Int → Option α) → Option α

noncomputable def draymanref12_New_g {α : Type} (draymanref02_Fit : draymanref02_Fit_T α) (sku1 : ByteArray) (k : Z0 → Int → Option α) : Option α :=
  (draymanref02_Fit sku1 fun r2 =>
    (cond (!r2)
      (k ((⟨#[]⟩ : ByteArray), 0, 0, 0, 0, 0, ()) 7)
      (k (sku1, 0, 0, 0, 0, 0, ()) 0)))

noncomputable def draymanref12_New {α : Type} : draymanref12_New_T α := draymanref12_New_g draymanref02_Fit

noncomputable def draymanref12_New_sp {α : Type} (draymanref12_New : draymanref12_New_T α) : FunSpec α := ⟨17, [.str], [], fun ds k => draymanref12_New (hdS ds) (fun r1 r2 => k (enc dep (.tup [.agg [.str, .int .i64, .int .i64, .int .i64, .int .i64, .int .i64], .int .i64]) [.s r1.1, .i r1.2.1, .i r1.2.2.1, .i r1.2.2.2.1, .i r1.2.2.2.2.1, .i r1.2.2.2.2.2.1, .i r2]).1 [])⟩

noncomputable def draymanref12_New_spec {α : Type} : FunSpec α := draymanref12_New_sp draymanref12_New

noncomputable def draymanref12_New_C {α : Type} (draymanref02_Fit : draymanref02_Fit_T α) : List (FunSpec α) := [draymanref02_Fit_sp draymanref02_Fit]

noncomputable def draymanref12_New_q : FuncId → Bool := fun f => Nat.beq f 53

noncomputable def draymanref12_New_inl : FuncId → Bool := fun f => false

noncomputable def draymanref12_New_ann : FuncId → AnnT := fun f p => ⟨[], [], [], [], 0, [], [], none⟩

noncomputable def draymanref12_New_loops {α : Type} (draymanref02_Fit : draymanref02_Fit_T α) : List (LoopSpec α) := []

theorem draymanref12_New_ev {α : Type} (draymanref02_Fit : draymanref02_Fit_T α) : EvOk (α := α) Go.Proofs.Tryd.prog (envOf (draymanref12_New_C draymanref02_Fit) draymanref12_New_q draymanref12_New_inl 1000 draymanref12_New_ann false (draymanref12_New_loops draymanref02_Fit) (fun _ => none)) 6 (draymanref12_New_sp (draymanref12_New_g draymanref02_Fit)) := by intro ds k; kernel_rfl

theorem draymanref12_New_ok {α : Type} : (draymanref12_New_spec : FunSpec α).ok Go.Proofs.Tryd.prog :=
  FunSpec.ok_of (sp := draymanref12_New_spec) (C := draymanref12_New_C draymanref02_Fit) (q := draymanref12_New_q) (inl := draymanref12_New_inl) (N := 1000) (ann := draymanref12_New_ann) (fr := false) (D := 6) (l := (draymanref12_New_loops draymanref02_Fit)) (hk := (fun _ => none)) (okCons draymanref02_Fit_ok okNil) lokNil noHooks (draymanref12_New_ev draymanref02_Fit)

end
end Go.Rv.Tryd

set_option linter.unusedVariables false
set_option maxRecDepth 100000
set_option maxHeartbeats 4000000
namespace Go.Rv.Tryd
open Go Go.Rv Go.RowKit
noncomputable section

-- drayman/draymanref12.Move

abbrev draymanref12_Move_T (α : Type) : Type := Z0 → Int → Int → (Z0 → Int → Option α) → Option α

noncomputable def draymanref12_Move_g {α : Type} (draymanref12_Fit : draymanref12_Fit_T α) (x1 : ByteArray × Int × Int × Int × Int × Int × Unit) (x2 : Int) (x3 : Int) (k : Z0 → Int → Option α) : Option α :=
  (draymanref12_Fit x1 fun r4 =>
    (cond (!r4)
      (k ((⟨#[]⟩ : ByteArray), 0, 0, 0, 0, 0, ()) 12)
      (cond (!(decide (x3 < 1)))
        (cond (decide (x3 > 1048576))
          (k ((⟨#[]⟩ : ByteArray), 0, 0, 0, 0, 0, ()) 11)
          (joinD
            (fun ds => (fun (x5 : Int) (x6 : Int) (x7 : Int) (x8 : ByteArray × Int × Int × Int × Int × Int × Unit) (x9 : ByteArray × Int × Int × Int × Int × Int × Unit) =>
              (cond (decide (x7 < x6))
                (k ((⟨#[]⟩ : ByteArray), 0, 0, 0, 0, 0, ()) 6)
                (cond (x5 == 1)
                  (k (x8.1, (IntKind.i64.wrap (x8.2.1 - x6)), (IntKind.i64.wrap (x8.2.2.1 + x6)), x8.2.2.2.1, x8.2.2.2.2.1, x8.2.2.2.2.2.1, ()) 0)
                  (cond (x5 == 2)
                    (k (x8.1, (IntKind.i64.wrap (x8.2.1 + x6)), (IntKind.i64.wrap (x8.2.2.1 - x6)), x8.2.2.2.1, x8.2.2.2.2.1, x8.2.2.2.2.2.1, ()) 0)
                    (cond (x5 == 3)
                      (k (x8.1, x8.2.1, (IntKind.i64.wrap (x8.2.2.1 - x6)), (IntKind.i64.wrap (x8.2.2.2.1 + x6)), x8.2.2.2.2.1, x8.2.2.2.2.2.1, ()) 0)
                      (cond (x5 == 4)
                        (k (x8.1, x8.2.1, (IntKind.i64.wrap (x8.2.2.1 + x6)), (IntKind.i64.wrap (x8.2.2.2.1 - x6)), x8.2.2.2.2.1, x8.2.2.2.2.2.1, ()) 0)
                        (k (x8.1, x8.2.1, x8.2.2.1, (IntKind.i64.wrap (x8.2.2.2.1 - x6)), (IntKind.i64.wrap (x8.2.2.2.2.1 + x6)), x8.2.2.2.2.2.1, ()) 0)))))))
              (hdI ds) (hdI ds.tail) (hdI ds.tail.tail) (hdS ds.tail.tail.tail, hdI ds.tail.tail.tail.tail, hdI ds.tail.tail.tail.tail.tail, hdI ds.tail.tail.tail.tail.tail.tail, hdI ds.tail.tail.tail.tail.tail.tail.tail, hdI ds.tail.tail.tail.tail.tail.tail.tail.tail, ()) (hdS ds.tail.tail.tail.tail.tail.tail.tail.tail.tail, hdI ds.tail.tail.tail.tail.tail.tail.tail.tail.tail.tail, hdI ds.tail.tail.tail.tail.tail.tail.tail.tail.tail.tail.tail, hdI ds.tail.tail.tail.tail.tail.tail.tail.tail.tail.tail.tail.tail, hdI ds.tail.tail.tail.tail.tail.tail.tail.tail.tail.tail.tail.tail.tail, hdI ds.tail.tail.tail.tail.tail.tail.tail.tail.tail.tail.tail.tail.tail.tail, ()))
            (fun j10 =>
              (cond (x2 == 1)
                (j10 [.i x2, .i x3, .i x1.2.1, .s x1.1, .i x1.2.1, .i x1.2.2.1, .i x1.2.2.2.1, .i x1.2.2.2.2.1, .i x1.2.2.2.2.2.1, .s (((⟨#[]⟩ : ByteArray), 0, 0, 0, 0, 0, ()).1), .i (((⟨#[]⟩ : ByteArray), 0, 0, 0, 0, 0, ()).2.1), .i (((⟨#[]⟩ : ByteArray), 0, 0, 0, 0, 0, ()).2.2.1), .i (((⟨#[]⟩ : ByteArray), 0, 0, 0, 0, 0, ()).2.2.2.1), .i (((⟨#[]⟩ : ByteArray), 0, 0, 0, 0, 0, ()).2.2.2.2.1), .i (((⟨#[]⟩ : ByteArray), 0, 0, 0, 0, 0, ()).2.2.2.2.2.1)])
                (cond (x2 == 2)
                  (cond (x2 == 2)
                    (j10 [.i x2, .i x3, .i x1.2.2.1, .s x1.1, .i x1.2.1, .i x1.2.2.1, .i x1.2.2.2.1, .i x1.2.2.2.2.1, .i x1.2.2.2.2.2.1, .s (((⟨#[]⟩ : ByteArray), 0, 0, 0, 0, 0, ()).1), .i (((⟨#[]⟩ : ByteArray), 0, 0, 0, 0, 0, ()).2.1), .i (((⟨#[]⟩ : ByteArray), 0, 0, 0, 0, 0, ()).2.2.1), .i (((⟨#[]⟩ : ByteArray), 0, 0, 0, 0, 0, ()).2.2.2.1), .i (((⟨#[]⟩ : ByteArray), 0, 0, 0, 0, 0, ()).2.2.2.2.1), .i (((⟨#[]⟩ : ByteArray), 0, 0, 0, 0, 0, ()).2.2.2.2.2.1)])
                    (j10 [.i x2, .i x3, .i x1.2.2.2.1, .s x1.1, .i x1.2.1, .i x1.2.2.1, .i x1.2.2.2.1, .i x1.2.2.2.2.1, .i x1.2.2.2.2.2.1, .s (((⟨#[]⟩ : ByteArray), 0, 0, 0, 0, 0, ()).1), .i (((⟨#[]⟩ : ByteArray), 0, 0, 0, 0, 0, ()).2.1), .i (((⟨#[]⟩ : ByteArray), 0, 0, 0, 0, 0, ()).2.2.1), .i (((⟨#[]⟩ : ByteArray), 0, 0, 0, 0, 0, ()).2.2.2.1), .i (((⟨#[]⟩ : ByteArray), 0, 0, 0, 0, 0, ()).2.2.2.2.1), .i (((⟨#[]⟩ : ByteArray), 0, 0, 0, 0, 0, ()).2.2.2.2.2.1)]))
                  (cond (x2 == 3)
                    (j10 [.i x2, .i x3, .i x1.2.2.1, .s x1.1, .i x1.2.1, .i x1.2.2.1, .i x1.2.2.2.1, .i x1.2.2.2.2.1, .i x1.2.2.2.2.2.1, .s (((⟨#[]⟩ : ByteArray), 0, 0, 0, 0, 0, ()).1), .i (((⟨#[]⟩ : ByteArray), 0, 0, 0, 0, 0, ()).2.1), .i (((⟨#[]⟩ : ByteArray), 0, 0, 0, 0, 0, ()).2.2.1), .i (((⟨#[]⟩ : ByteArray), 0, 0, 0, 0, 0, ()).2.2.2.1), .i (((⟨#[]⟩ : ByteArray), 0, 0, 0, 0, 0, ()).2.2.2.2.1), .i (((⟨#[]⟩ : ByteArray), 0, 0, 0, 0, 0, ()).2.2.2.2.2.1)])
                    (j10 [.i x2, .i x3, .i x1.2.2.2.1, .s x1.1, .i x1.2.1, .i x1.2.2.1, .i x1.2.2.2.1, .i x1.2.2.2.2.1, .i x1.2.2.2.2.2.1, .s (((⟨#[]⟩ : ByteArray), 0, 0, 0, 0, 0, ()).1), .i (((⟨#[]⟩ : ByteArray), 0, 0, 0, 0, 0, ()).2.1), .i (((⟨#[]⟩ : ByteArray), 0, 0, 0, 0, 0, ()).2.2.1), .i (((⟨#[]⟩ : ByteArray), 0, 0, 0, 0, 0, ()).2.2.2.1), .i (((⟨#[]⟩ : ByteArray), 0, 0, 0, 0, 0, ()).2.2.2.2.1), .i (((⟨#[]⟩ : ByteArray), 0, 0, 0, 0, 0, ()).2.2.2.2.2.1)])))))))
        (k ((⟨#[]⟩ : ByteArray), 0, 0, 0, 0, 0, ()) 11))))

noncomputable def draymanref12_Move {α : Type} : draymanref12_Move_T α := draymanref12_Move_g draymanref12_Fit

noncomputable def draymanref12_Move_sp {α : Type} (draymanref12_Move : draymanref12_Move_T α) : FunSpec α := ⟨19, [.agg [.str, .int .i64, .int .i64, .int .i64, .int .i64, .int .i64], .int .i64, .int .i64], [], fun ds k => draymanref12_Move (hdS ds, hdI ds.tail, hdI ds.tail.tail, hdI ds.tail.tail.tail, hdI ds.tail.tail.tail.tail, hdI ds.tail.tail.tail.tail.tail, ()) (hdI ds.tail.tail.tail.tail.tail.tail) (hdI ds.tail.tail.tail.tail.tail.tail.tail) (fun r1 r2 => k (enc dep (.tup [.agg [.str, .int .i64, .int .i64, .int .i64, .int .i64, .int .i64], .int .i64]) [.s r1.1, .i r1.2.1, .i r1.2.2.1, .i r1.2.2.2.1, .i r1.2.2.2.2.1, .i r1.2.2.2.2.2.1, .i r2]).1 [])⟩

noncomputable def draymanref12_Move_spec {α : Type} : FunSpec α := draymanref12_Move_sp draymanref12_Move

noncomputable def draymanref12_Move_C {α : Type} (draymanref12_Fit : draymanref12_Fit_T α) : List (FunSpec α) := [draymanref12_Fit_sp draymanref12_Fit]

noncomputable def draymanref12_Move_q : FuncId → Bool := fun f => Nat.beq f 21

noncomputable def draymanref12_Move_inl : FuncId → Bool := fun f => false

noncomputable def draymanref12_Move_ann : FuncId → AnnT := fun f p => if f = 19 then (if p = [true, true, true, true] then ⟨[1, 2, 3, 6, 8], [], [], [], 0, [], [], some ([.dead, .int .i64, .int .i64, .ref 0 0, .dead, .dead, .ref 1 0, .dead, .int .i64, .dead, .dead, .dead, .dead, .dead, .dead, .dead, .dead, .dead, .dead, .dead, .dead, .dead, .dead, .dead, .dead, .dead, .dead, .dead, .dead, .dead, .dead, .dead, .dead, .dead, .dead, .dead, .dead, .dead, .dead, .dead, .dead, .dead, .dead, .dead, .dead, .dead, .dead, .dead, .dead, .dead, .dead, .dead, .dead, .dead, .dead, .dead, .dead, .dead, .dead, .dead, .dead, .dead, .dead, .dead, .dead, .dead, .dead, .dead, .dead, .dead, .dead, .dead, .dead, .dead, .dead, .dead, .dead, .dead, .dead, .dead, .dead, .dead, .dead, .dead, .dead, .dead, .dead, .dead, .dead, .dead, .dead, .dead, .dead, .dead, .dead, .dead], [], [.box [.str, .int .i64, .int .i64, .int .i64, .int .i64, .int .i64], .box [.str, .int .i64, .int .i64, .int .i64, .int .i64, .int .i64]])⟩ else ⟨[], [], [], [], 0, [], [], none⟩) else ⟨[], [], [], [], 0, [], [], none⟩

noncomputable def draymanref12_Move_loops {α : Type} (draymanref12_Fit : draymanref12_Fit_T α) : List (LoopSpec α) := []

theorem draymanref12_Move_ev {α : Type} (draymanref12_Fit : draymanref12_Fit_T α) : EvOk (α := α) Go.Proofs.Tryd.prog (envOf (draymanref12_Move_C draymanref12_Fit) draymanref12_Move_q draymanref12_Move_inl 1000 draymanref12_Move_ann false (draymanref12_Move_loops draymanref12_Fit) (fun _ => none)) 6 (draymanref12_Move_sp (draymanref12_Move_g draymanref12_Fit)) := by intro ds k; kernel_rfl

theorem draymanref12_Move_ok {α : Type} : (draymanref12_Move_spec : FunSpec α).ok Go.Proofs.Tryd.prog :=
  FunSpec.ok_of (sp := draymanref12_Move_spec) (C := draymanref12_Move_C draymanref12_Fit) (q := draymanref12_Move_q) (inl := draymanref12_Move_inl) (N := 1000) (ann := draymanref12_Move_ann) (fr := false) (D := 6) (l := (draymanref12_Move_loops draymanref12_Fit)) (hk := (fun _ => none)) (okCons draymanref12_Fit_ok okNil) lokNil noHooks (draymanref12_Move_ev draymanref12_Fit)

end
end Go.Rv.Tryd
