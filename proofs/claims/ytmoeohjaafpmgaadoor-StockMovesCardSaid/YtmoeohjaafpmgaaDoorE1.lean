/- What the functions of the program compute, each with the proof that its code computes it. Written by a program (rvp2.py). -/
import Derived.Test.YtmoeohjaafpmgaaDoorProg
import Derived.Test.YtmoeohjaafpmgaaDoorRvP
import Derived.Test.YtmoeohjaafpmgaaDoorFx
import Derived.Test.YtmoeohjaafpmgaaDoorUtf8
import Derived.Test.YtmoeohjaafpmgaaDoorE0

set_option linter.unusedVariables false
set_option maxRecDepth 100000
set_option maxHeartbeats 4000000
namespace Go.Rv.Tryd
open Go Go.Rv Go.RowKit
noncomputable section

-- drayman/draymanref12.Adjust

abbrev draymanref12_Adjust_T (α : Type) : Type := Z0 → Int → (Z0 → Int → Option α) → Option α

noncomputable def draymanref12_Adjust_g {α : Type} (draymanref12_Fit : draymanref12_Fit_T α) (x1 : ByteArray × Int × Int × Int × Int × Int × Unit) (x2 : Int) (k : Z0 → Int → Option α) : Option α :=
  (draymanref12_Fit x1 fun r3 =>
    (cond (!r3)
      (k ((⟨#[]⟩ : ByteArray), 0, 0, 0, 0, 0, ()) 12)
      (cond (!(x2 == 0))
        (cond (!(decide (x2 < (-1099511627776))))
          (cond (decide (x2 > 1099511627776))
            (k ((⟨#[]⟩ : ByteArray), 0, 0, 0, 0, 0, ()) 11)
            (cond (decide ((IntKind.i64.wrap (x1.2.1 + x2)) < 0))
              (k ((⟨#[]⟩ : ByteArray), 0, 0, 0, 0, 0, ()) 6)
              (cond (decide ((IntKind.i64.wrap (x1.2.2.2.2.2.1 + x2)) > 1099511627776))
                (k ((⟨#[]⟩ : ByteArray), 0, 0, 0, 0, 0, ()) 5)
                (k (x1.1, (IntKind.i64.wrap (x1.2.1 + x2)), x1.2.2.1, x1.2.2.2.1, x1.2.2.2.2.1, (IntKind.i64.wrap (x1.2.2.2.2.2.1 + x2)), ()) 0))))
          (k ((⟨#[]⟩ : ByteArray), 0, 0, 0, 0, 0, ()) 11))
        (k ((⟨#[]⟩ : ByteArray), 0, 0, 0, 0, 0, ()) 11))))

noncomputable def draymanref12_Adjust {α : Type} : draymanref12_Adjust_T α := draymanref12_Adjust_g draymanref12_Fit

noncomputable def draymanref12_Adjust_sp {α : Type} (draymanref12_Adjust : draymanref12_Adjust_T α) : FunSpec α := ⟨15, [.agg [.str, .int .i64, .int .i64, .int .i64, .int .i64, .int .i64], .int .i64], [], fun ds k => draymanref12_Adjust (hdS ds, hdI ds.tail, hdI ds.tail.tail, hdI ds.tail.tail.tail, hdI ds.tail.tail.tail.tail, hdI ds.tail.tail.tail.tail.tail, ()) (hdI ds.tail.tail.tail.tail.tail.tail) (fun r1 r2 => k (enc dep (.tup [.agg [.str, .int .i64, .int .i64, .int .i64, .int .i64, .int .i64], .int .i64]) [.s r1.1, .i r1.2.1, .i r1.2.2.1, .i r1.2.2.2.1, .i r1.2.2.2.2.1, .i r1.2.2.2.2.2.1, .i r2]).1 [])⟩

noncomputable def draymanref12_Adjust_spec {α : Type} : FunSpec α := draymanref12_Adjust_sp draymanref12_Adjust

noncomputable def draymanref12_Adjust_C {α : Type} (draymanref12_Fit : draymanref12_Fit_T α) : List (FunSpec α) := [draymanref12_Fit_sp draymanref12_Fit]

noncomputable def draymanref12_Adjust_q : FuncId → Bool := fun f => Nat.beq f 21

noncomputable def draymanref12_Adjust_inl : FuncId → Bool := fun f => false

noncomputable def draymanref12_Adjust_ann : FuncId → AnnT := fun f p => ⟨[], [], [], [], 0, [], [], none⟩

noncomputable def draymanref12_Adjust_loops {α : Type} (draymanref12_Fit : draymanref12_Fit_T α) : List (LoopSpec α) := []

theorem draymanref12_Adjust_ev {α : Type} (draymanref12_Fit : draymanref12_Fit_T α) : EvOk (α := α) Go.Proofs.Tryd.prog (envOf (draymanref12_Adjust_C draymanref12_Fit) draymanref12_Adjust_q draymanref12_Adjust_inl 1000 draymanref12_Adjust_ann false (draymanref12_Adjust_loops draymanref12_Fit) (fun _ => none)) 6 (draymanref12_Adjust_sp (draymanref12_Adjust_g draymanref12_Fit)) := by intro ds k; kernel_rfl

theorem draymanref12_Adjust_ok {α : Type} : (draymanref12_Adjust_spec : FunSpec α).ok Go.Proofs.Tryd.prog :=
  FunSpec.ok_of (sp := draymanref12_Adjust_spec) (C := draymanref12_Adjust_C draymanref12_Fit) (q := draymanref12_Adjust_q) (inl := draymanref12_Adjust_inl) (N := 1000) (ann := draymanref12_Adjust_ann) (fr := false) (D := 6) (l := (draymanref12_Adjust_loops draymanref12_Fit)) (hk := (fun _ => none)) (okCons draymanref12_Fit_ok okNil) lokNil noHooks (draymanref12_Adjust_ev draymanref12_Fit)

end
end Go.Rv.Tryd

set_option linter.unusedVariables false
set_option maxRecDepth 100000
set_option maxHeartbeats 4000000
namespace Go.Rv.Tryd
open Go Go.Rv Go.RowKit
noncomputable section

-- drayman/draymanref12.New

abbrev draymanref12_New_T (α : Type) : Type := ByteArray → (Z0 → Int → Option α) → Option α

noncomputable def draymanref12_New_g {α : Type} (draymanref02_Fit : draymanref02_Fit_T α) (sku1 : ByteArray) (k : Z0 → Int → Option α) : Option α :=
  (draymanref02_Fit sku1 fun r2 =>
    (cond (!r2)
      (k ((⟨#[]⟩ : ByteArray), 0, 0, 0, 0, 0, ()) 7)
      (k (sku1, 0, 0, 0, 0, 0, ()) 0)))

noncomputable def draymanref12_New {α : Type} : draymanref12_New_T α := draymanref12_New_g draymanref02_Fit

noncomputable def draymanref12_New_sp {α : Type} (draymanref12_New : draymanref12_New_T α) : FunSpec α := ⟨17, [.str], [], fun ds k => draymanref12_New (hdS ds) (fun r1 r2 => k (enc dep (.tup [.agg [.str, .int .i64, .int .i64, .int .i64, .int .i64, .int .i64], .int .i64]) [.s r1.1, .i r1.2.1, .i r1.2.2.1, .i r1.2.2.2.1, .i r1.2.2.2.2.1, .i r1.2.2.2.2.2.1, .i r2]).1 [])⟩

noncomputable def draymanref12_New_spec {α : Type} : FunSpec α := draymanref12_New_sp draymanref12_New

noncomputable def draymanref12_New_C {α : Type} (draymanref02_Fit : draymanref02_Fit_T α) : List (FunSpec α) := [draymanref02_Fit_sp draymanref02_Fit]

noncomputable def draymanref12_New_q : FuncId → Bool := fun f => Nat.beq f 53

noncomputable def draymanref12_New_inl : FuncId → Bool := fun f => false

noncomputable def draymanref12_New_ann : FuncId → AnnT := fun f p => ⟨[], [], [], [], 0, [], [], none⟩

noncomputable def draymanref12_New_loops {α : Type} (draymanref02_Fit : draymanref02_Fit_T α) : List (LoopSpec α) := []

theorem draymanref12_New_ev {α : Type} (draymanref02_Fit : draymanref02_Fit_T α) : EvOk (α := α) Go.Proofs.Tryd.prog (envOf (draymanref12_New_C draymanref02_Fit) draymanref12_New_q draymanref12_New_inl 1000 draymanref12_New_ann false (draymanref12_New_loops draymanref02_Fit) (fun _ => none)) 6 (draymanref12_New_sp (draymanref12_New_g draymanref02_Fit)) := by intro ds k; kernel_rfl

theorem draymanref12_New_ok {α : Type} : (draymanref12_New_spec : FunSpec α).ok Go.Proofs.Tryd.prog :=
  FunSpec.ok_of (sp := draymanref12_New_spec) (C := draymanref12_New_C draymanref02_Fit) (q := draymanref12_New_q) (inl := draymanref12_New_inl) (N := 1000) (ann := draymanref12_New_ann) (fr := false) (D := 6) (l := (draymanref12_New_loops draymanref02_Fit)) (hk := (fun _ => none)) (okCons draymanref02_Fit_ok okNil) lokNil noHooks (draymanref12_New_ev draymanref02_Fit)

end
end Go.Rv.Tryd
