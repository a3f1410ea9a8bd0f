/- What the functions of the program compute, each with the proof that its code computes it. Written by a program (rvp2.py). -/
import Derived.Test.YtmoeohjaafpmgaaDoorProg
import Derived.Test.YtmoeohjaafpmgaaDoorRvP
import Derived.Test.YtmoeohjaafpmgaaDoorFx
import Derived.Test.YtmoeohjaafpmgaaDoorUtf8

namespace Go.Rv.Tryd
abbrev Z0 : Type := (Int × Int × Int × Int × Int × Int × Unit)
end Go.Rv.Tryd
set_option linter.unusedVariables false
set_option maxRecDepth 100000
set_option maxHeartbeats 4000000
namespace Go.Rv.Tryd
open Go Go.Rv Go.RowKit
noncomputable section

-- drayman/def.Place$1

abbrev def_Place_1_T (α : Type) : Type := Z0 → Int → (Bool → Int → Option α) → Option α

noncomputable def def_Place_1 {α : Type} (s1 : Int × Int × Int × Int × Int × Int × Unit) (x2 : Int) (k : Bool → Int → Option α) : Option α :=
  (k (s1.1 == x2) x2)

noncomputable def def_Place_1_sp {α : Type} (def_Place_1 : def_Place_1_T α) : FunSpec α := ⟨109, [.agg [.int .i64, .int .i64, .int .i64, .int .i64, .int .i64, .int .i64], .ref 0 0], [.box [.int .i64]], fun ds k => def_Place_1 (hdI ds, hdI ds.tail, hdI ds.tail.tail, hdI ds.tail.tail.tail, hdI ds.tail.tail.tail.tail, hdI ds.tail.tail.tail.tail.tail, ()) (hdI ds.tail.tail.tail.tail.tail.tail) (fun r1 r2 => k (enc dep (.bool) [.b r1]).1 (encBs [.box [.int .i64]] [.i r2]).1)⟩

noncomputable def def_Place_1_spec {α : Type} : FunSpec α := def_Place_1_sp def_Place_1

noncomputable def def_Place_1_C {α : Type} : List (FunSpec α) := []

noncomputable def def_Place_1_q : FuncId → Bool := fun f => false

noncomputable def def_Place_1_inl : FuncId → Bool := fun f => false

noncomputable def def_Place_1_ann : FuncId → AnnT := fun f p => ⟨[], [], [], [], 0, [], [], none⟩

noncomputable def def_Place_1_loops {α : Type} : List (LoopSpec α) := []

theorem def_Place_1_ev {α : Type} : EvOk (α := α) Go.Proofs.Tryd.prog (envOf (def_Place_1_C) def_Place_1_q def_Place_1_inl 1000 def_Place_1_ann false (def_Place_1_loops) (fun _ => none)) 6 (def_Place_1_sp (def_Place_1)) := by intro ds k; kernel_rfl

theorem def_Place_1_ok {α : Type} : (def_Place_1_spec : FunSpec α).ok Go.Proofs.Tryd.prog :=
  FunSpec.ok_of (sp := def_Place_1_spec) (C := def_Place_1_C) (q := def_Place_1_q) (inl := def_Place_1_inl) (N := 1000) (ann := def_Place_1_ann) (fr := false) (D := 6) (l := (def_Place_1_loops)) (hk := (fun _ => none)) okNil lokNil noHooks (def_Place_1_ev)

end
end Go.Rv.Tryd

set_option linter.unusedVariables false
set_option maxRecDepth 100000
set_option maxHeartbeats 4000000
namespace Go.Rv.Tryd
open Go Go.Rv Go.RowKit
noncomputable section

-- slices.IndexFunc[[]drayman/api.Step,drayman/api.Step]

abbrev slices_IndexFunc_api_Step_api_Step_s1_T (α : Type) : Type := (Seq Z0) → Int → (Int → Int → Option α) → Option α

noncomputable def slices_IndexFunc_api_Step_api_Step_s1_l0_step {α : Type} (def_Place_1 : def_Place_1_T α) (kr : (Int) → (Int) → Option α) (k0 : (Int) → Option α) (rec : (Seq Z0) → (Int) → (Int) → (Int) → Option α) (s3 : Seq Z0) (x4 : Int) (x5 : Int) (x6 : Int) : Option α :=
  (cond (decide (x5 < x4))
    (cond ((decide ((0 : Int) ≤ x5)) && (decide (x5 < (s3.n : Int))))
      (def_Place_1 (s3.g x5.toNat) x6 fun r7 x8 =>
        (cond r7
          (kr x5 x8)
          (rec s3 x4 (IntKind.i64.wrap (x5 + 1)) x8)))
      none)
    (k0 x6))

noncomputable def slices_IndexFunc_api_Step_api_Step_s1_l0_run {α : Type} (def_Place_1 : def_Place_1_T α) (kr : (Int) → (Int) → Option α) (k0 : (Int) → Option α) : Nat → (Seq Z0) → (Int) → (Int) → (Int) → Option α
  | 0, _, _, _, _ => none
  | n + 1, s3, x4, x5, x6 => slices_IndexFunc_api_Step_api_Step_s1_l0_step def_Place_1 kr k0 (fun s3 x4 x5 x6 => slices_IndexFunc_api_Step_api_Step_s1_l0_run def_Place_1 kr k0 n s3 x4 x5 x6) s3 x4 x5 x6

noncomputable def slices_IndexFunc_api_Step_api_Step_s1_g {α : Type} (def_Place_1 : def_Place_1_T α) (s1 : Seq Z0) (x2 : Int) (k : Int → Int → Option α) : Option α :=
  (slices_IndexFunc_api_Step_api_Step_s1_l0_run def_Place_1
    (fun x9 x10 =>
      (k x9 x10))
    (fun x11 =>
      (k (-1) x11))
    1000 s1 (s1.n : Int) 0 x2)

noncomputable def slices_IndexFunc_api_Step_api_Step_s1 {α : Type} : slices_IndexFunc_api_Step_api_Step_s1_T α := slices_IndexFunc_api_Step_api_Step_s1_g def_Place_1

noncomputable def slices_IndexFunc_api_Step_api_Step_s1_sp {α : Type} (slices_IndexFunc_api_Step_api_Step_s1 : slices_IndexFunc_api_Step_api_Step_s1_T α) : FunSpec α := ⟨108, [.sl (.int .i64 (.int .i64 (.int .i64 (.int .i64 (.int .i64 (.int .i64 (.nil))))))), .func (.func 109) [] [.ref 0 0]], [.box [.int .i64]], fun ds k => slices_IndexFunc_api_Step_api_Step_s1 (hdQ (.int .i64 (.int .i64 (.int .i64 (.int .i64 (.int .i64 (.int .i64 (.nil))))))) ds) (hdI ds.tail) (fun r1 r2 => k (enc dep (.int .i64) [.i r1]).1 (encBs [.box [.int .i64]] [.i r2]).1)⟩

noncomputable def slices_IndexFunc_api_Step_api_Step_s1_spec {α : Type} : FunSpec α := slices_IndexFunc_api_Step_api_Step_s1_sp slices_IndexFunc_api_Step_api_Step_s1

noncomputable def slices_IndexFunc_api_Step_api_Step_s1_C {α : Type} (def_Place_1 : def_Place_1_T α) : List (FunSpec α) := [def_Place_1_sp def_Place_1]

noncomputable def slices_IndexFunc_api_Step_api_Step_s1_q : FuncId → Bool := fun f => Nat.beq f 109

noncomputable def slices_IndexFunc_api_Step_api_Step_s1_inl : FuncId → Bool := fun f => false

noncomputable def slices_IndexFunc_api_Step_api_Step_s1_ann : FuncId → AnnT := fun f p => if f = 108 then (if p = [true, false, true] then ⟨[0, 1, 7, 8], [], [], [4], 0, [], [], none⟩ else ⟨[], [], [], [], 0, [], [], none⟩) else ⟨[], [], [], [], 0, [], [], none⟩

noncomputable def slices_IndexFunc_api_Step_api_Step_s1_l0_t : List Sh := [.sl (.int .i64 (.int .i64 (.int .i64 (.int .i64 (.int .i64 (.int .i64 (.nil))))))), .func (.func 109) [] [.ref 0 0], .dead, .dead, .dead, .dead, .dead, .int .i64, .int .i64, .dead, .dead, .dead, .dead, .dead, .dead, .dead, .dead, .dead, .dead]
noncomputable def slices_IndexFunc_api_Step_api_Step_s1_l0_s : List (List Sh) := []
noncomputable def slices_IndexFunc_api_Step_api_Step_s1_l0_h : List BSh := [.box [.int .i64]]

noncomputable def slices_IndexFunc_api_Step_api_Step_s1_l0_spec {α : Type} (def_Place_1 : def_Place_1_T α) : LoopSpec α := ⟨6, 108, [true, false, true], slices_IndexFunc_api_Step_api_Step_s1_l0_t, slices_IndexFunc_api_Step_api_Step_s1_l0_s, slices_IndexFunc_api_Step_api_Step_s1_l0_h, fun ds k => slices_IndexFunc_api_Step_api_Step_s1_l0_run def_Place_1 (fun y1 y2 => k .ret (encSt [.dead, .dead, .dead, .dead, .int .i64, .dead, .dead, .dead, .dead, .dead, .dead, .dead, .dead, .dead, .dead, .dead, .dead, .dead, .dead] [] [.box [.int .i64]] [.i y1, .i y2])) (fun y1 => k (.exit 0) (encSt [.dead, .dead, .dead, .dead, .dead, .dead, .dead, .dead, .dead, .dead, .dead, .dead, .dead, .dead, .dead, .dead, .dead, .dead, .dead] [] [.box [.int .i64]] [.i y1])) 1000 (hdQ (.int .i64 (.int .i64 (.int .i64 (.int .i64 (.int .i64 (.int .i64 (.nil))))))) ds) (hdI ds.tail) (hdI ds.tail.tail) (hdI ds.tail.tail.tail)⟩

noncomputable def slices_IndexFunc_api_Step_api_Step_s1_loops {α : Type} (def_Place_1 : def_Place_1_T α) : List (LoopSpec α) := [slices_IndexFunc_api_Step_api_Step_s1_l0_spec def_Place_1]

noncomputable def slices_IndexFunc_api_Step_api_Step_s1_l0_ev {α : Type} (def_Place_1 : def_Place_1_T α) (n : Nat) (st : St) (k : X → St → Option α) : Option α := loopN (evCode Go.Proofs.Tryd.prog (callD Go.Proofs.Tryd.prog (envOf (slices_IndexFunc_api_Step_api_Step_s1_C def_Place_1) slices_IndexFunc_api_Step_api_Step_s1_q slices_IndexFunc_api_Step_api_Step_s1_inl 1000 slices_IndexFunc_api_Step_api_Step_s1_ann false (slices_IndexFunc_api_Step_api_Step_s1_loops def_Place_1) (fun _ => none)) 6) (((envOf (slices_IndexFunc_api_Step_api_Step_s1_C def_Place_1) slices_IndexFunc_api_Step_api_Step_s1_q slices_IndexFunc_api_Step_api_Step_s1_inl 1000 slices_IndexFunc_api_Step_api_Step_s1_ann false (slices_IndexFunc_api_Step_api_Step_s1_loops def_Place_1) (fun _ => none)) : Env α).L 6 108) 1000 (slices_IndexFunc_api_Step_api_Step_s1_ann 108) (false :: [true, false, true]) (loopC Go.Proofs.Tryd.prog 108 [true, false, true])) ((slices_IndexFunc_api_Step_api_Step_s1_ann 108 [true, false, true]).head 1) ((slices_IndexFunc_api_Step_api_Step_s1_ann 108 [true, false, true]).leave 1) n st k

theorem slices_IndexFunc_api_Step_api_Step_s1_l0_eq {α : Type} (def_Place_1 : def_Place_1_T α) : ∀ (n : Nat) (s3 : Seq Z0) (x4 : Int) (x5 : Int) (x6 : Int) (k : X → St → Option α), slices_IndexFunc_api_Step_api_Step_s1_l0_ev def_Place_1 n (encSt slices_IndexFunc_api_Step_api_Step_s1_l0_t slices_IndexFunc_api_Step_api_Step_s1_l0_s slices_IndexFunc_api_Step_api_Step_s1_l0_h [.q (.int .i64 (.int .i64 (.int .i64 (.int .i64 (.int .i64 (.int .i64 (.nil))))))) s3, .i x4, .i x5, .i x6]) k = slices_IndexFunc_api_Step_api_Step_s1_l0_run def_Place_1 (fun y1 y2 => k .ret (encSt [.dead, .dead, .dead, .dead, .int .i64, .dead, .dead, .dead, .dead, .dead, .dead, .dead, .dead, .dead, .dead, .dead, .dead, .dead, .dead] [] [.box [.int .i64]] [.i y1, .i y2])) (fun y1 => k (.exit 0) (encSt [.dead, .dead, .dead, .dead, .dead, .dead, .dead, .dead, .dead, .dead, .dead, .dead, .dead, .dead, .dead, .dead, .dead, .dead, .dead] [] [.box [.int .i64]] [.i y1])) n s3 x4 x5 x6 := by
  intro n
  induction n with
  | zero => intros; kernel_rfl
  | succ n ih =>
    intro s3 x4 x5 x6 k
    have e : (fun (s3 : Seq Z0) (x4 : Int) (x5 : Int) (x6 : Int) => slices_IndexFunc_api_Step_api_Step_s1_l0_ev def_Place_1 n (encSt slices_IndexFunc_api_Step_api_Step_s1_l0_t slices_IndexFunc_api_Step_api_Step_s1_l0_s slices_IndexFunc_api_Step_api_Step_s1_l0_h [.q (.int .i64 (.int .i64 (.int .i64 (.int .i64 (.int .i64 (.int .i64 (.nil))))))) s3, .i x4, .i x5, .i x6]) k) = (fun (s3 : Seq Z0) (x4 : Int) (x5 : Int) (x6 : Int) => slices_IndexFunc_api_Step_api_Step_s1_l0_run def_Place_1 (fun y1 y2 => k .ret (encSt [.dead, .dead, .dead, .dead, .int .i64, .dead, .dead, .dead, .dead, .dead, .dead, .dead, .dead, .dead, .dead, .dead, .dead, .dead, .dead] [] [.box [.int .i64]] [.i y1, .i y2])) (fun y1 => k (.exit 0) (encSt [.dead, .dead, .dead, .dead, .dead, .dead, .dead, .dead, .dead, .dead, .dead, .dead, .dead, .dead, .dead, .dead, .dead, .dead, .dead] [] [.box [.int .i64]] [.i y1])) n s3 x4 x5 x6) := by
      funext s3 x4 x5 x6
      exact ih s3 x4 x5 x6 k
    have h1 : slices_IndexFunc_api_Step_api_Step_s1_l0_ev def_Place_1 (n + 1) (encSt slices_IndexFunc_api_Step_api_Step_s1_l0_t slices_IndexFunc_api_Step_api_Step_s1_l0_s slices_IndexFunc_api_Step_api_Step_s1_l0_h [.q (.int .i64 (.int .i64 (.int .i64 (.int .i64 (.int .i64 (.int .i64 (.nil))))))) s3, .i x4, .i x5, .i x6]) k = slices_IndexFunc_api_Step_api_Step_s1_l0_step def_Place_1 (fun y1 y2 => k .ret (encSt [.dead, .dead, .dead, .dead, .int .i64, .dead, .dead, .dead, .dead, .dead, .dead, .dead, .dead, .dead, .dead, .dead, .dead, .dead, .dead] [] [.box [.int .i64]] [.i y1, .i y2])) (fun y1 => k (.exit 0) (encSt [.dead, .dead, .dead, .dead, .dead, .dead, .dead, .dead, .dead, .dead, .dead, .dead, .dead, .dead, .dead, .dead, .dead, .dead, .dead] [] [.box [.int .i64]] [.i y1])) (fun (s3 : Seq Z0) (x4 : Int) (x5 : Int) (x6 : Int) => slices_IndexFunc_api_Step_api_Step_s1_l0_ev def_Place_1 n (encSt slices_IndexFunc_api_Step_api_Step_s1_l0_t slices_IndexFunc_api_Step_api_Step_s1_l0_s slices_IndexFunc_api_Step_api_Step_s1_l0_h [.q (.int .i64 (.int .i64 (.int .i64 (.int .i64 (.int .i64 (.int .i64 (.nil))))))) s3, .i x4, .i x5, .i x6]) k) s3 x4 x5 x6 := by kernel_rfl
    have h2 := congrArg (fun r => slices_IndexFunc_api_Step_api_Step_s1_l0_step def_Place_1 (fun y1 y2 => k .ret (encSt [.dead, .dead, .dead, .dead, .int .i64, .dead, .dead, .dead, .dead, .dead, .dead, .dead, .dead, .dead, .dead, .dead, .dead, .dead, .dead] [] [.box [.int .i64]] [.i y1, .i y2])) (fun y1 => k (.exit 0) (encSt [.dead, .dead, .dead, .dead, .dead, .dead, .dead, .dead, .dead, .dead, .dead, .dead, .dead, .dead, .dead, .dead, .dead, .dead, .dead] [] [.box [.int .i64]] [.i y1])) r s3 x4 x5 x6) e
    have h3 : slices_IndexFunc_api_Step_api_Step_s1_l0_step def_Place_1 (fun y1 y2 => k .ret (encSt [.dead, .dead, .dead, .dead, .int .i64, .dead, .dead, .dead, .dead, .dead, .dead, .dead, .dead, .dead, .dead, .dead, .dead, .dead, .dead] [] [.box [.int .i64]] [.i y1, .i y2])) (fun y1 => k (.exit 0) (encSt [.dead, .dead, .dead, .dead, .dead, .dead, .dead, .dead, .dead, .dead, .dead, .dead, .dead, .dead, .dead, .dead, .dead, .dead, .dead] [] [.box [.int .i64]] [.i y1])) (fun (s3 : Seq Z0) (x4 : Int) (x5 : Int) (x6 : Int) => slices_IndexFunc_api_Step_api_Step_s1_l0_run def_Place_1 (fun y1 y2 => k .ret (encSt [.dead, .dead, .dead, .dead, .int .i64, .dead, .dead, .dead, .dead, .dead, .dead, .dead, .dead, .dead, .dead, .dead, .dead, .dead, .dead] [] [.box [.int .i64]] [.i y1, .i y2])) (fun y1 => k (.exit 0) (encSt [.dead, .dead, .dead, .dead, .dead, .dead, .dead, .dead, .dead, .dead, .dead, .dead, .dead, .dead, .dead, .dead, .dead, .dead, .dead] [] [.box [.int .i64]] [.i y1])) n s3 x4 x5 x6) s3 x4 x5 x6 = slices_IndexFunc_api_Step_api_Step_s1_l0_run def_Place_1 (fun y1 y2 => k .ret (encSt [.dead, .dead, .dead, .dead, .int .i64, .dead, .dead, .dead, .dead, .dead, .dead, .dead, .dead, .dead, .dead, .dead, .dead, .dead, .dead] [] [.box [.int .i64]] [.i y1, .i y2])) (fun y1 => k (.exit 0) (encSt [.dead, .dead, .dead, .dead, .dead, .dead, .dead, .dead, .dead, .dead, .dead, .dead, .dead, .dead, .dead, .dead, .dead, .dead, .dead] [] [.box [.int .i64]] [.i y1])) (n + 1) s3 x4 x5 x6 := by kernel_rfl
    exact h1.trans (h2.trans h3)

theorem slices_IndexFunc_api_Step_api_Step_s1_l0_ok {α : Type} (def_Place_1 : def_Place_1_T α) : (slices_IndexFunc_api_Step_api_Step_s1_l0_spec def_Place_1 : LoopSpec α).ok Go.Proofs.Tryd.prog (envOf (slices_IndexFunc_api_Step_api_Step_s1_C def_Place_1) slices_IndexFunc_api_Step_api_Step_s1_q slices_IndexFunc_api_Step_api_Step_s1_inl 1000 slices_IndexFunc_api_Step_api_Step_s1_ann false (slices_IndexFunc_api_Step_api_Step_s1_loops def_Place_1) (fun _ => none)) := by
  intro ds k
  have h1 : slices_IndexFunc_api_Step_api_Step_s1_l0_ev def_Place_1 1000 (encSt slices_IndexFunc_api_Step_api_Step_s1_l0_t slices_IndexFunc_api_Step_api_Step_s1_l0_s slices_IndexFunc_api_Step_api_Step_s1_l0_h ds) k = slices_IndexFunc_api_Step_api_Step_s1_l0_ev def_Place_1 1000 (encSt slices_IndexFunc_api_Step_api_Step_s1_l0_t slices_IndexFunc_api_Step_api_Step_s1_l0_s slices_IndexFunc_api_Step_api_Step_s1_l0_h [.q (.int .i64 (.int .i64 (.int .i64 (.int .i64 (.int .i64 (.int .i64 (.nil))))))) (hdQ (.int .i64 (.int .i64 (.int .i64 (.int .i64 (.int .i64 (.int .i64 (.nil))))))) ds), .i (hdI ds.tail), .i (hdI ds.tail.tail), .i (hdI ds.tail.tail.tail)]) k := by kernel_rfl
  have h2 := slices_IndexFunc_api_Step_api_Step_s1_l0_eq def_Place_1 1000 (hdQ (.int .i64 (.int .i64 (.int .i64 (.int .i64 (.int .i64 (.int .i64 (.nil))))))) ds) (hdI ds.tail) (hdI ds.tail.tail) (hdI ds.tail.tail.tail) k
  exact h1.trans h2

theorem slices_IndexFunc_api_Step_api_Step_s1_ev {α : Type} (def_Place_1 : def_Place_1_T α) : EvOk (α := α) Go.Proofs.Tryd.prog (envOf (slices_IndexFunc_api_Step_api_Step_s1_C def_Place_1) slices_IndexFunc_api_Step_api_Step_s1_q slices_IndexFunc_api_Step_api_Step_s1_inl 1000 slices_IndexFunc_api_Step_api_Step_s1_ann false (slices_IndexFunc_api_Step_api_Step_s1_loops def_Place_1) (fun _ => none)) 6 (slices_IndexFunc_api_Step_api_Step_s1_sp (slices_IndexFunc_api_Step_api_Step_s1_g def_Place_1)) := by intro ds k; kernel_rfl

theorem slices_IndexFunc_api_Step_api_Step_s1_ok {α : Type} : (slices_IndexFunc_api_Step_api_Step_s1_spec : FunSpec α).ok Go.Proofs.Tryd.prog :=
  FunSpec.ok_of (sp := slices_IndexFunc_api_Step_api_Step_s1_spec) (C := slices_IndexFunc_api_Step_api_Step_s1_C def_Place_1) (q := slices_IndexFunc_api_Step_api_Step_s1_q) (inl := slices_IndexFunc_api_Step_api_Step_s1_inl) (N := 1000) (ann := slices_IndexFunc_api_Step_api_Step_s1_ann) (fr := false) (D := 6) (l := (slices_IndexFunc_api_Step_api_Step_s1_loops def_Place_1)) (hk := (fun _ => none)) (okCons def_Place_1_ok okNil) (lokCons (slices_IndexFunc_api_Step_api_Step_s1_l0_ok def_Place_1) lokNil) noHooks (slices_IndexFunc_api_Step_api_Step_s1_ev def_Place_1)

end
end Go.Rv.Tryd

set_option linter.unusedVariables false
set_option maxRecDepth 100000
set_option maxHeartbeats 4000000
namespace Go.Rv.Tryd
open Go Go.Rv Go.RowKit
noncomputable section

-- drayman/def.Place

abbrev def_Place_T (α : Type) : Type := (ByteArray × (Seq Z0) × Unit) → Int → (Int → Option α) → Option α

noncomputable def def_Place_g {α : Type} (slices_IndexFunc_api_Step_api_Step_s1 : slices_IndexFunc_api_Step_api_Step_s1_T α) (d1 : ByteArray × (Seq Z0) × Unit) (op2 : Int) (k : Int → Option α) : Option α :=
  (slices_IndexFunc_api_Step_api_Step_s1 d1.2.1 op2 fun r3 x4 =>
    (k r3))

noncomputable def def_Place {α : Type} : def_Place_T α := def_Place_g slices_IndexFunc_api_Step_api_Step_s1

noncomputable def def_Place_sp {α : Type} (def_Place : def_Place_T α) : FunSpec α := ⟨76, [.agg [.str, .sl (.int .i64 (.int .i64 (.int .i64 (.int .i64 (.int .i64 (.int .i64 (.nil)))))))], .int .i64], [], fun ds k => def_Place (hdS ds, hdQ (.int .i64 (.int .i64 (.int .i64 (.int .i64 (.int .i64 (.int .i64 (.nil))))))) ds.tail, ()) (hdI ds.tail.tail) (fun r1 => k (enc dep (.int .i64) [.i r1]).1 [])⟩

noncomputable def def_Place_spec {α : Type} : FunSpec α := def_Place_sp def_Place

noncomputable def def_Place_C {α : Type} (slices_IndexFunc_api_Step_api_Step_s1 : slices_IndexFunc_api_Step_api_Step_s1_T α) : List (FunSpec α) := [slices_IndexFunc_api_Step_api_Step_s1_sp slices_IndexFunc_api_Step_api_Step_s1]

noncomputable def def_Place_q : FuncId → Bool := fun f => Nat.beq f 108

noncomputable def def_Place_inl : FuncId → Bool := fun f => false

noncomputable def def_Place_ann : FuncId → AnnT := fun f p => ⟨[], [], [], [], 0, [], [], none⟩

noncomputable def def_Place_loops {α : Type} (slices_IndexFunc_api_Step_api_Step_s1 : slices_IndexFunc_api_Step_api_Step_s1_T α) : List (LoopSpec α) := []

theorem def_Place_ev {α : Type} (slices_IndexFunc_api_Step_api_Step_s1 : slices_IndexFunc_api_Step_api_Step_s1_T α) : EvOk (α := α) Go.Proofs.Tryd.prog (envOf (def_Place_C slices_IndexFunc_api_Step_api_Step_s1) def_Place_q def_Place_inl 1000 def_Place_ann false (def_Place_loops slices_IndexFunc_api_Step_api_Step_s1) (fun _ => none)) 6 (def_Place_sp (def_Place_g slices_IndexFunc_api_Step_api_Step_s1)) := by intro ds k; kernel_rfl

theorem def_Place_ok {α : Type} : (def_Place_spec : FunSpec α).ok Go.Proofs.Tryd.prog :=
  FunSpec.ok_of (sp := def_Place_spec) (C := def_Place_C slices_IndexFunc_api_Step_api_Step_s1) (q := def_Place_q) (inl := def_Place_inl) (N := 1000) (ann := def_Place_ann) (fr := false) (D := 6) (l := (def_Place_loops slices_IndexFunc_api_Step_api_Step_s1)) (hk := (fun _ => none)) (okCons slices_IndexFunc_api_Step_api_Step_s1_ok okNil) lokNil noHooks (def_Place_ev slices_IndexFunc_api_Step_api_Step_s1)

end
end Go.Rv.Tryd

set_option linter.unusedVariables false
set_option maxRecDepth 100000
set_option maxHeartbeats 4000000
namespace Go.Rv.Tryd
open Go Go.Rv Go.RowKit
noncomputable section

-- drayman/saga.mark

abbrev saga_mark_T (α : Type) : Type := (Int × ByteArray × ByteArray × (Seq (ByteArray × Int × Unit)) × Int × Int × Int × Int × Int × Int × (Seq (Int × Unit)) × Unit) → Int → (Int → Option α) → Option α

noncomputable def saga_mark {α : Type} (s1 : Int × ByteArray × ByteArray × (Seq (ByteArray × Int × Unit)) × Int × Int × Int × Int × Int × Int × (Seq (Int × Unit)) × Unit) (x2 : Int) (k : Int → Option α) : Option α :=
  (cond (!(decide (x2 < 0)))
    (cond (decide (x2 ≥ (s1.2.2.2.2.2.2.2.2.2.2.1.n : Int)))
      (k (-1))
      (cond ((decide ((0 : Int) ≤ x2)) && (decide (x2 < (s1.2.2.2.2.2.2.2.2.2.2.1.n : Int))))
        (k ((s1.2.2.2.2.2.2.2.2.2.2.1.g x2.toNat).1))
        none))
    (k (-1)))

noncomputable def saga_mark_sp {α : Type} (saga_mark : saga_mark_T α) : FunSpec α := ⟨86, [.agg [.int .i64, .str, .str, .sl (.str (.int .i64 (.nil))), .int .i64, .int .i64, .int .i64, .int .i64, .int .i64, .int .i64, .sl (.int .i64 (.nil))], .int .i64], [], fun ds k => saga_mark (hdI ds, hdS ds.tail, hdS ds.tail.tail, hdQ (.str (.int .i64 (.nil))) ds.tail.tail.tail, hdI ds.tail.tail.tail.tail, hdI ds.tail.tail.tail.tail.tail, hdI ds.tail.tail.tail.tail.tail.tail, hdI ds.tail.tail.tail.tail.tail.tail.tail, hdI ds.tail.tail.tail.tail.tail.tail.tail.tail, hdI ds.tail.tail.tail.tail.tail.tail.tail.tail.tail, hdQ (.int .i64 (.nil)) ds.tail.tail.tail.tail.tail.tail.tail.tail.tail.tail, ()) (hdI ds.tail.tail.tail.tail.tail.tail.tail.tail.tail.tail.tail) (fun r1 => k (enc dep (.int .i64) [.i r1]).1 [])⟩

noncomputable def saga_mark_spec {α : Type} : FunSpec α := saga_mark_sp saga_mark

noncomputable def saga_mark_C {α : Type} : List (FunSpec α) := []

noncomputable def saga_mark_q : FuncId → Bool := fun f => false

noncomputable def saga_mark_inl : FuncId → Bool := fun f => false

noncomputable def saga_mark_ann : FuncId → AnnT := fun f p => ⟨[], [], [], [], 0, [], [], none⟩

noncomputable def saga_mark_loops {α : Type} : List (LoopSpec α) := []

theorem saga_mark_ev {α : Type} : EvOk (α := α) Go.Proofs.Tryd.prog (envOf (saga_mark_C) saga_mark_q saga_mark_inl 1000 saga_mark_ann false (saga_mark_loops) (fun _ => none)) 6 (saga_mark_sp (saga_mark)) := by intro ds k; kernel_rfl

theorem saga_mark_ok {α : Type} : (saga_mark_spec : FunSpec α).ok Go.Proofs.Tryd.prog :=
  FunSpec.ok_of (sp := saga_mark_spec) (C := saga_mark_C) (q := saga_mark_q) (inl := saga_mark_inl) (N := 1000) (ann := saga_mark_ann) (fr := false) (D := 6) (l := (saga_mark_loops)) (hk := (fun _ => none)) okNil lokNil noHooks (saga_mark_ev)

end
end Go.Rv.Tryd

set_option linter.unusedVariables false
set_option maxRecDepth 100000
set_option maxHeartbeats 4000000
namespace Go.Rv.Tryd
open Go Go.Rv Go.RowKit
noncomputable section

-- drayman/saga.between

abbrev saga_between_T (α : Type) : Type := (Int × ByteArray × ByteArray × (Seq (ByteArray × Int × Unit)) × Int × Int × Int × Int × Int × Int × (Seq (Int × Unit)) × Unit) → (ByteArray × (Seq Z0) × Unit) → Int → Int → (Bool → Option α) → Option α

noncomputable def saga_between_g {α : Type} (def_Place : def_Place_T α) (saga_mark : saga_mark_T α) (s1 : Int × ByteArray × ByteArray × (Seq (ByteArray × Int × Unit)) × Int × Int × Int × Int × Int × Int × (Seq (Int × Unit)) × Unit) (d2 : ByteArray × (Seq Z0) × Unit) (done3 : Int) (not4 : Int) (k : Bool → Option α) : Option α :=
  (def_Place d2 done3 fun r5 =>
    (def_Place d2 not4 fun r6 =>
      (saga_mark s1 r5 fun r7 =>
        (cond (r7 == 2)
          (cond (decide (r6 ≥ 0))
            (saga_mark s1 r6 fun r8 =>
              (k (r8 != 2)))
            (k false))
          (k false)))))

noncomputable def saga_between {α : Type} : saga_between_T α := saga_between_g def_Place saga_mark

noncomputable def saga_between_sp {α : Type} (saga_between : saga_between_T α) : FunSpec α := ⟨85, [.agg [.int .i64, .str, .str, .sl (.str (.int .i64 (.nil))), .int .i64, .int .i64, .int .i64, .int .i64, .int .i64, .int .i64, .sl (.int .i64 (.nil))], .agg [.str, .sl (.int .i64 (.int .i64 (.int .i64 (.int .i64 (.int .i64 (.int .i64 (.nil)))))))], .int .i64, .int .i64], [], fun ds k => saga_between (hdI ds, hdS ds.tail, hdS ds.tail.tail, hdQ (.str (.int .i64 (.nil))) ds.tail.tail.tail, hdI ds.tail.tail.tail.tail, hdI ds.tail.tail.tail.tail.tail, hdI ds.tail.tail.tail.tail.tail.tail, hdI ds.tail.tail.tail.tail.tail.tail.tail, hdI ds.tail.tail.tail.tail.tail.tail.tail.tail, hdI ds.tail.tail.tail.tail.tail.tail.tail.tail.tail, hdQ (.int .i64 (.nil)) ds.tail.tail.tail.tail.tail.tail.tail.tail.tail.tail, ()) (hdS ds.tail.tail.tail.tail.tail.tail.tail.tail.tail.tail.tail, hdQ (.int .i64 (.int .i64 (.int .i64 (.int .i64 (.int .i64 (.int .i64 (.nil))))))) ds.tail.tail.tail.tail.tail.tail.tail.tail.tail.tail.tail.tail, ()) (hdI ds.tail.tail.tail.tail.tail.tail.tail.tail.tail.tail.tail.tail.tail) (hdI ds.tail.tail.tail.tail.tail.tail.tail.tail.tail.tail.tail.tail.tail.tail) (fun r1 => k (enc dep (.bool) [.b r1]).1 [])⟩

noncomputable def saga_between_spec {α : Type} : FunSpec α := saga_between_sp saga_between

noncomputable def saga_between_C {α : Type} (def_Place : def_Place_T α) (saga_mark : saga_mark_T α) : List (FunSpec α) := [def_Place_sp def_Place, saga_mark_sp saga_mark]

noncomputable def saga_between_q : FuncId → Bool := fun f => Nat.beq f 76 || Nat.beq f 86

noncomputable def saga_between_inl : FuncId → Bool := fun f => false

noncomputable def saga_between_ann : FuncId → AnnT := fun f p => if f = 85 then (if p = [false, true] then ⟨[], [], [], [], 2, [], [], none⟩ else ⟨[], [], [], [], 0, [], [], none⟩) else ⟨[], [], [], [], 0, [], [], none⟩

noncomputable def saga_between_loops {α : Type} (def_Place : def_Place_T α) (saga_mark : saga_mark_T α) : List (LoopSpec α) := []

theorem saga_between_ev {α : Type} (def_Place : def_Place_T α) (saga_mark : saga_mark_T α) : EvOk (α := α) Go.Proofs.Tryd.prog (envOf (saga_between_C def_Place saga_mark) saga_between_q saga_between_inl 1000 saga_between_ann false (saga_between_loops def_Place saga_mark) (fun _ => none)) 6 (saga_between_sp (saga_between_g def_Place saga_mark)) := by intro ds k; kernel_rfl

theorem saga_between_ok {α : Type} : (saga_between_spec : FunSpec α).ok Go.Proofs.Tryd.prog :=
  FunSpec.ok_of (sp := saga_between_spec) (C := saga_between_C def_Place saga_mark) (q := saga_between_q) (inl := saga_between_inl) (N := 1000) (ann := saga_between_ann) (fr := false) (D := 6) (l := (saga_between_loops def_Place saga_mark)) (hk := (fun _ => none)) (okCons def_Place_ok (okCons saga_mark_ok okNil)) lokNil noHooks (saga_between_ev def_Place saga_mark)

end
end Go.Rv.Tryd

set_option linter.unusedVariables false
set_option maxRecDepth 100000
set_option maxHeartbeats 4000000
namespace Go.Rv.Tryd
open Go Go.Rv Go.RowKit
noncomputable section

-- drayman/saga.Holds

abbrev saga_Holds_T (α : Type) : Type := (Int × ByteArray × ByteArray × (Seq (ByteArray × Int × Unit)) × Int × Int × Int × Int × Int × Int × (Seq (Int × Unit)) × Unit) → (ByteArray × (Seq Z0) × Unit) → (Bool → Option α) → Option α

noncomputable def saga_Holds_g {α : Type} (saga_between : saga_between_T α) (s1 : Int × ByteArray × ByteArray × (Seq (ByteArray × Int × Unit)) × Int × Int × Int × Int × Int × Int × (Seq (Int × Unit)) × Unit) (d2 : ByteArray × (Seq Z0) × Unit) (k : Bool → Option α) : Option α :=
  (saga_between s1 d2 1 3 fun r3 =>
    (k r3))

noncomputable def saga_Holds {α : Type} : saga_Holds_T α := saga_Holds_g saga_between

noncomputable def saga_Holds_sp {α : Type} (saga_Holds : saga_Holds_T α) : FunSpec α := ⟨45, [.agg [.int .i64, .str, .str, .sl (.str (.int .i64 (.nil))), .int .i64, .int .i64, .int .i64, .int .i64, .int .i64, .int .i64, .sl (.int .i64 (.nil))], .agg [.str, .sl (.int .i64 (.int .i64 (.int .i64 (.int .i64 (.int .i64 (.int .i64 (.nil)))))))]], [], fun ds k => saga_Holds (hdI ds, hdS ds.tail, hdS ds.tail.tail, hdQ (.str (.int .i64 (.nil))) ds.tail.tail.tail, hdI ds.tail.tail.tail.tail, hdI ds.tail.tail.tail.tail.tail, hdI ds.tail.tail.tail.tail.tail.tail, hdI ds.tail.tail.tail.tail.tail.tail.tail, hdI ds.tail.tail.tail.tail.tail.tail.tail.tail, hdI ds.tail.tail.tail.tail.tail.tail.tail.tail.tail, hdQ (.int .i64 (.nil)) ds.tail.tail.tail.tail.tail.tail.tail.tail.tail.tail, ()) (hdS ds.tail.tail.tail.tail.tail.tail.tail.tail.tail.tail.tail, hdQ (.int .i64 (.int .i64 (.int .i64 (.int .i64 (.int .i64 (.int .i64 (.nil))))))) ds.tail.tail.tail.tail.tail.tail.tail.tail.tail.tail.tail.tail, ()) (fun r1 => k (enc dep (.bool) [.b r1]).1 [])⟩

noncomputable def saga_Holds_spec {α : Type} : FunSpec α := saga_Holds_sp saga_Holds

noncomputable def saga_Holds_C {α : Type} (saga_between : saga_between_T α) : List (FunSpec α) := [saga_between_sp saga_between]

noncomputable def saga_Holds_q : FuncId → Bool := fun f => Nat.beq f 85

noncomputable def saga_Holds_inl : FuncId → Bool := fun f => false

noncomputable def saga_Holds_ann : FuncId → AnnT := fun f p => ⟨[], [], [], [], 0, [], [], none⟩

noncomputable def saga_Holds_loops {α : Type} (saga_between : saga_between_T α) : List (LoopSpec α) := []

theorem saga_Holds_ev {α : Type} (saga_between : saga_between_T α) : EvOk (α := α) Go.Proofs.Tryd.prog (envOf (saga_Holds_C saga_between) saga_Holds_q saga_Holds_inl 1000 saga_Holds_ann false (saga_Holds_loops saga_between) (fun _ => none)) 6 (saga_Holds_sp (saga_Holds_g saga_between)) := by intro ds k; kernel_rfl

theorem saga_Holds_ok {α : Type} : (saga_Holds_spec : FunSpec α).ok Go.Proofs.Tryd.prog :=
  FunSpec.ok_of (sp := saga_Holds_spec) (C := saga_Holds_C saga_between) (q := saga_Holds_q) (inl := saga_Holds_inl) (N := 1000) (ann := saga_Holds_ann) (fr := false) (D := 6) (l := (saga_Holds_loops saga_between)) (hk := (fun _ => none)) (okCons saga_between_ok okNil) lokNil noHooks (saga_Holds_ev saga_between)

end
end Go.Rv.Tryd

set_option linter.unusedVariables false
set_option maxRecDepth 100000
set_option maxHeartbeats 4000000
namespace Go.Rv.Tryd
open Go Go.Rv Go.RowKit
noncomputable section

-- drayman/saga.Keeps

abbrev saga_Keeps_T (α : Type) : Type := (Int × ByteArray × ByteArray × (Seq (ByteArray × Int × Unit)) × Int × Int × Int × Int × Int × Int × (Seq (Int × Unit)) × Unit) → (ByteArray × (Seq Z0) × Unit) → (Bool → Option α) → Option α

noncomputable def saga_Keeps_g {α : Type} (saga_between : saga_between_T α) (s1 : Int × ByteArray × ByteArray × (Seq (ByteArray × Int × Unit)) × Int × Int × Int × Int × Int × Int × (Seq (Int × Unit)) × Unit) (d2 : ByteArray × (Seq Z0) × Unit) (k : Bool → Option α) : Option α :=
  (saga_between s1 d2 3 5 fun r3 =>
    (k r3))

noncomputable def saga_Keeps {α : Type} : saga_Keeps_T α := saga_Keeps_g saga_between

noncomputable def saga_Keeps_sp {α : Type} (saga_Keeps : saga_Keeps_T α) : FunSpec α := ⟨46, [.agg [.int .i64, .str, .str, .sl (.str (.int .i64 (.nil))), .int .i64, .int .i64, .int .i64, .int .i64, .int .i64, .int .i64, .sl (.int .i64 (.nil))], .agg [.str, .sl (.int .i64 (.int .i64 (.int .i64 (.int .i64 (.int .i64 (.int .i64 (.nil)))))))]], [], fun ds k => saga_Keeps (hdI ds, hdS ds.tail, hdS ds.tail.tail, hdQ (.str (.int .i64 (.nil))) ds.tail.tail.tail, hdI ds.tail.tail.tail.tail, hdI ds.tail.tail.tail.tail.tail, hdI ds.tail.tail.tail.tail.tail.tail, hdI ds.tail.tail.tail.tail.tail.tail.tail, hdI ds.tail.tail.tail.tail.tail.tail.tail.tail, hdI ds.tail.tail.tail.tail.tail.tail.tail.tail.tail, hdQ (.int .i64 (.nil)) ds.tail.tail.tail.tail.tail.tail.tail.tail.tail.tail, ()) (hdS ds.tail.tail.tail.tail.tail.tail.tail.tail.tail.tail.tail, hdQ (.int .i64 (.int .i64 (.int .i64 (.int .i64 (.int .i64 (.int .i64 (.nil))))))) ds.tail.tail.tail.tail.tail.tail.tail.tail.tail.tail.tail.tail, ()) (fun r1 => k (enc dep (.bool) [.b r1]).1 [])⟩

noncomputable def saga_Keeps_spec {α : Type} : FunSpec α := saga_Keeps_sp saga_Keeps

noncomputable def saga_Keeps_C {α : Type} (saga_between : saga_between_T α) : List (FunSpec α) := [saga_between_sp saga_between]

noncomputable def saga_Keeps_q : FuncId → Bool := fun f => Nat.beq f 85

noncomputable def saga_Keeps_inl : FuncId → Bool := fun f => false

noncomputable def saga_Keeps_ann : FuncId → AnnT := fun f p => ⟨[], [], [], [], 0, [], [], none⟩

noncomputable def saga_Keeps_loops {α : Type} (saga_between : saga_between_T α) : List (LoopSpec α) := []

theorem saga_Keeps_ev {α : Type} (saga_between : saga_between_T α) : EvOk (α := α) Go.Proofs.Tryd.prog (envOf (saga_Keeps_C saga_between) saga_Keeps_q saga_Keeps_inl 1000 saga_Keeps_ann false (saga_Keeps_loops saga_between) (fun _ => none)) 6 (saga_Keeps_sp (saga_Keeps_g saga_between)) := by intro ds k; kernel_rfl

theorem saga_Keeps_ok {α : Type} : (saga_Keeps_spec : FunSpec α).ok Go.Proofs.Tryd.prog :=
  FunSpec.ok_of (sp := saga_Keeps_spec) (C := saga_Keeps_C saga_between) (q := saga_Keeps_q) (inl := saga_Keeps_inl) (N := 1000) (ann := saga_Keeps_ann) (fr := false) (D := 6) (l := (saga_Keeps_loops saga_between)) (hk := (fun _ => none)) (okCons saga_between_ok okNil) lokNil noHooks (saga_Keeps_ev saga_between)

end
end Go.Rv.Tryd

set_option linter.unusedVariables false
set_option maxRecDepth 100000
set_option maxHeartbeats 4000000
namespace Go.Rv.Tryd
open Go Go.Rv Go.RowKit
noncomputable section

-- drayman/saga.Live

abbrev saga_Live_T (α : Type) : Type := (Int × ByteArray × ByteArray × (Seq (ByteArray × Int × Unit)) × Int × Int × Int × Int × Int × Int × (Seq (Int × Unit)) × Unit) → (Bool → Option α) → Option α

noncomputable def saga_Live {α : Type} (s1 : Int × ByteArray × ByteArray × (Seq (ByteArray × Int × Unit)) × Int × Int × Int × Int × Int × Int × (Seq (Int × Unit)) × Unit) (k : Bool → Option α) : Option α :=
  (cond (s1.2.2.2.2.2.1 == 1)
    (cond (s1.2.2.2.2.2.1 == 1)
      (k true)
      (k false))
    (cond (s1.2.2.2.2.2.1 == 2)
      (cond (s1.2.2.2.2.2.1 == 2)
        (k true)
        (k false))
      (cond (s1.2.2.2.2.2.1 == 3)
        (k true)
        (k false))))

noncomputable def saga_Live_sp {α : Type} (saga_Live : saga_Live_T α) : FunSpec α := ⟨47, [.agg [.int .i64, .str, .str, .sl (.str (.int .i64 (.nil))), .int .i64, .int .i64, .int .i64, .int .i64, .int .i64, .int .i64, .sl (.int .i64 (.nil))]], [], fun ds k => saga_Live (hdI ds, hdS ds.tail, hdS ds.tail.tail, hdQ (.str (.int .i64 (.nil))) ds.tail.tail.tail, hdI ds.tail.tail.tail.tail, hdI ds.tail.tail.tail.tail.tail, hdI ds.tail.tail.tail.tail.tail.tail, hdI ds.tail.tail.tail.tail.tail.tail.tail, hdI ds.tail.tail.tail.tail.tail.tail.tail.tail, hdI ds.tail.tail.tail.tail.tail.tail.tail.tail.tail, hdQ (.int .i64 (.nil)) ds.tail.tail.tail.tail.tail.tail.tail.tail.tail.tail, ()) (fun r1 => k (enc dep (.bool) [.b r1]).1 [])⟩

noncomputable def saga_Live_spec {α : Type} : FunSpec α := saga_Live_sp saga_Live

noncomputable def saga_Live_C {α : Type} : List (FunSpec α) := []

noncomputable def saga_Live_q : FuncId → Bool := fun f => false

noncomputable def saga_Live_inl : FuncId → Bool := fun f => false

noncomputable def saga_Live_ann : FuncId → AnnT := fun f p => ⟨[], [], [], [], 0, [], [], none⟩

noncomputable def saga_Live_loops {α : Type} : List (LoopSpec α) := []

theorem saga_Live_ev {α : Type} : EvOk (α := α) Go.Proofs.Tryd.prog (envOf (saga_Live_C) saga_Live_q saga_Live_inl 1000 saga_Live_ann false (saga_Live_loops) (fun _ => none)) 6 (saga_Live_sp (saga_Live)) := by intro ds k; kernel_rfl

theorem saga_Live_ok {α : Type} : (saga_Live_spec : FunSpec α).ok Go.Proofs.Tryd.prog :=
  FunSpec.ok_of (sp := saga_Live_spec) (C := saga_Live_C) (q := saga_Live_q) (inl := saga_Live_inl) (N := 1000) (ann := saga_Live_ann) (fr := false) (D := 6) (l := (saga_Live_loops)) (hk := (fun _ => none)) okNil lokNil noHooks (saga_Live_ev)

end
end Go.Rv.Tryd

set_option linter.unusedVariables false
set_option maxRecDepth 100000
set_option maxHeartbeats 4000000
namespace Go.Rv.Tryd
open Go Go.Rv Go.RowKit
noncomputable section

-- drayman/draymanref21.of

abbrev draymanref21_of_T (α : Type) : Type := Int → Int → Int → Int → Int → Int → (Z0 → Option α) → Option α

noncomputable def draymanref21_of {α : Type} (op1 : Int) (class2 : Int) (tries3 : Int) (base4 : Int) (limit5 : Int) (wait6 : Int) (k : Z0 → Option α) : Option α :=
  (k (op1, class2, tries3, base4, limit5, wait6, ()))

noncomputable def draymanref21_of_sp {α : Type} (draymanref21_of : draymanref21_of_T α) : FunSpec α := ⟨114, [.int .i64, .int .i64, .int .i64, .int .i64, .int .i64, .int .i64], [], fun ds k => draymanref21_of (hdI ds) (hdI ds.tail) (hdI ds.tail.tail) (hdI ds.tail.tail.tail) (hdI ds.tail.tail.tail.tail) (hdI ds.tail.tail.tail.tail.tail) (fun r1 => k (enc dep (.agg [.int .i64, .int .i64, .int .i64, .int .i64, .int .i64, .int .i64]) [.i r1.1, .i r1.2.1, .i r1.2.2.1, .i r1.2.2.2.1, .i r1.2.2.2.2.1, .i r1.2.2.2.2.2.1]).1 [])⟩

noncomputable def draymanref21_of_spec {α : Type} : FunSpec α := draymanref21_of_sp draymanref21_of

noncomputable def draymanref21_of_C {α : Type} : List (FunSpec α) := []

noncomputable def draymanref21_of_q : FuncId → Bool := fun f => false

noncomputable def draymanref21_of_inl : FuncId → Bool := fun f => false

noncomputable def draymanref21_of_ann : FuncId → AnnT := fun f p => ⟨[], [], [], [], 0, [], [], none⟩

noncomputable def draymanref21_of_loops {α : Type} : List (LoopSpec α) := []

theorem draymanref21_of_ev {α : Type} : EvOk (α := α) Go.Proofs.Tryd.prog (envOf (draymanref21_of_C) draymanref21_of_q draymanref21_of_inl 1000 draymanref21_of_ann false (draymanref21_of_loops) (fun _ => none)) 6 (draymanref21_of_sp (draymanref21_of)) := by intro ds k; kernel_rfl

theorem draymanref21_of_ok {α : Type} : (draymanref21_of_spec : FunSpec α).ok Go.Proofs.Tryd.prog :=
  FunSpec.ok_of (sp := draymanref21_of_spec) (C := draymanref21_of_C) (q := draymanref21_of_q) (inl := draymanref21_of_inl) (N := 1000) (ann := draymanref21_of_ann) (fr := false) (D := 6) (l := (draymanref21_of_loops)) (hk := (fun _ => none)) okNil lokNil noHooks (draymanref21_of_ev)

end
end Go.Rv.Tryd

set_option linter.unusedVariables false
set_option maxRecDepth 100000
set_option maxHeartbeats 4000000
namespace Go.Rv.Tryd
open Go Go.Rv Go.RowKit
noncomputable section

-- drayman/draymanref21.Built

abbrev draymanref21_Built_T (α : Type) : Type := ((Seq (ByteArray × (Seq Z0) × Unit)) → Option α) → Option α

noncomputable def draymanref21_Built_g {α : Type} (draymanref21_of : draymanref21_of_T α) (k : (Seq (ByteArray × (Seq Z0) × Unit)) → Option α) : Option α :=
  (draymanref21_of 1 1 0 1 1 40 fun r1 =>
    (draymanref21_of 2 1 3 1 8 30 fun r2 =>
      (draymanref21_of 3 1 0 1 1 0 fun r3 =>
        (draymanref21_of 4 2 3 1 8 0 fun r4 =>
          (draymanref21_of 5 3 0 1 1 0 fun r5 =>
            (draymanref21_of 6 3 5 1 8 0 fun r6 =>
              (draymanref21_of 1 1 0 1 1 20 fun r7 =>
                (draymanref21_of 2 1 2 1 4 20 fun r8 =>
                  (draymanref21_of 3 1 0 1 1 0 fun r9 =>
                    (draymanref21_of 6 2 2 1 4 0 fun r10 =>
                      (draymanref21_of 5 3 0 1 1 0 fun r11 =>
                        (draymanref21_of 2 1 3 2 8 0 fun r12 =>
                          (draymanref21_of 6 1 3 2 8 0 fun r13 =>
                            (draymanref21_of 4 1 3 1 4 50 fun r14 =>
                              (k (⟨false, 3, (tSel [((⟨#[102, 117, 108, 102, 105, 108]⟩ : ByteArray), (⟨false, 6, (tSel [r1, r2, r3, r4, r5, r6] (0, 0, 0, 0, 0, 0, ()))⟩ : Seq Z0), ()), ((⟨#[112, 105, 99, 107, 117, 112]⟩ : ByteArray), (⟨false, 5, (tSel [r7, r8, r9, r10, r11] (0, 0, 0, 0, 0, 0, ()))⟩ : Seq Z0), ()), ((⟨#[112, 114, 101, 112, 97, 105, 100]⟩ : ByteArray), (⟨false, 3, (tSel [r12, r13, r14] (0, 0, 0, 0, 0, 0, ()))⟩ : Seq Z0), ())] (ByteArray.empty, (⟨true, 0, fun _ => (0, 0, 0, 0, 0, 0, ())⟩ : Seq Z0), ()))⟩ : Seq (ByteArray × (Seq Z0) × Unit)))))))))))))))))

noncomputable def draymanref21_Built {α : Type} : draymanref21_Built_T α := draymanref21_Built_g draymanref21_of

noncomputable def draymanref21_Built_sp {α : Type} (draymanref21_Built : draymanref21_Built_T α) : FunSpec α := ⟨83, [], [], fun ds k => draymanref21_Built  (fun q1 => k (enc dep (.own 0) []).1 (encBs [.row true (.str (.sl (.int .i64 (.int .i64 (.int .i64 (.int .i64 (.int .i64 (.int .i64 (.nil))))))) (.nil)))] [.q (.str (.sl (.int .i64 (.int .i64 (.int .i64 (.int .i64 (.int .i64 (.int .i64 (.nil))))))) (.nil))) q1]).1)⟩

noncomputable def draymanref21_Built_spec {α : Type} : FunSpec α := draymanref21_Built_sp draymanref21_Built

noncomputable def draymanref21_Built_C {α : Type} (draymanref21_of : draymanref21_of_T α) : List (FunSpec α) := [draymanref21_of_sp draymanref21_of]

noncomputable def draymanref21_Built_q : FuncId → Bool := fun f => Nat.beq f 114

noncomputable def draymanref21_Built_inl : FuncId → Bool := fun f => false

noncomputable def draymanref21_Built_ann : FuncId → AnnT := fun f p => ⟨[], [], [], [], 0, [], [], none⟩

noncomputable def draymanref21_Built_loops {α : Type} (draymanref21_of : draymanref21_of_T α) : List (LoopSpec α) := []

theorem draymanref21_Built_ev {α : Type} (draymanref21_of : draymanref21_of_T α) : EvOk (α := α) Go.Proofs.Tryd.prog (envOf (draymanref21_Built_C draymanref21_of) draymanref21_Built_q draymanref21_Built_inl 1000 draymanref21_Built_ann false (draymanref21_Built_loops draymanref21_of) (fun _ => none)) 6 (draymanref21_Built_sp (draymanref21_Built_g draymanref21_of)) := by intro ds k; kernel_rfl

theorem draymanref21_Built_ok {α : Type} : (draymanref21_Built_spec : FunSpec α).ok Go.Proofs.Tryd.prog :=
  FunSpec.ok_of (sp := draymanref21_Built_spec) (C := draymanref21_Built_C draymanref21_of) (q := draymanref21_Built_q) (inl := draymanref21_Built_inl) (N := 1000) (ann := draymanref21_Built_ann) (fr := false) (D := 6) (l := (draymanref21_Built_loops draymanref21_of)) (hk := (fun _ => none)) (okCons draymanref21_of_ok okNil) lokNil noHooks (draymanref21_Built_ev draymanref21_of)

end
end Go.Rv.Tryd

set_option linter.unusedVariables false
set_option maxRecDepth 100000
set_option maxHeartbeats 4000000
namespace Go.Rv.Tryd
open Go Go.Rv Go.RowKit
noncomputable section

-- drayman/saga.Word

abbrev saga_Word_T (α : Type) : Type := Int → (ByteArray → Option α) → Option α

noncomputable def saga_Word {α : Type} (mode1 : Int) (k : ByteArray → Option α) : Option α :=
  (cond (mode1 == 1)
    (k (⟨#[114, 117, 110, 110, 105, 110, 103]⟩ : ByteArray))
    (cond (mode1 == 2)
      (k (⟨#[117, 110, 100, 111, 105, 110, 103]⟩ : ByteArray))
      (cond (mode1 == 3)
        (k (⟨#[112, 97, 114, 107, 101, 100]⟩ : ByteArray))
        (cond (mode1 == 4)
          (k (⟨#[100, 111, 110, 101]⟩ : ByteArray))
          (cond (mode1 == 5)
            (k (⟨#[117, 110, 100, 111, 110, 101]⟩ : ByteArray))
            (k (⟨#[]⟩ : ByteArray)))))))

noncomputable def saga_Word_sp {α : Type} (saga_Word : saga_Word_T α) : FunSpec α := ⟨84, [.int .i64], [], fun ds k => saga_Word (hdI ds) (fun r1 => k (enc dep (.str) [.s r1]).1 [])⟩

noncomputable def saga_Word_spec {α : Type} : FunSpec α := saga_Word_sp saga_Word

noncomputable def saga_Word_C {α : Type} : List (FunSpec α) := []

noncomputable def saga_Word_q : FuncId → Bool := fun f => false

noncomputable def saga_Word_inl : FuncId → Bool := fun f => false

noncomputable def saga_Word_ann : FuncId → AnnT := fun f p => ⟨[], [], [], [], 0, [], [], none⟩

noncomputable def saga_Word_loops {α : Type} : List (LoopSpec α) := []

theorem saga_Word_ev {α : Type} : EvOk (α := α) Go.Proofs.Tryd.prog (envOf (saga_Word_C) saga_Word_q saga_Word_inl 1000 saga_Word_ann false (saga_Word_loops) (fun _ => none)) 6 (saga_Word_sp (saga_Word)) := by intro ds k; kernel_rfl

theorem saga_Word_ok {α : Type} : (saga_Word_spec : FunSpec α).ok Go.Proofs.Tryd.prog :=
  FunSpec.ok_of (sp := saga_Word_spec) (C := saga_Word_C) (q := saga_Word_q) (inl := saga_Word_inl) (N := 1000) (ann := saga_Word_ann) (fr := false) (D := 6) (l := (saga_Word_loops)) (hk := (fun _ => none)) okNil lokNil noHooks (saga_Word_ev)

end
end Go.Rv.Tryd

set_option linter.unusedVariables false
set_option maxRecDepth 100000
set_option maxHeartbeats 4000000
namespace Go.Rv.Tryd
open Go Go.Rv Go.RowKit
noncomputable section

-- drayman/name.Count

abbrev name_Count_T (α : Type) : Type := ByteArray → (Int → Option α) → Option α

noncomputable def name_Count_g {α : Type} (unicode_utf8_ValidString : unicode_utf8_ValidString_T α) (unicode_utf8_RuneCountInString : unicode_utf8_RuneCountInString_T α) (s1 : ByteArray) (k : Int → Option α) : Option α :=
  (unicode_utf8_ValidString s1 fun r2 =>
    (cond (!r2)
      (k (-1))
      (unicode_utf8_RuneCountInString s1 fun r3 =>
        (k r3))))

noncomputable def name_Count {α : Type} : name_Count_T α := name_Count_g unicode_utf8_ValidString unicode_utf8_RuneCountInString

noncomputable def name_Count_sp {α : Type} (name_Count : name_Count_T α) : FunSpec α := ⟨91, [.str], [], fun ds k => name_Count (hdS ds) (fun r1 => k (enc dep (.int .i64) [.i r1]).1 [])⟩

noncomputable def name_Count_spec {α : Type} : FunSpec α := name_Count_sp name_Count

noncomputable def name_Count_C {α : Type} (unicode_utf8_ValidString : unicode_utf8_ValidString_T α) (unicode_utf8_RuneCountInString : unicode_utf8_RuneCountInString_T α) : List (FunSpec α) := [unicode_utf8_ValidString_sp unicode_utf8_ValidString, unicode_utf8_RuneCountInString_sp unicode_utf8_RuneCountInString]

noncomputable def name_Count_q : FuncId → Bool := fun f => Nat.beq f 116 || Nat.beq f 117

noncomputable def name_Count_inl : FuncId → Bool := fun f => false

noncomputable def name_Count_ann : FuncId → AnnT := fun f p => ⟨[], [], [], [], 0, [], [], none⟩

noncomputable def name_Count_loops {α : Type} (unicode_utf8_ValidString : unicode_utf8_ValidString_T α) (unicode_utf8_RuneCountInString : unicode_utf8_RuneCountInString_T α) : List (LoopSpec α) := []

theorem name_Count_ev {α : Type} (unicode_utf8_ValidString : unicode_utf8_ValidString_T α) (unicode_utf8_RuneCountInString : unicode_utf8_RuneCountInString_T α) : EvOk (α := α) Go.Proofs.Tryd.prog (envOf (name_Count_C unicode_utf8_ValidString unicode_utf8_RuneCountInString) name_Count_q name_Count_inl 1000 name_Count_ann false (name_Count_loops unicode_utf8_ValidString unicode_utf8_RuneCountInString) (fun _ => none)) 6 (name_Count_sp (name_Count_g unicode_utf8_ValidString unicode_utf8_RuneCountInString)) := by intro ds k; kernel_rfl

theorem name_Count_ok {α : Type} : (name_Count_spec : FunSpec α).ok Go.Proofs.Tryd.prog :=
  FunSpec.ok_of (sp := name_Count_spec) (C := name_Count_C unicode_utf8_ValidString unicode_utf8_RuneCountInString) (q := name_Count_q) (inl := name_Count_inl) (N := 1000) (ann := name_Count_ann) (fr := false) (D := 6) (l := (name_Count_loops unicode_utf8_ValidString unicode_utf8_RuneCountInString)) (hk := (fun _ => none)) (okCons unicode_utf8_ValidString_ok (okCons unicode_utf8_RuneCountInString_ok okNil)) lokNil noHooks (name_Count_ev unicode_utf8_ValidString unicode_utf8_RuneCountInString)

end
end Go.Rv.Tryd

set_option linter.unusedVariables false
set_option maxRecDepth 100000
set_option maxHeartbeats 4000000
namespace Go.Rv.Tryd
open Go Go.Rv Go.RowKit
noncomputable section

-- drayman/name.Rune

abbrev name_Rune_T (α : Type) : Type := Int → (Bool → Option α) → Option α

noncomputable def name_Rune {α : Type} (r1 : Int) (k : Bool → Option α) : Option α :=
  (cond (decide ((97 : Int) ≤ r1))
    (cond (decide (r1 ≤ 122))
      (cond (decide (r1 ≤ 122))
        (k true)
        (cond (decide ((223 : Int) ≤ r1))
          (cond (decide (r1 ≤ 255))
            (k (r1 != 247))
            (k false))
          (k false)))
      (cond (decide ((48 : Int) ≤ r1))
        (cond (decide (r1 ≤ 57))
          (cond (decide (r1 ≤ 57))
            (k true)
            (cond (decide ((223 : Int) ≤ r1))
              (cond (decide (r1 ≤ 255))
                (k (r1 != 247))
                (k false))
              (k false)))
          (cond (r1 == 45)
            (k true)
            (cond (decide ((223 : Int) ≤ r1))
              (cond (decide (r1 ≤ 255))
                (k (r1 != 247))
                (k false))
              (k false))))
        (cond (r1 == 45)
          (k true)
          (cond (decide ((223 : Int) ≤ r1))
            (cond (decide (r1 ≤ 255))
              (k (r1 != 247))
              (k false))
            (k false)))))
    (cond (decide ((48 : Int) ≤ r1))
      (cond (decide (r1 ≤ 57))
        (cond (decide (r1 ≤ 57))
          (k true)
          (cond (decide ((223 : Int) ≤ r1))
            (cond (decide (r1 ≤ 255))
              (k (r1 != 247))
              (k false))
            (k false)))
        (cond (r1 == 45)
          (k true)
          (cond (decide ((223 : Int) ≤ r1))
            (cond (decide (r1 ≤ 255))
              (k (r1 != 247))
              (k false))
            (k false))))
      (cond (r1 == 45)
        (k true)
        (cond (decide ((223 : Int) ≤ r1))
          (cond (decide (r1 ≤ 255))
            (k (r1 != 247))
            (k false))
          (k false)))))

noncomputable def name_Rune_sp {α : Type} (name_Rune : name_Rune_T α) : FunSpec α := ⟨92, [.int .i32], [], fun ds k => name_Rune (hdI ds) (fun r1 => k (enc dep (.bool) [.b r1]).1 [])⟩

noncomputable def name_Rune_spec {α : Type} : FunSpec α := name_Rune_sp name_Rune

noncomputable def name_Rune_C {α : Type} : List (FunSpec α) := []

noncomputable def name_Rune_q : FuncId → Bool := fun f => false

noncomputable def name_Rune_inl : FuncId → Bool := fun f => false

noncomputable def name_Rune_ann : FuncId → AnnT := fun f p => ⟨[], [], [], [], 0, [], [], none⟩

noncomputable def name_Rune_loops {α : Type} : List (LoopSpec α) := []

theorem name_Rune_ev {α : Type} : EvOk (α := α) Go.Proofs.Tryd.prog (envOf (name_Rune_C) name_Rune_q name_Rune_inl 1000 name_Rune_ann false (name_Rune_loops) (fun _ => none)) 6 (name_Rune_sp (name_Rune)) := by intro ds k; kernel_rfl

theorem name_Rune_ok {α : Type} : (name_Rune_spec : FunSpec α).ok Go.Proofs.Tryd.prog :=
  FunSpec.ok_of (sp := name_Rune_spec) (C := name_Rune_C) (q := name_Rune_q) (inl := name_Rune_inl) (N := 1000) (ann := name_Rune_ann) (fr := false) (D := 6) (l := (name_Rune_loops)) (hk := (fun _ => none)) okNil lokNil noHooks (name_Rune_ev)

end
end Go.Rv.Tryd

set_option linter.unusedVariables false
set_option maxRecDepth 100000
set_option maxHeartbeats 4000000
namespace Go.Rv.Tryd
open Go Go.Rv Go.RowKit
noncomputable section

-- drayman/name.Fit

abbrev name_Fit_T (α : Type) : Type := ByteArray → (Bool → Option α) → Option α

noncomputable def name_Fit_l0_step {α : Type} (name_Count : name_Count_T α) (name_Rune : name_Rune_T α) (kr : (Bool) → (ByteArray) → (Int) → Option α) (k0 : (ByteArray) → (Int) → Option α) (rec : (ByteArray) → (Int) → Option α) (s3 : ByteArray) (p4 : Int) : Option α :=
  (cond (Nat.blt p4.toNat s3.size)
    (name_Rune (((Utf8.decode s3 p4.toNat).1 : Nat) : Int) fun r5 =>
      (cond (!(!r5))
        (cond ((p4.toNat : Int) == 0)
          (cond ((((Utf8.decode s3 p4.toNat).1 : Nat) : Int) == 45)
            (kr false s3 (((p4.toNat + (Utf8.decode s3 p4.toNat).2) : Nat) : Int))
            (rec s3 (((p4.toNat + (Utf8.decode s3 p4.toNat).2) : Nat) : Int)))
          (rec s3 (((p4.toNat + (Utf8.decode s3 p4.toNat).2) : Nat) : Int)))
        (kr false s3 (((p4.toNat + (Utf8.decode s3 p4.toNat).2) : Nat) : Int))))
    (k0 s3 (p4.toNat : Int)))

noncomputable def name_Fit_l0_run {α : Type} (name_Count : name_Count_T α) (name_Rune : name_Rune_T α) (kr : (Bool) → (ByteArray) → (Int) → Option α) (k0 : (ByteArray) → (Int) → Option α) : Nat → (ByteArray) → (Int) → Option α
  | 0, _, _ => none
  | n + 1, s3, p4 => name_Fit_l0_step name_Count name_Rune kr k0 (fun s3 p4 => name_Fit_l0_run name_Count name_Rune kr k0 n s3 p4) s3 p4

noncomputable def name_Fit_g {α : Type} (name_Count : name_Count_T α) (name_Rune : name_Rune_T α) (s1 : ByteArray) (k : Bool → Option α) : Option α :=
  (name_Count s1 fun r2 =>
    (cond (!(decide (r2 < 1)))
      (cond (decide (r2 > 12))
        (k false)
        (name_Fit_l0_run name_Count name_Rune
          (fun x6 s7 p8 =>
            (k x6))
          (fun s9 p10 =>
            (k true))
          1000 s1 0))
      (k false)))

noncomputable def name_Fit {α : Type} : name_Fit_T α := name_Fit_g name_Count name_Rune

noncomputable def name_Fit_sp {α : Type} (name_Fit : name_Fit_T α) : FunSpec α := ⟨52, [.str], [], fun ds k => name_Fit (hdS ds) (fun r1 => k (enc dep (.bool) [.b r1]).1 [])⟩

noncomputable def name_Fit_spec {α : Type} : FunSpec α := name_Fit_sp name_Fit

noncomputable def name_Fit_C {α : Type} (name_Count : name_Count_T α) (name_Rune : name_Rune_T α) : List (FunSpec α) := [name_Count_sp name_Count, name_Rune_sp name_Rune]

noncomputable def name_Fit_q : FuncId → Bool := fun f => Nat.beq f 91 || Nat.beq f 92

noncomputable def name_Fit_inl : FuncId → Bool := fun f => false

noncomputable def name_Fit_ann : FuncId → AnnT := fun f p => if f = 52 then (if p = [true, false, true, true, true] then ⟨[15], [], [], [2], 0, [], [], none⟩ else ⟨[], [], [], [], 0, [], [], none⟩) else ⟨[], [], [], [], 0, [], [], none⟩

noncomputable def name_Fit_l0_t : List Sh := [.dead, .dead, .dead, .dead, .dead, .dead, .dead, .dead, .dead, .dead, .dead, .dead, .dead, .dead, .dead, .ref 0 0, .dead, .dead, .dead, .dead, .dead, .dead, .dead, .dead, .dead, .dead, .dead, .dead, .dead, .dead, .dead]
noncomputable def name_Fit_l0_s : List (List Sh) := []
noncomputable def name_Fit_l0_h : List BSh := [.it]

noncomputable def name_Fit_l0_spec {α : Type} (name_Count : name_Count_T α) (name_Rune : name_Rune_T α) : LoopSpec α := ⟨6, 52, [true, false, true, true, true], name_Fit_l0_t, name_Fit_l0_s, name_Fit_l0_h, fun ds k => name_Fit_l0_run name_Count name_Rune (fun y1 y2 y3 => k .ret (encSt [.dead, .dead, .bool, .dead, .dead, .dead, .dead, .dead, .dead, .dead, .dead, .dead, .dead, .dead, .dead, .dead, .dead, .dead, .dead, .dead, .dead, .dead, .dead, .dead, .dead, .dead, .dead, .dead, .dead, .dead, .dead] [] [.it] [.b y1, .s y2, .i y3])) (fun y1 y2 => k (.exit 0) (encSt [.dead, .dead, .dead, .dead, .dead, .dead, .dead, .dead, .dead, .dead, .dead, .dead, .dead, .dead, .dead, .dead, .dead, .dead, .dead, .dead, .dead, .dead, .dead, .dead, .dead, .dead, .dead, .dead, .dead, .dead, .dead] [] [.it] [.s y1, .i y2])) 1000 (hdS ds) (hdI ds.tail)⟩

noncomputable def name_Fit_loops {α : Type} (name_Count : name_Count_T α) (name_Rune : name_Rune_T α) : List (LoopSpec α) := [name_Fit_l0_spec name_Count name_Rune]

noncomputable def name_Fit_l0_ev {α : Type} (name_Count : name_Count_T α) (name_Rune : name_Rune_T α) (n : Nat) (st : St) (k : X → St → Option α) : Option α := loopN (evCode Go.Proofs.Tryd.prog (callD Go.Proofs.Tryd.prog (envOf (name_Fit_C name_Count name_Rune) name_Fit_q name_Fit_inl 1000 name_Fit_ann false (name_Fit_loops name_Count name_Rune) (fun _ => none)) 6) (((envOf (name_Fit_C name_Count name_Rune) name_Fit_q name_Fit_inl 1000 name_Fit_ann false (name_Fit_loops name_Count name_Rune) (fun _ => none)) : Env α).L 6 52) 1000 (name_Fit_ann 52) (false :: [true, false, true, true, true]) (loopC Go.Proofs.Tryd.prog 52 [true, false, true, true, true])) ((name_Fit_ann 52 [true, false, true, true, true]).head 1) ((name_Fit_ann 52 [true, false, true, true, true]).leave 1) n st k

theorem name_Fit_l0_eq {α : Type} (name_Count : name_Count_T α) (name_Rune : name_Rune_T α) : ∀ (n : Nat) (s3 : ByteArray) (p4 : Int) (k : X → St → Option α), name_Fit_l0_ev name_Count name_Rune n (encSt name_Fit_l0_t name_Fit_l0_s name_Fit_l0_h [.s s3, .i p4]) k = name_Fit_l0_run name_Count name_Rune (fun y1 y2 y3 => k .ret (encSt [.dead, .dead, .bool, .dead, .dead, .dead, .dead, .dead, .dead, .dead, .dead, .dead, .dead, .dead, .dead, .dead, .dead, .dead, .dead, .dead, .dead, .dead, .dead, .dead, .dead, .dead, .dead, .dead, .dead, .dead, .dead] [] [.it] [.b y1, .s y2, .i y3])) (fun y1 y2 => k (.exit 0) (encSt [.dead, .dead, .dead, .dead, .dead, .dead, .dead, .dead, .dead, .dead, .dead, .dead, .dead, .dead, .dead, .dead, .dead, .dead, .dead, .dead, .dead, .dead, .dead, .dead, .dead, .dead, .dead, .dead, .dead, .dead, .dead] [] [.it] [.s y1, .i y2])) n s3 p4 := by
  intro n
  induction n with
  | zero => intros; kernel_rfl
  | succ n ih =>
    intro s3 p4 k
    have e : (fun (s3 : ByteArray) (p4 : Int) => name_Fit_l0_ev name_Count name_Rune n (encSt name_Fit_l0_t name_Fit_l0_s name_Fit_l0_h [.s s3, .i p4]) k) = (fun (s3 : ByteArray) (p4 : Int) => name_Fit_l0_run name_Count name_Rune (fun y1 y2 y3 => k .ret (encSt [.dead, .dead, .bool, .dead, .dead, .dead, .dead, .dead, .dead, .dead, .dead, .dead, .dead, .dead, .dead, .dead, .dead, .dead, .dead, .dead, .dead, .dead, .dead, .dead, .dead, .dead, .dead, .dead, .dead, .dead, .dead] [] [.it] [.b y1, .s y2, .i y3])) (fun y1 y2 => k (.exit 0) (encSt [.dead, .dead, .dead, .dead, .dead, .dead, .dead, .dead, .dead, .dead, .dead, .dead, .dead, .dead, .dead, .dead, .dead, .dead, .dead, .dead, .dead, .dead, .dead, .dead, .dead, .dead, .dead, .dead, .dead, .dead, .dead] [] [.it] [.s y1, .i y2])) n s3 p4) := by
      funext s3 p4
      exact ih s3 p4 k
    have h1 : name_Fit_l0_ev name_Count name_Rune (n + 1) (encSt name_Fit_l0_t name_Fit_l0_s name_Fit_l0_h [.s s3, .i p4]) k = name_Fit_l0_step name_Count name_Rune (fun y1 y2 y3 => k .ret (encSt [.dead, .dead, .bool, .dead, .dead, .dead, .dead, .dead, .dead, .dead, .dead, .dead, .dead, .dead, .dead, .dead, .dead, .dead, .dead, .dead, .dead, .dead, .dead, .dead, .dead, .dead, .dead, .dead, .dead, .dead, .dead] [] [.it] [.b y1, .s y2, .i y3])) (fun y1 y2 => k (.exit 0) (encSt [.dead, .dead, .dead, .dead, .dead, .dead, .dead, .dead, .dead, .dead, .dead, .dead, .dead, .dead, .dead, .dead, .dead, .dead, .dead, .dead, .dead, .dead, .dead, .dead, .dead, .dead, .dead, .dead, .dead, .dead, .dead] [] [.it] [.s y1, .i y2])) (fun (s3 : ByteArray) (p4 : Int) => name_Fit_l0_ev name_Count name_Rune n (encSt name_Fit_l0_t name_Fit_l0_s name_Fit_l0_h [.s s3, .i p4]) k) s3 p4 := by kernel_rfl
    have h2 := congrArg (fun r => name_Fit_l0_step name_Count name_Rune (fun y1 y2 y3 => k .ret (encSt [.dead, .dead, .bool, .dead, .dead, .dead, .dead, .dead, .dead, .dead, .dead, .dead, .dead, .dead, .dead, .dead, .dead, .dead, .dead, .dead, .dead, .dead, .dead, .dead, .dead, .dead, .dead, .dead, .dead, .dead, .dead] [] [.it] [.b y1, .s y2, .i y3])) (fun y1 y2 => k (.exit 0) (encSt [.dead, .dead, .dead, .dead, .dead, .dead, .dead, .dead, .dead, .dead, .dead, .dead, .dead, .dead, .dead, .dead, .dead, .dead, .dead, .dead, .dead, .dead, .dead, .dead, .dead, .dead, .dead, .dead, .dead, .dead, .dead] [] [.it] [.s y1, .i y2])) r s3 p4) e
    have h3 : name_Fit_l0_step name_Count name_Rune (fun y1 y2 y3 => k .ret (encSt [.dead, .dead, .bool, .dead, .dead, .dead, .dead, .dead, .dead, .dead, .dead, .dead, .dead, .dead, .dead, .dead, .dead, .dead, .dead, .dead, .dead, .dead, .dead, .dead, .dead, .dead, .dead, .dead, .dead, .dead, .dead] [] [.it] [.b y1, .s y2, .i y3])) (fun y1 y2 => k (.exit 0) (encSt [.dead, .dead, .dead, .dead, .dead, .dead, .dead, .dead, .dead, .dead, .dead, .dead, .dead, .dead, .dead, .dead, .dead, .dead, .dead, .dead, .dead, .dead, .dead, .dead, .dead, .dead, .dead, .dead, .dead, .dead, .dead] [] [.it] [.s y1, .i y2])) (fun (s3 : ByteArray) (p4 : Int) => name_Fit_l0_run name_Count name_Rune (fun y1 y2 y3 => k .ret (encSt [.dead, .dead, .bool, .dead, .dead, .dead, .dead, .dead, .dead, .dead, .dead, .dead, .dead, .dead, .dead, .dead, .dead, .dead, .dead, .dead, .dead, .dead, .dead, .dead, .dead, .dead, .dead, .dead, .dead, .dead, .dead] [] [.it] [.b y1, .s y2, .i y3])) (fun y1 y2 => k (.exit 0) (encSt [.dead, .dead, .dead, .dead, .dead, .dead, .dead, .dead, .dead, .dead, .dead, .dead, .dead, .dead, .dead, .dead, .dead, .dead, .dead, .dead, .dead, .dead, .dead, .dead, .dead, .dead, .dead, .dead, .dead, .dead, .dead] [] [.it] [.s y1, .i y2])) n s3 p4) s3 p4 = name_Fit_l0_run name_Count name_Rune (fun y1 y2 y3 => k .ret (encSt [.dead, .dead, .bool, .dead, .dead, .dead, .dead, .dead, .dead, .dead, .dead, .dead, .dead, .dead, .dead, .dead, .dead, .dead, .dead, .dead, .dead, .dead, .dead, .dead, .dead, .dead, .dead, .dead, .dead, .dead, .dead] [] [.it] [.b y1, .s y2, .i y3])) (fun y1 y2 => k (.exit 0) (encSt [.dead, .dead, .dead, .dead, .dead, .dead, .dead, .dead, .dead, .dead, .dead, .dead, .dead, .dead, .dead, .dead, .dead, .dead, .dead, .dead, .dead, .dead, .dead, .dead, .dead, .dead, .dead, .dead, .dead, .dead, .dead] [] [.it] [.s y1, .i y2])) (n + 1) s3 p4 := by kernel_rfl
    exact h1.trans (h2.trans h3)

theorem name_Fit_l0_ok {α : Type} (name_Count : name_Count_T α) (name_Rune : name_Rune_T α) : (name_Fit_l0_spec name_Count name_Rune : LoopSpec α).ok Go.Proofs.Tryd.prog (envOf (name_Fit_C name_Count name_Rune) name_Fit_q name_Fit_inl 1000 name_Fit_ann false (name_Fit_loops name_Count name_Rune) (fun _ => none)) := by
  intro ds k
  have h1 : name_Fit_l0_ev name_Count name_Rune 1000 (encSt name_Fit_l0_t name_Fit_l0_s name_Fit_l0_h ds) k = name_Fit_l0_ev name_Count name_Rune 1000 (encSt name_Fit_l0_t name_Fit_l0_s name_Fit_l0_h [.s (hdS ds), .i (hdI ds.tail)]) k := by kernel_rfl
  have h2 := name_Fit_l0_eq name_Count name_Rune 1000 (hdS ds) (hdI ds.tail) k
  exact h1.trans h2

theorem name_Fit_ev {α : Type} (name_Count : name_Count_T α) (name_Rune : name_Rune_T α) : EvOk (α := α) Go.Proofs.Tryd.prog (envOf (name_Fit_C name_Count name_Rune) name_Fit_q name_Fit_inl 1000 name_Fit_ann false (name_Fit_loops name_Count name_Rune) (fun _ => none)) 6 (name_Fit_sp (name_Fit_g name_Count name_Rune)) := by intro ds k; kernel_rfl

theorem name_Fit_ok {α : Type} : (name_Fit_spec : FunSpec α).ok Go.Proofs.Tryd.prog :=
  FunSpec.ok_of (sp := name_Fit_spec) (C := name_Fit_C name_Count name_Rune) (q := name_Fit_q) (inl := name_Fit_inl) (N := 1000) (ann := name_Fit_ann) (fr := false) (D := 6) (l := (name_Fit_loops name_Count name_Rune)) (hk := (fun _ => none)) (okCons name_Count_ok (okCons name_Rune_ok okNil)) (lokCons (name_Fit_l0_ok name_Count name_Rune) lokNil) noHooks (name_Fit_ev name_Count name_Rune)

end
end Go.Rv.Tryd

set_option linter.unusedVariables false
set_option maxRecDepth 100000
set_option maxHeartbeats 4000000
namespace Go.Rv.Tryd
open Go Go.Rv Go.RowKit
noncomputable section

-- drayman/lines.Fit

abbrev lines_Fit_T (α : Type) : Type := (Seq (ByteArray × Int × Unit)) → (Bool → Option α) → Option α

noncomputable def lines_Fit_l0_step {α : Type} (name_Fit : name_Fit_T α) (kr : (Bool) → Option α) (k0 : (Seq (ByteArray × Int × Unit)) → Option α) (rec : (Seq (ByteArray × Int × Unit)) → (ByteArray) → (Seq (ByteArray × Int × Unit)) → (Int) → (Int) → Option α) (l2 : Seq (ByteArray × Int × Unit)) (last3 : ByteArray) (x4 : Seq (ByteArray × Int × Unit)) (x5 : Int) (x6 : Int) : Option α :=
  (cond (decide (x6 < x5))
    (cond ((decide ((0 : Int) ≤ x6)) && (decide (x6 < (x4.n : Int))))
      (name_Fit ((x4.g x6.toNat).1) fun r7 =>
        (cond (!(!r7))
          (cond (!((Op.bytesLess (x4.g x6.toNat).1.toList last3.toList) || ((x4.g x6.toNat).1.toList == last3.toList)))
            (cond (!(decide ((x4.g x6.toNat).2.1 < 1)))
              (cond (decide ((x4.g x6.toNat).2.1 > 1048576))
                (kr false)
                (rec l2 ((x4.g x6.toNat).1) x4 x5 (IntKind.i64.wrap (x6 + 1))))
              (kr false))
            (kr false))
          (kr false)))
      none)
    (k0 l2))

noncomputable def lines_Fit_l0_run {α : Type} (name_Fit : name_Fit_T α) (kr : (Bool) → Option α) (k0 : (Seq (ByteArray × Int × Unit)) → Option α) : Nat → (Seq (ByteArray × Int × Unit)) → (ByteArray) → (Seq (ByteArray × Int × Unit)) → (Int) → (Int) → Option α
  | 0, _, _, _, _, _ => none
  | n + 1, l2, last3, x4, x5, x6 => lines_Fit_l0_step name_Fit kr k0 (fun l2 last3 x4 x5 x6 => lines_Fit_l0_run name_Fit kr k0 n l2 last3 x4 x5 x6) l2 last3 x4 x5 x6

noncomputable def lines_Fit_g {α : Type} (name_Fit : name_Fit_T α) (l1 : Seq (ByteArray × Int × Unit)) (k : Bool → Option α) : Option α :=
  (lines_Fit_l0_run name_Fit
    (fun x8 =>
      (k x8))
    (fun x9 =>
      (k (decide ((x9.n : Int) ≤ 4))))
    1000 l1 (⟨#[]⟩ : ByteArray) l1 (l1.n : Int) 0)

noncomputable def lines_Fit {α : Type} : lines_Fit_T α := lines_Fit_g name_Fit

noncomputable def lines_Fit_sp {α : Type} (lines_Fit : lines_Fit_T α) : FunSpec α := ⟨73, [.sl (.str (.int .i64 (.nil)))], [], fun ds k => lines_Fit (hdQ (.str (.int .i64 (.nil))) ds) (fun r1 => k (enc dep (.bool) [.b r1]).1 [])⟩

noncomputable def lines_Fit_spec {α : Type} : FunSpec α := lines_Fit_sp lines_Fit

noncomputable def lines_Fit_C {α : Type} (name_Fit : name_Fit_T α) : List (FunSpec α) := [name_Fit_sp name_Fit]

noncomputable def lines_Fit_q : FuncId → Bool := fun f => Nat.beq f 52

noncomputable def lines_Fit_inl : FuncId → Bool := fun f => false

noncomputable def lines_Fit_ann : FuncId → AnnT := fun f p => if f = 73 then (if p = [true, false, true, true] then ⟨[0, 3, 6, 7, 8], [], [0], [2], 0, [], [], none⟩ else ⟨[], [], [], [], 0, [], [], none⟩) else ⟨[], [], [], [], 0, [], [], none⟩

noncomputable def lines_Fit_l0_t : List Sh := [.sl (.str (.int .i64 (.nil))), .dead, .dead, .str, .dead, .dead, .sl (.str (.int .i64 (.nil))), .int .i64, .int .i64, .dead, .dead, .dead, .dead, .dead, .dead, .dead, .dead, .dead, .dead, .dead, .dead, .dead, .dead, .dead, .dead, .dead, .dead, .dead, .dead, .dead, .dead, .dead, .dead, .dead, .dead, .dead, .dead, .dead]
noncomputable def lines_Fit_l0_s : List (List Sh) := []
noncomputable def lines_Fit_l0_h : List BSh := []

noncomputable def lines_Fit_l0_spec {α : Type} (name_Fit : name_Fit_T α) : LoopSpec α := ⟨6, 73, [true, false, true, true], lines_Fit_l0_t, lines_Fit_l0_s, lines_Fit_l0_h, fun ds k => lines_Fit_l0_run name_Fit (fun y1 => k .ret (encSt [.dead, .dead, .bool, .dead, .dead, .dead, .dead, .dead, .dead, .dead, .dead, .dead, .dead, .dead, .dead, .dead, .dead, .dead, .dead, .dead, .dead, .dead, .dead, .dead, .dead, .dead, .dead, .dead, .dead, .dead, .dead, .dead, .dead, .dead, .dead, .dead, .dead, .dead] [] [] [.b y1])) (fun y1 => k (.exit 0) (encSt [.sl (.str (.int .i64 (.nil))), .dead, .dead, .dead, .dead, .dead, .dead, .dead, .dead, .dead, .dead, .dead, .dead, .dead, .dead, .dead, .dead, .dead, .dead, .dead, .dead, .dead, .dead, .dead, .dead, .dead, .dead, .dead, .dead, .dead, .dead, .dead, .dead, .dead, .dead, .dead, .dead, .dead] [] [] [.q (.str (.int .i64 (.nil))) y1])) 1000 (hdQ (.str (.int .i64 (.nil))) ds) (hdS ds.tail) (hdQ (.str (.int .i64 (.nil))) ds.tail.tail) (hdI ds.tail.tail.tail) (hdI ds.tail.tail.tail.tail)⟩

noncomputable def lines_Fit_loops {α : Type} (name_Fit : name_Fit_T α) : List (LoopSpec α) := [lines_Fit_l0_spec name_Fit]

noncomputable def lines_Fit_l0_ev {α : Type} (name_Fit : name_Fit_T α) (n : Nat) (st : St) (k : X → St → Option α) : Option α := loopN (evCode Go.Proofs.Tryd.prog (callD Go.Proofs.Tryd.prog (envOf (lines_Fit_C name_Fit) lines_Fit_q lines_Fit_inl 1000 lines_Fit_ann false (lines_Fit_loops name_Fit) (fun _ => none)) 6) (((envOf (lines_Fit_C name_Fit) lines_Fit_q lines_Fit_inl 1000 lines_Fit_ann false (lines_Fit_loops name_Fit) (fun _ => none)) : Env α).L 6 73) 1000 (lines_Fit_ann 73) (false :: [true, false, true, true]) (loopC Go.Proofs.Tryd.prog 73 [true, false, true, true])) ((lines_Fit_ann 73 [true, false, true, true]).head 0) ((lines_Fit_ann 73 [true, false, true, true]).leave 0) n st k

theorem lines_Fit_l0_eq {α : Type} (name_Fit : name_Fit_T α) : ∀ (n : Nat) (l2 : Seq (ByteArray × Int × Unit)) (last3 : ByteArray) (x4 : Seq (ByteArray × Int × Unit)) (x5 : Int) (x6 : Int) (k : X → St → Option α), lines_Fit_l0_ev name_Fit n (encSt lines_Fit_l0_t lines_Fit_l0_s lines_Fit_l0_h [.q (.str (.int .i64 (.nil))) l2, .s last3, .q (.str (.int .i64 (.nil))) x4, .i x5, .i x6]) k = lines_Fit_l0_run name_Fit (fun y1 => k .ret (encSt [.dead, .dead, .bool, .dead, .dead, .dead, .dead, .dead, .dead, .dead, .dead, .dead, .dead, .dead, .dead, .dead, .dead, .dead, .dead, .dead, .dead, .dead, .dead, .dead, .dead, .dead, .dead, .dead, .dead, .dead, .dead, .dead, .dead, .dead, .dead, .dead, .dead, .dead] [] [] [.b y1])) (fun y1 => k (.exit 0) (encSt [.sl (.str (.int .i64 (.nil))), .dead, .dead, .dead, .dead, .dead, .dead, .dead, .dead, .dead, .dead, .dead, .dead, .dead, .dead, .dead, .dead, .dead, .dead, .dead, .dead, .dead, .dead, .dead, .dead, .dead, .dead, .dead, .dead, .dead, .dead, .dead, .dead, .dead, .dead, .dead, .dead, .dead] [] [] [.q (.str (.int .i64 (.nil))) y1])) n l2 last3 x4 x5 x6 := by
  intro n
  induction n with
  | zero => intros; kernel_rfl
  | succ n ih =>
    intro l2 last3 x4 x5 x6 k
    have e : (fun (l2 : Seq (ByteArray × Int × Unit)) (last3 : ByteArray) (x4 : Seq (ByteArray × Int × Unit)) (x5 : Int) (x6 : Int) => lines_Fit_l0_ev name_Fit n (encSt lines_Fit_l0_t lines_Fit_l0_s lines_Fit_l0_h [.q (.str (.int .i64 (.nil))) l2, .s last3, .q (.str (.int .i64 (.nil))) x4, .i x5, .i x6]) k) = (fun (l2 : Seq (ByteArray × Int × Unit)) (last3 : ByteArray) (x4 : Seq (ByteArray × Int × Unit)) (x5 : Int) (x6 : Int) => lines_Fit_l0_run name_Fit (fun y1 => k .ret (encSt [.dead, .dead, .bool, .dead, .dead, .dead, .dead, .dead, .dead, .dead, .dead, .dead, .dead, .dead, .dead, .dead, .dead, .dead, .dead, .dead, .dead, .dead, .dead, .dead, .dead, .dead, .dead, .dead, .dead, .dead, .dead, .dead, .dead, .dead, .dead, .dead, .dead, .dead] [] [] [.b y1])) (fun y1 => k (.exit 0) (encSt [.sl (.str (.int .i64 (.nil))), .dead, .dead, .dead, .dead, .dead, .dead, .dead, .dead, .dead, .dead, .dead, .dead, .dead, .dead, .dead, .dead, .dead, .dead, .dead, .dead, .dead, .dead, .dead, .dead, .dead, .dead, .dead, .dead, .dead, .dead, .dead, .dead, .dead, .dead, .dead, .dead, .dead] [] [] [.q (.str (.int .i64 (.nil))) y1])) n l2 last3 x4 x5 x6) := by
      funext l2 last3 x4 x5 x6
      exact ih l2 last3 x4 x5 x6 k
    have h1 : lines_Fit_l0_ev name_Fit (n + 1) (encSt lines_Fit_l0_t lines_Fit_l0_s lines_Fit_l0_h [.q (.str (.int .i64 (.nil))) l2, .s last3, .q (.str (.int .i64 (.nil))) x4, .i x5, .i x6]) k = lines_Fit_l0_step name_Fit (fun y1 => k .ret (encSt [.dead, .dead, .bool, .dead, .dead, .dead, .dead, .dead, .dead, .dead, .dead, .dead, .dead, .dead, .dead, .dead, .dead, .dead, .dead, .dead, .dead, .dead, .dead, .dead, .dead, .dead, .dead, .dead, .dead, .dead, .dead, .dead, .dead, .dead, .dead, .dead, .dead, .dead] [] [] [.b y1])) (fun y1 => k (.exit 0) (encSt [.sl (.str (.int .i64 (.nil))), .dead, .dead, .dead, .dead, .dead, .dead, .dead, .dead, .dead, .dead, .dead, .dead, .dead, .dead, .dead, .dead, .dead, .dead, .dead, .dead, .dead, .dead, .dead, .dead, .dead, .dead, .dead, .dead, .dead, .dead, .dead, .dead, .dead, .dead, .dead, .dead, .dead] [] [] [.q (.str (.int .i64 (.nil))) y1])) (fun (l2 : Seq (ByteArray × Int × Unit)) (last3 : ByteArray) (x4 : Seq (ByteArray × Int × Unit)) (x5 : Int) (x6 : Int) => lines_Fit_l0_ev name_Fit n (encSt lines_Fit_l0_t lines_Fit_l0_s lines_Fit_l0_h [.q (.str (.int .i64 (.nil))) l2, .s last3, .q (.str (.int .i64 (.nil))) x4, .i x5, .i x6]) k) l2 last3 x4 x5 x6 := by kernel_rfl
    have h2 := congrArg (fun r => lines_Fit_l0_step name_Fit (fun y1 => k .ret (encSt [.dead, .dead, .bool, .dead, .dead, .dead, .dead, .dead, .dead, .dead, .dead, .dead, .dead, .dead, .dead, .dead, .dead, .dead, .dead, .dead, .dead, .dead, .dead, .dead, .dead, .dead, .dead, .dead, .dead, .dead, .dead, .dead, .dead, .dead, .dead, .dead, .dead, .dead] [] [] [.b y1])) (fun y1 => k (.exit 0) (encSt [.sl (.str (.int .i64 (.nil))), .dead, .dead, .dead, .dead, .dead, .dead, .dead, .dead, .dead, .dead, .dead, .dead, .dead, .dead, .dead, .dead, .dead, .dead, .dead, .dead, .dead, .dead, .dead, .dead, .dead, .dead, .dead, .dead, .dead, .dead, .dead, .dead, .dead, .dead, .dead, .dead, .dead] [] [] [.q (.str (.int .i64 (.nil))) y1])) r l2 last3 x4 x5 x6) e
    have h3 : lines_Fit_l0_step name_Fit (fun y1 => k .ret (encSt [.dead, .dead, .bool, .dead, .dead, .dead, .dead, .dead, .dead, .dead, .dead, .dead, .dead, .dead, .dead, .dead, .dead, .dead, .dead, .dead, .dead, .dead, .dead, .dead, .dead, .dead, .dead, .dead, .dead, .dead, .dead, .dead, .dead, .dead, .dead, .dead, .dead, .dead] [] [] [.b y1])) (fun y1 => k (.exit 0) (encSt [.sl (.str (.int .i64 (.nil))), .dead, .dead, .dead, .dead, .dead, .dead, .dead, .dead, .dead, .dead, .dead, .dead, .dead, .dead, .dead, .dead, .dead, .dead, .dead, .dead, .dead, .dead, .dead, .dead, .dead, .dead, .dead, .dead, .dead, .dead, .dead, .dead, .dead, .dead, .dead, .dead, .dead] [] [] [.q (.str (.int .i64 (.nil))) y1])) (fun (l2 : Seq (ByteArray × Int × Unit)) (last3 : ByteArray) (x4 : Seq (ByteArray × Int × Unit)) (x5 : Int) (x6 : Int) => lines_Fit_l0_run name_Fit (fun y1 => k .ret (encSt [.dead, .dead, .bool, .dead, .dead, .dead, .dead, .dead, .dead, .dead, .dead, .dead, .dead, .dead, .dead, .dead, .dead, .dead, .dead, .dead, .dead, .dead, .dead, .dead, .dead, .dead, .dead, .dead, .dead, .dead, .dead, .dead, .dead, .dead, .dead, .dead, .dead, .dead] [] [] [.b y1])) (fun y1 => k (.exit 0) (encSt [.sl (.str (.int .i64 (.nil))), .dead, .dead, .dead, .dead, .dead, .dead, .dead, .dead, .dead, .dead, .dead, .dead, .dead, .dead, .dead, .dead, .dead, .dead, .dead, .dead, .dead, .dead, .dead, .dead, .dead, .dead, .dead, .dead, .dead, .dead, .dead, .dead, .dead, .dead, .dead, .dead, .dead] [] [] [.q (.str (.int .i64 (.nil))) y1])) n l2 last3 x4 x5 x6) l2 last3 x4 x5 x6 = lines_Fit_l0_run name_Fit (fun y1 => k .ret (encSt [.dead, .dead, .bool, .dead, .dead, .dead, .dead, .dead, .dead, .dead, .dead, .dead, .dead, .dead, .dead, .dead, .dead, .dead, .dead, .dead, .dead, .dead, .dead, .dead, .dead, .dead, .dead, .dead, .dead, .dead, .dead, .dead, .dead, .dead, .dead, .dead, .dead, .dead] [] [] [.b y1])) (fun y1 => k (.exit 0) (encSt [.sl (.str (.int .i64 (.nil))), .dead, .dead, .dead, .dead, .dead, .dead, .dead, .dead, .dead, .dead, .dead, .dead, .dead, .dead, .dead, .dead, .dead, .dead, .dead, .dead, .dead, .dead, .dead, .dead, .dead, .dead, .dead, .dead, .dead, .dead, .dead, .dead, .dead, .dead, .dead, .dead, .dead] [] [] [.q (.str (.int .i64 (.nil))) y1])) (n + 1) l2 last3 x4 x5 x6 := by kernel_rfl
    exact h1.trans (h2.trans h3)

theorem lines_Fit_l0_ok {α : Type} (name_Fit : name_Fit_T α) : (lines_Fit_l0_spec name_Fit : LoopSpec α).ok Go.Proofs.Tryd.prog (envOf (lines_Fit_C name_Fit) lines_Fit_q lines_Fit_inl 1000 lines_Fit_ann false (lines_Fit_loops name_Fit) (fun _ => none)) := by
  intro ds k
  have h1 : lines_Fit_l0_ev name_Fit 1000 (encSt lines_Fit_l0_t lines_Fit_l0_s lines_Fit_l0_h ds) k = lines_Fit_l0_ev name_Fit 1000 (encSt lines_Fit_l0_t lines_Fit_l0_s lines_Fit_l0_h [.q (.str (.int .i64 (.nil))) (hdQ (.str (.int .i64 (.nil))) ds), .s (hdS ds.tail), .q (.str (.int .i64 (.nil))) (hdQ (.str (.int .i64 (.nil))) ds.tail.tail), .i (hdI ds.tail.tail.tail), .i (hdI ds.tail.tail.tail.tail)]) k := by kernel_rfl
  have h2 := lines_Fit_l0_eq name_Fit 1000 (hdQ (.str (.int .i64 (.nil))) ds) (hdS ds.tail) (hdQ (.str (.int .i64 (.nil))) ds.tail.tail) (hdI ds.tail.tail.tail) (hdI ds.tail.tail.tail.tail) k
  exact h1.trans h2

theorem lines_Fit_ev {α : Type} (name_Fit : name_Fit_T α) : EvOk (α := α) Go.Proofs.Tryd.prog (envOf (lines_Fit_C name_Fit) lines_Fit_q lines_Fit_inl 1000 lines_Fit_ann false (lines_Fit_loops name_Fit) (fun _ => none)) 6 (lines_Fit_sp (lines_Fit_g name_Fit)) := by intro ds k; kernel_rfl

theorem lines_Fit_ok {α : Type} : (lines_Fit_spec : FunSpec α).ok Go.Proofs.Tryd.prog :=
  FunSpec.ok_of (sp := lines_Fit_spec) (C := lines_Fit_C name_Fit) (q := lines_Fit_q) (inl := lines_Fit_inl) (N := 1000) (ann := lines_Fit_ann) (fr := false) (D := 6) (l := (lines_Fit_loops name_Fit)) (hk := (fun _ => none)) (okCons name_Fit_ok okNil) (lokCons (lines_Fit_l0_ok name_Fit) lokNil) noHooks (lines_Fit_ev name_Fit)

end
end Go.Rv.Tryd

set_option linter.unusedVariables false
set_option maxRecDepth 100000
set_option maxHeartbeats 4000000
namespace Go.Rv.Tryd
open Go Go.Rv Go.RowKit
noncomputable section

-- drayman/num.Fit

abbrev num_Fit_T (α : Type) : Type := Int → (Bool → Option α) → Option α

noncomputable def num_Fit {α : Type} (n1 : Int) (k : Bool → Option α) : Option α :=
  (cond (decide (n1 ≥ 0))
    (k (decide (n1 ≤ 1099511627776)))
    (k false))

noncomputable def num_Fit_sp {α : Type} (num_Fit : num_Fit_T α) : FunSpec α := ⟨74, [.int .i64], [], fun ds k => num_Fit (hdI ds) (fun r1 => k (enc dep (.bool) [.b r1]).1 [])⟩

noncomputable def num_Fit_spec {α : Type} : FunSpec α := num_Fit_sp num_Fit

noncomputable def num_Fit_C {α : Type} : List (FunSpec α) := []

noncomputable def num_Fit_q : FuncId → Bool := fun f => false

noncomputable def num_Fit_inl : FuncId → Bool := fun f => false

noncomputable def num_Fit_ann : FuncId → AnnT := fun f p => ⟨[], [], [], [], 0, [], [], none⟩

noncomputable def num_Fit_loops {α : Type} : List (LoopSpec α) := []

theorem num_Fit_ev {α : Type} : EvOk (α := α) Go.Proofs.Tryd.prog (envOf (num_Fit_C) num_Fit_q num_Fit_inl 1000 num_Fit_ann false (num_Fit_loops) (fun _ => none)) 6 (num_Fit_sp (num_Fit)) := by intro ds k; kernel_rfl

theorem num_Fit_ok {α : Type} : (num_Fit_spec : FunSpec α).ok Go.Proofs.Tryd.prog :=
  FunSpec.ok_of (sp := num_Fit_spec) (C := num_Fit_C) (q := num_Fit_q) (inl := num_Fit_inl) (N := 1000) (ann := num_Fit_ann) (fr := false) (D := 6) (l := (num_Fit_loops)) (hk := (fun _ => none)) okNil lokNil noHooks (num_Fit_ev)

end
end Go.Rv.Tryd

set_option linter.unusedVariables false
set_option maxRecDepth 100000
set_option maxHeartbeats 4000000
namespace Go.Rv.Tryd
open Go Go.Rv Go.RowKit
noncomputable section

-- drayman/def.rules$1

abbrev def_rules_1_T (α : Type) : Type := (ByteArray × (Seq Z0) × Unit) → (Bool → Option α) → Option α

noncomputable def def_rules_1_g {α : Type} (name_Fit : name_Fit_T α) (d1 : ByteArray × (Seq Z0) × Unit) (k : Bool → Option α) : Option α :=
  (name_Fit d1.1 fun r2 =>
    (cond r2
      (cond (decide ((1 : Int) ≤ (d1.2.1.n : Int)))
        (k (decide ((d1.2.1.n : Int) ≤ 6)))
        (k false))
      (k false)))

noncomputable def def_rules_1 {α : Type} : def_rules_1_T α := def_rules_1_g name_Fit

noncomputable def def_rules_1_sp {α : Type} (def_rules_1 : def_rules_1_T α) : FunSpec α := ⟨119, [.agg [.str, .sl (.int .i64 (.int .i64 (.int .i64 (.int .i64 (.int .i64 (.int .i64 (.nil)))))))]], [], fun ds k => def_rules_1 (hdS ds, hdQ (.int .i64 (.int .i64 (.int .i64 (.int .i64 (.int .i64 (.int .i64 (.nil))))))) ds.tail, ()) (fun r1 => k (enc dep (.bool) [.b r1]).1 [])⟩

noncomputable def def_rules_1_spec {α : Type} : FunSpec α := def_rules_1_sp def_rules_1

noncomputable def def_rules_1_C {α : Type} (name_Fit : name_Fit_T α) : List (FunSpec α) := [name_Fit_sp name_Fit]

noncomputable def def_rules_1_q : FuncId → Bool := fun f => Nat.beq f 52

noncomputable def def_rules_1_inl : FuncId → Bool := fun f => false

noncomputable def def_rules_1_ann : FuncId → AnnT := fun f p => ⟨[], [], [], [], 0, [], [], none⟩

noncomputable def def_rules_1_loops {α : Type} (name_Fit : name_Fit_T α) : List (LoopSpec α) := []

theorem def_rules_1_ev {α : Type} (name_Fit : name_Fit_T α) : EvOk (α := α) Go.Proofs.Tryd.prog (envOf (def_rules_1_C name_Fit) def_rules_1_q def_rules_1_inl 1000 def_rules_1_ann false (def_rules_1_loops name_Fit) (fun _ => none)) 6 (def_rules_1_sp (def_rules_1_g name_Fit)) := by intro ds k; kernel_rfl

theorem def_rules_1_ok {α : Type} : (def_rules_1_spec : FunSpec α).ok Go.Proofs.Tryd.prog :=
  FunSpec.ok_of (sp := def_rules_1_spec) (C := def_rules_1_C name_Fit) (q := def_rules_1_q) (inl := def_rules_1_inl) (N := 1000) (ann := def_rules_1_ann) (fr := false) (D := 6) (l := (def_rules_1_loops name_Fit)) (hk := (fun _ => none)) (okCons name_Fit_ok okNil) lokNil noHooks (def_rules_1_ev name_Fit)

end
end Go.Rv.Tryd

set_option linter.unusedVariables false
set_option maxRecDepth 100000
set_option maxHeartbeats 4000000
namespace Go.Rv.Tryd
open Go Go.Rv Go.RowKit
noncomputable section

-- drayman/back.Fit

abbrev back_Fit_T (α : Type) : Type := Int → Int → Int → (Bool → Option α) → Option α

noncomputable def back_Fit {α : Type} (tries1 : Int) (base2 : Int) (limit3 : Int) (k : Bool → Option α) : Option α :=
  (cond (decide ((0 : Int) ≤ tries1))
    (cond (decide (tries1 ≤ 5))
      (cond (decide ((1 : Int) ≤ base2))
        (cond (decide (base2 ≤ limit3))
          (k (decide (limit3 ≤ 32)))
          (k false))
        (k false))
      (k false))
    (k false))

noncomputable def back_Fit_sp {α : Type} (back_Fit : back_Fit_T α) : FunSpec α := ⟨133, [.int .i64, .int .i64, .int .i64], [], fun ds k => back_Fit (hdI ds) (hdI ds.tail) (hdI ds.tail.tail) (fun r1 => k (enc dep (.bool) [.b r1]).1 [])⟩

noncomputable def back_Fit_spec {α : Type} : FunSpec α := back_Fit_sp back_Fit

noncomputable def back_Fit_C {α : Type} : List (FunSpec α) := []

noncomputable def back_Fit_q : FuncId → Bool := fun f => false

noncomputable def back_Fit_inl : FuncId → Bool := fun f => false

noncomputable def back_Fit_ann : FuncId → AnnT := fun f p => ⟨[], [], [], [], 0, [], [], none⟩

noncomputable def back_Fit_loops {α : Type} : List (LoopSpec α) := []

theorem back_Fit_ev {α : Type} : EvOk (α := α) Go.Proofs.Tryd.prog (envOf (back_Fit_C) back_Fit_q back_Fit_inl 1000 back_Fit_ann false (back_Fit_loops) (fun _ => none)) 6 (back_Fit_sp (back_Fit)) := by intro ds k; kernel_rfl

theorem back_Fit_ok {α : Type} : (back_Fit_spec : FunSpec α).ok Go.Proofs.Tryd.prog :=
  FunSpec.ok_of (sp := back_Fit_spec) (C := back_Fit_C) (q := back_Fit_q) (inl := back_Fit_inl) (N := 1000) (ann := back_Fit_ann) (fr := false) (D := 6) (l := (back_Fit_loops)) (hk := (fun _ => none)) okNil lokNil noHooks (back_Fit_ev)

end
end Go.Rv.Tryd

set_option linter.unusedVariables false
set_option maxRecDepth 100000
set_option maxHeartbeats 4000000
namespace Go.Rv.Tryd
open Go Go.Rv Go.RowKit
noncomputable section

-- drayman/outbox.Service

abbrev outbox_Service_T (α : Type) : Type := Int → (Int → Option α) → Option α

noncomputable def outbox_Service {α : Type} (op1 : Int) (k : Int → Option α) : Option α :=
  (cond (op1 == 2)
    (cond (op1 == 2)
      (k 1)
      (cond (op1 == 4)
        (k 2)
        (k 0)))
    (cond (op1 == 6)
      (k 1)
      (cond (op1 == 4)
        (k 2)
        (k 0))))

noncomputable def outbox_Service_sp {α : Type} (outbox_Service : outbox_Service_T α) : FunSpec α := ⟨128, [.int .i64], [], fun ds k => outbox_Service (hdI ds) (fun r1 => k (enc dep (.int .i64) [.i r1]).1 [])⟩

noncomputable def outbox_Service_spec {α : Type} : FunSpec α := outbox_Service_sp outbox_Service

noncomputable def outbox_Service_C {α : Type} : List (FunSpec α) := []

noncomputable def outbox_Service_q : FuncId → Bool := fun f => false

noncomputable def outbox_Service_inl : FuncId → Bool := fun f => false

noncomputable def outbox_Service_ann : FuncId → AnnT := fun f p => ⟨[], [], [], [], 0, [], [], none⟩

noncomputable def outbox_Service_loops {α : Type} : List (LoopSpec α) := []

theorem outbox_Service_ev {α : Type} : EvOk (α := α) Go.Proofs.Tryd.prog (envOf (outbox_Service_C) outbox_Service_q outbox_Service_inl 1000 outbox_Service_ann false (outbox_Service_loops) (fun _ => none)) 6 (outbox_Service_sp (outbox_Service)) := by intro ds k; kernel_rfl

theorem outbox_Service_ok {α : Type} : (outbox_Service_spec : FunSpec α).ok Go.Proofs.Tryd.prog :=
  FunSpec.ok_of (sp := outbox_Service_spec) (C := outbox_Service_C) (q := outbox_Service_q) (inl := outbox_Service_inl) (N := 1000) (ann := outbox_Service_ann) (fr := false) (D := 6) (l := (outbox_Service_loops)) (hk := (fun _ => none)) okNil lokNil noHooks (outbox_Service_ev)

end
end Go.Rv.Tryd

set_option linter.unusedVariables false
set_option maxRecDepth 100000
set_option maxHeartbeats 4000000
namespace Go.Rv.Tryd
open Go Go.Rv Go.RowKit
noncomputable section

-- drayman/step.Outside

abbrev step_Outside_T (α : Type) : Type := Z0 → (Bool → Option α) → Option α

noncomputable def step_Outside_g {α : Type} (outbox_Service : outbox_Service_T α) (s1 : Int × Int × Int × Int × Int × Int × Unit) (k : Bool → Option α) : Option α :=
  (outbox_Service s1.1 fun r2 =>
    (k (r2 != 0)))

noncomputable def step_Outside {α : Type} : step_Outside_T α := step_Outside_g outbox_Service

noncomputable def step_Outside_sp {α : Type} (step_Outside : step_Outside_T α) : FunSpec α := ⟨110, [.agg [.int .i64, .int .i64, .int .i64, .int .i64, .int .i64, .int .i64]], [], fun ds k => step_Outside (hdI ds, hdI ds.tail, hdI ds.tail.tail, hdI ds.tail.tail.tail, hdI ds.tail.tail.tail.tail, hdI ds.tail.tail.tail.tail.tail, ()) (fun r1 => k (enc dep (.bool) [.b r1]).1 [])⟩

noncomputable def step_Outside_spec {α : Type} : FunSpec α := step_Outside_sp step_Outside

noncomputable def step_Outside_C {α : Type} (outbox_Service : outbox_Service_T α) : List (FunSpec α) := [outbox_Service_sp outbox_Service]

noncomputable def step_Outside_q : FuncId → Bool := fun f => Nat.beq f 128

noncomputable def step_Outside_inl : FuncId → Bool := fun f => false

noncomputable def step_Outside_ann : FuncId → AnnT := fun f p => ⟨[], [], [], [], 0, [], [], none⟩

noncomputable def step_Outside_loops {α : Type} (outbox_Service : outbox_Service_T α) : List (LoopSpec α) := []

theorem step_Outside_ev {α : Type} (outbox_Service : outbox_Service_T α) : EvOk (α := α) Go.Proofs.Tryd.prog (envOf (step_Outside_C outbox_Service) step_Outside_q step_Outside_inl 1000 step_Outside_ann false (step_Outside_loops outbox_Service) (fun _ => none)) 6 (step_Outside_sp (step_Outside_g outbox_Service)) := by intro ds k; kernel_rfl

theorem step_Outside_ok {α : Type} : (step_Outside_spec : FunSpec α).ok Go.Proofs.Tryd.prog :=
  FunSpec.ok_of (sp := step_Outside_spec) (C := step_Outside_C outbox_Service) (q := step_Outside_q) (inl := step_Outside_inl) (N := 1000) (ann := step_Outside_ann) (fr := false) (D := 6) (l := (step_Outside_loops outbox_Service)) (hk := (fun _ => none)) (okCons outbox_Service_ok okNil) lokNil noHooks (step_Outside_ev outbox_Service)

end
end Go.Rv.Tryd

set_option linter.unusedVariables false
set_option maxRecDepth 100000
set_option maxHeartbeats 4000000
namespace Go.Rv.Tryd
open Go Go.Rv Go.RowKit
noncomputable section

-- drayman/step.Fit

abbrev step_Fit_T (α : Type) : Type := Z0 → (Bool → Option α) → Option α

noncomputable def step_Fit_g {α : Type} (back_Fit : back_Fit_T α) (step_Outside : step_Outside_T α) (s1 : Int × Int × Int × Int × Int × Int × Unit) (k : Bool → Option α) : Option α :=
  (back_Fit s1.2.2.1 s1.2.2.2.1 s1.2.2.2.2.1 fun r2 =>
    (cond (!(!r2))
      (cond (!(decide (s1.2.2.2.2.2.1 < 0)))
        (cond (decide (s1.2.2.2.2.2.1 > 100))
          (k false)
          (cond (!(decide (s1.2.1 < 1)))
            (cond (!(decide (s1.2.1 > 3)))
              (cond (s1.2.1 == 3)
                (cond (decide (s1.2.2.2.2.2.1 > 0))
                  (k false)
                  (cond (s1.1 == 1)
                    (cond (s1.1 == 1)
                      (k (s1.2.1 == 1))
                      (cond (s1.1 == 5)
                        (k (s1.2.1 != 1))
                        (step_Outside s1 fun r3 =>
                          (k r3))))
                    (cond (s1.1 == 3)
                      (k (s1.2.1 == 1))
                      (cond (s1.1 == 5)
                        (k (s1.2.1 != 1))
                        (step_Outside s1 fun r4 =>
                          (k r4))))))
                (cond (s1.1 == 1)
                  (cond (s1.1 == 1)
                    (k (s1.2.1 == 1))
                    (cond (s1.1 == 5)
                      (k (s1.2.1 != 1))
                      (step_Outside s1 fun r5 =>
                        (k r5))))
                  (cond (s1.1 == 3)
                    (k (s1.2.1 == 1))
                    (cond (s1.1 == 5)
                      (k (s1.2.1 != 1))
                      (step_Outside s1 fun r6 =>
                        (k r6))))))
              (k false))
            (k false)))
        (k false))
      (k false)))

noncomputable def step_Fit {α : Type} : step_Fit_T α := step_Fit_g back_Fit step_Outside

noncomputable def step_Fit_sp {α : Type} (step_Fit : step_Fit_T α) : FunSpec α := ⟨123, [.agg [.int .i64, .int .i64, .int .i64, .int .i64, .int .i64, .int .i64]], [], fun ds k => step_Fit (hdI ds, hdI ds.tail, hdI ds.tail.tail, hdI ds.tail.tail.tail, hdI ds.tail.tail.tail.tail, hdI ds.tail.tail.tail.tail.tail, ()) (fun r1 => k (enc dep (.bool) [.b r1]).1 [])⟩

noncomputable def step_Fit_spec {α : Type} : FunSpec α := step_Fit_sp step_Fit

noncomputable def step_Fit_C {α : Type} (back_Fit : back_Fit_T α) (step_Outside : step_Outside_T α) : List (FunSpec α) := [back_Fit_sp back_Fit, step_Outside_sp step_Outside]

noncomputable def step_Fit_q : FuncId → Bool := fun f => Nat.beq f 110 || Nat.beq f 133

noncomputable def step_Fit_inl : FuncId → Bool := fun f => false

noncomputable def step_Fit_ann : FuncId → AnnT := fun f p => ⟨[], [], [], [], 0, [], [], none⟩

noncomputable def step_Fit_loops {α : Type} (back_Fit : back_Fit_T α) (step_Outside : step_Outside_T α) : List (LoopSpec α) := []

theorem step_Fit_ev {α : Type} (back_Fit : back_Fit_T α) (step_Outside : step_Outside_T α) : EvOk (α := α) Go.Proofs.Tryd.prog (envOf (step_Fit_C back_Fit step_Outside) step_Fit_q step_Fit_inl 1000 step_Fit_ann false (step_Fit_loops back_Fit step_Outside) (fun _ => none)) 6 (step_Fit_sp (step_Fit_g back_Fit step_Outside)) := by intro ds k; kernel_rfl

theorem step_Fit_ok {α : Type} : (step_Fit_spec : FunSpec α).ok Go.Proofs.Tryd.prog :=
  FunSpec.ok_of (sp := step_Fit_spec) (C := step_Fit_C back_Fit step_Outside) (q := step_Fit_q) (inl := step_Fit_inl) (N := 1000) (ann := step_Fit_ann) (fr := false) (D := 6) (l := (step_Fit_loops back_Fit step_Outside)) (hk := (fun _ => none)) (okCons back_Fit_ok (okCons step_Outside_ok okNil)) lokNil noHooks (step_Fit_ev back_Fit step_Outside)

end
end Go.Rv.Tryd

set_option linter.unusedVariables false
set_option maxRecDepth 100000
set_option maxHeartbeats 4000000
namespace Go.Rv.Tryd
open Go Go.Rv Go.RowKit
noncomputable section

-- drayman/def.rules$2$1

abbrev def_rules_2_1_T (α : Type) : Type := Z0 → (Bool → Option α) → Option α

noncomputable def def_rules_2_1_g {α : Type} (step_Fit : step_Fit_T α) (s1 : Int × Int × Int × Int × Int × Int × Unit) (k : Bool → Option α) : Option α :=
  (step_Fit s1 fun r2 =>
    (k (!r2)))

noncomputable def def_rules_2_1 {α : Type} : def_rules_2_1_T α := def_rules_2_1_g step_Fit

noncomputable def def_rules_2_1_sp {α : Type} (def_rules_2_1 : def_rules_2_1_T α) : FunSpec α := ⟨122, [.agg [.int .i64, .int .i64, .int .i64, .int .i64, .int .i64, .int .i64]], [], fun ds k => def_rules_2_1 (hdI ds, hdI ds.tail, hdI ds.tail.tail, hdI ds.tail.tail.tail, hdI ds.tail.tail.tail.tail, hdI ds.tail.tail.tail.tail.tail, ()) (fun r1 => k (enc dep (.bool) [.b r1]).1 [])⟩

noncomputable def def_rules_2_1_spec {α : Type} : FunSpec α := def_rules_2_1_sp def_rules_2_1

noncomputable def def_rules_2_1_C {α : Type} (step_Fit : step_Fit_T α) : List (FunSpec α) := [step_Fit_sp step_Fit]

noncomputable def def_rules_2_1_q : FuncId → Bool := fun f => Nat.beq f 123

noncomputable def def_rules_2_1_inl : FuncId → Bool := fun f => false

noncomputable def def_rules_2_1_ann : FuncId → AnnT := fun f p => ⟨[], [], [], [], 0, [], [], none⟩

noncomputable def def_rules_2_1_loops {α : Type} (step_Fit : step_Fit_T α) : List (LoopSpec α) := []

theorem def_rules_2_1_ev {α : Type} (step_Fit : step_Fit_T α) : EvOk (α := α) Go.Proofs.Tryd.prog (envOf (def_rules_2_1_C step_Fit) def_rules_2_1_q def_rules_2_1_inl 1000 def_rules_2_1_ann false (def_rules_2_1_loops step_Fit) (fun _ => none)) 6 (def_rules_2_1_sp (def_rules_2_1_g step_Fit)) := by intro ds k; kernel_rfl

theorem def_rules_2_1_ok {α : Type} : (def_rules_2_1_spec : FunSpec α).ok Go.Proofs.Tryd.prog :=
  FunSpec.ok_of (sp := def_rules_2_1_spec) (C := def_rules_2_1_C step_Fit) (q := def_rules_2_1_q) (inl := def_rules_2_1_inl) (N := 1000) (ann := def_rules_2_1_ann) (fr := false) (D := 6) (l := (def_rules_2_1_loops step_Fit)) (hk := (fun _ => none)) (okCons step_Fit_ok okNil) lokNil noHooks (def_rules_2_1_ev step_Fit)

end
end Go.Rv.Tryd

set_option linter.unusedVariables false
set_option maxRecDepth 100000
set_option maxHeartbeats 4000000
namespace Go.Rv.Tryd
open Go Go.Rv Go.RowKit
noncomputable section

-- slices.IndexFunc[[]drayman/api.Step,drayman/api.Step]

abbrev slices_IndexFunc_api_Step_api_Step_T (α : Type) : Type := (Seq Z0) → (Int → Option α) → Option α

noncomputable def slices_IndexFunc_api_Step_api_Step_l0_step {α : Type} (def_rules_2_1 : def_rules_2_1_T α) (kr : (Int) → Option α) (k0 : Option α) (rec : (Seq Z0) → (Int) → (Int) → Option α) (s2 : Seq Z0) (x3 : Int) (x4 : Int) : Option α :=
  (cond (decide (x4 < x3))
    (cond ((decide ((0 : Int) ≤ x4)) && (decide (x4 < (s2.n : Int))))
      (def_rules_2_1 (s2.g x4.toNat) fun r5 =>
        (cond r5
          (kr x4)
          (rec s2 x3 (IntKind.i64.wrap (x4 + 1)))))
      none)
    (k0))

noncomputable def slices_IndexFunc_api_Step_api_Step_l0_run {α : Type} (def_rules_2_1 : def_rules_2_1_T α) (kr : (Int) → Option α) (k0 : Option α) : Nat → (Seq Z0) → (Int) → (Int) → Option α
  | 0, _, _, _ => none
  | n + 1, s2, x3, x4 => slices_IndexFunc_api_Step_api_Step_l0_step def_rules_2_1 kr k0 (fun s2 x3 x4 => slices_IndexFunc_api_Step_api_Step_l0_run def_rules_2_1 kr k0 n s2 x3 x4) s2 x3 x4

noncomputable def slices_IndexFunc_api_Step_api_Step_g {α : Type} (def_rules_2_1 : def_rules_2_1_T α) (s1 : Seq Z0) (k : Int → Option α) : Option α :=
  (slices_IndexFunc_api_Step_api_Step_l0_run def_rules_2_1
    (fun x6 =>
      (k x6))
    ((k (-1)))
    1000 s1 (s1.n : Int) 0)

noncomputable def slices_IndexFunc_api_Step_api_Step {α : Type} : slices_IndexFunc_api_Step_api_Step_T α := slices_IndexFunc_api_Step_api_Step_g def_rules_2_1

noncomputable def slices_IndexFunc_api_Step_api_Step_sp {α : Type} (slices_IndexFunc_api_Step_api_Step : slices_IndexFunc_api_Step_api_Step_T α) : FunSpec α := ⟨108, [.sl (.int .i64 (.int .i64 (.int .i64 (.int .i64 (.int .i64 (.int .i64 (.nil))))))), .func (.func 122) [] []], [], fun ds k => slices_IndexFunc_api_Step_api_Step (hdQ (.int .i64 (.int .i64 (.int .i64 (.int .i64 (.int .i64 (.int .i64 (.nil))))))) ds) (fun r1 => k (enc dep (.int .i64) [.i r1]).1 [])⟩

noncomputable def slices_IndexFunc_api_Step_api_Step_spec {α : Type} : FunSpec α := slices_IndexFunc_api_Step_api_Step_sp slices_IndexFunc_api_Step_api_Step

noncomputable def slices_IndexFunc_api_Step_api_Step_C {α : Type} (def_rules_2_1 : def_rules_2_1_T α) : List (FunSpec α) := [def_rules_2_1_sp def_rules_2_1]

noncomputable def slices_IndexFunc_api_Step_api_Step_q : FuncId → Bool := fun f => Nat.beq f 122

noncomputable def slices_IndexFunc_api_Step_api_Step_inl : FuncId → Bool := fun f => false

noncomputable def slices_IndexFunc_api_Step_api_Step_ann : FuncId → AnnT := fun f p => if f = 108 then (if p = [true, false, true] then ⟨[0, 1, 7, 8], [], [], [4], 0, [], [], none⟩ else ⟨[], [], [], [], 0, [], [], none⟩) else ⟨[], [], [], [], 0, [], [], none⟩

noncomputable def slices_IndexFunc_api_Step_api_Step_l0_t : List Sh := [.sl (.int .i64 (.int .i64 (.int .i64 (.int .i64 (.int .i64 (.int .i64 (.nil))))))), .func (.func 122) [] [], .dead, .dead, .dead, .dead, .dead, .int .i64, .int .i64, .dead, .dead, .dead, .dead, .dead, .dead, .dead, .dead, .dead, .dead]
noncomputable def slices_IndexFunc_api_Step_api_Step_l0_s : List (List Sh) := []
noncomputable def slices_IndexFunc_api_Step_api_Step_l0_h : List BSh := []

noncomputable def slices_IndexFunc_api_Step_api_Step_l0_spec {α : Type} (def_rules_2_1 : def_rules_2_1_T α) : LoopSpec α := ⟨6, 108, [true, false, true], slices_IndexFunc_api_Step_api_Step_l0_t, slices_IndexFunc_api_Step_api_Step_l0_s, slices_IndexFunc_api_Step_api_Step_l0_h, fun ds k => slices_IndexFunc_api_Step_api_Step_l0_run def_rules_2_1 (fun y1 => k .ret (encSt [.dead, .dead, .dead, .dead, .int .i64, .dead, .dead, .dead, .dead, .dead, .dead, .dead, .dead, .dead, .dead, .dead, .dead, .dead, .dead] [] [] [.i y1])) (k (.exit 0) (encSt [.dead, .dead, .dead, .dead, .dead, .dead, .dead, .dead, .dead, .dead, .dead, .dead, .dead, .dead, .dead, .dead, .dead, .dead, .dead] [] [] [])) 1000 (hdQ (.int .i64 (.int .i64 (.int .i64 (.int .i64 (.int .i64 (.int .i64 (.nil))))))) ds) (hdI ds.tail) (hdI ds.tail.tail)⟩

noncomputable def slices_IndexFunc_api_Step_api_Step_loops {α : Type} (def_rules_2_1 : def_rules_2_1_T α) : List (LoopSpec α) := [slices_IndexFunc_api_Step_api_Step_l0_spec def_rules_2_1]

noncomputable def slices_IndexFunc_api_Step_api_Step_l0_ev {α : Type} (def_rules_2_1 : def_rules_2_1_T α) (n : Nat) (st : St) (k : X → St → Option α) : Option α := loopN (evCode Go.Proofs.Tryd.prog (callD Go.Proofs.Tryd.prog (envOf (slices_IndexFunc_api_Step_api_Step_C def_rules_2_1) slices_IndexFunc_api_Step_api_Step_q slices_IndexFunc_api_Step_api_Step_inl 1000 slices_IndexFunc_api_Step_api_Step_ann false (slices_IndexFunc_api_Step_api_Step_loops def_rules_2_1) (fun _ => none)) 6) (((envOf (slices_IndexFunc_api_Step_api_Step_C def_rules_2_1) slices_IndexFunc_api_Step_api_Step_q slices_IndexFunc_api_Step_api_Step_inl 1000 slices_IndexFunc_api_Step_api_Step_ann false (slices_IndexFunc_api_Step_api_Step_loops def_rules_2_1) (fun _ => none)) : Env α).L 6 108) 1000 (slices_IndexFunc_api_Step_api_Step_ann 108) (false :: [true, false, true]) (loopC Go.Proofs.Tryd.prog 108 [true, false, true])) ((slices_IndexFunc_api_Step_api_Step_ann 108 [true, false, true]).head 0) ((slices_IndexFunc_api_Step_api_Step_ann 108 [true, false, true]).leave 0) n st k

theorem slices_IndexFunc_api_Step_api_Step_l0_eq {α : Type} (def_rules_2_1 : def_rules_2_1_T α) : ∀ (n : Nat) (s2 : Seq Z0) (x3 : Int) (x4 : Int) (k : X → St → Option α), slices_IndexFunc_api_Step_api_Step_l0_ev def_rules_2_1 n (encSt slices_IndexFunc_api_Step_api_Step_l0_t slices_IndexFunc_api_Step_api_Step_l0_s slices_IndexFunc_api_Step_api_Step_l0_h [.q (.int .i64 (.int .i64 (.int .i64 (.int .i64 (.int .i64 (.int .i64 (.nil))))))) s2, .i x3, .i x4]) k = slices_IndexFunc_api_Step_api_Step_l0_run def_rules_2_1 (fun y1 => k .ret (encSt [.dead, .dead, .dead, .dead, .int .i64, .dead, .dead, .dead, .dead, .dead, .dead, .dead, .dead, .dead, .dead, .dead, .dead, .dead, .dead] [] [] [.i y1])) (k (.exit 0) (encSt [.dead, .dead, .dead, .dead, .dead, .dead, .dead, .dead, .dead, .dead, .dead, .dead, .dead, .dead, .dead, .dead, .dead, .dead, .dead] [] [] [])) n s2 x3 x4 := by
  intro n
  induction n with
  | zero => intros; kernel_rfl
  | succ n ih =>
    intro s2 x3 x4 k
    have e : (fun (s2 : Seq Z0) (x3 : Int) (x4 : Int) => slices_IndexFunc_api_Step_api_Step_l0_ev def_rules_2_1 n (encSt slices_IndexFunc_api_Step_api_Step_l0_t slices_IndexFunc_api_Step_api_Step_l0_s slices_IndexFunc_api_Step_api_Step_l0_h [.q (.int .i64 (.int .i64 (.int .i64 (.int .i64 (.int .i64 (.int .i64 (.nil))))))) s2, .i x3, .i x4]) k) = (fun (s2 : Seq Z0) (x3 : Int) (x4 : Int) => slices_IndexFunc_api_Step_api_Step_l0_run def_rules_2_1 (fun y1 => k .ret (encSt [.dead, .dead, .dead, .dead, .int .i64, .dead, .dead, .dead, .dead, .dead, .dead, .dead, .dead, .dead, .dead, .dead, .dead, .dead, .dead] [] [] [.i y1])) (k (.exit 0) (encSt [.dead, .dead, .dead, .dead, .dead, .dead, .dead, .dead, .dead, .dead, .dead, .dead, .dead, .dead, .dead, .dead, .dead, .dead, .dead] [] [] [])) n s2 x3 x4) := by
      funext s2 x3 x4
      exact ih s2 x3 x4 k
    have h1 : slices_IndexFunc_api_Step_api_Step_l0_ev def_rules_2_1 (n + 1) (encSt slices_IndexFunc_api_Step_api_Step_l0_t slices_IndexFunc_api_Step_api_Step_l0_s slices_IndexFunc_api_Step_api_Step_l0_h [.q (.int .i64 (.int .i64 (.int .i64 (.int .i64 (.int .i64 (.int .i64 (.nil))))))) s2, .i x3, .i x4]) k = slices_IndexFunc_api_Step_api_Step_l0_step def_rules_2_1 (fun y1 => k .ret (encSt [.dead, .dead, .dead, .dead, .int .i64, .dead, .dead, .dead, .dead, .dead, .dead, .dead, .dead, .dead, .dead, .dead, .dead, .dead, .dead] [] [] [.i y1])) (k (.exit 0) (encSt [.dead, .dead, .dead, .dead, .dead, .dead, .dead, .dead, .dead, .dead, .dead, .dead, .dead, .dead, .dead, .dead, .dead, .dead, .dead] [] [] [])) (fun (s2 : Seq Z0) (x3 : Int) (x4 : Int) => slices_IndexFunc_api_Step_api_Step_l0_ev def_rules_2_1 n (encSt slices_IndexFunc_api_Step_api_Step_l0_t slices_IndexFunc_api_Step_api_Step_l0_s slices_IndexFunc_api_Step_api_Step_l0_h [.q (.int .i64 (.int .i64 (.int .i64 (.int .i64 (.int .i64 (.int .i64 (.nil))))))) s2, .i x3, .i x4]) k) s2 x3 x4 := by kernel_rfl
    have h2 := congrArg (fun r => slices_IndexFunc_api_Step_api_Step_l0_step def_rules_2_1 (fun y1 => k .ret (encSt [.dead, .dead, .dead, .dead, .int .i64, .dead, .dead, .dead, .dead, .dead, .dead, .dead, .dead, .dead, .dead, .dead, .dead, .dead, .dead] [] [] [.i y1])) (k (.exit 0) (encSt [.dead, .dead, .dead, .dead, .dead, .dead, .dead, .dead, .dead, .dead, .dead, .dead, .dead, .dead, .dead, .dead, .dead, .dead, .dead] [] [] [])) r s2 x3 x4) e
    have h3 : slices_IndexFunc_api_Step_api_Step_l0_step def_rules_2_1 (fun y1 => k .ret (encSt [.dead, .dead, .dead, .dead, .int .i64, .dead, .dead, .dead, .dead, .dead, .dead, .dead, .dead, .dead, .dead, .dead, .dead, .dead, .dead] [] [] [.i y1])) (k (.exit 0) (encSt [.dead, .dead, .dead, .dead, .dead, .dead, .dead, .dead, .dead, .dead, .dead, .dead, .dead, .dead, .dead, .dead, .dead, .dead, .dead] [] [] [])) (fun (s2 : Seq Z0) (x3 : Int) (x4 : Int) => slices_IndexFunc_api_Step_api_Step_l0_run def_rules_2_1 (fun y1 => k .ret (encSt [.dead, .dead, .dead, .dead, .int .i64, .dead, .dead, .dead, .dead, .dead, .dead, .dead, .dead, .dead, .dead, .dead, .dead, .dead, .dead] [] [] [.i y1])) (k (.exit 0) (encSt [.dead, .dead, .dead, .dead, .dead, .dead, .dead, .dead, .dead, .dead, .dead, .dead, .dead, .dead, .dead, .dead, .dead, .dead, .dead] [] [] [])) n s2 x3 x4) s2 x3 x4 = slices_IndexFunc_api_Step_api_Step_l0_run def_rules_2_1 (fun y1 => k .ret (encSt [.dead, .dead, .dead, .dead, .int .i64, .dead, .dead, .dead, .dead, .dead, .dead, .dead, .dead, .dead, .dead, .dead, .dead, .dead, .dead] [] [] [.i y1])) (k (.exit 0) (encSt [.dead, .dead, .dead, .dead, .dead, .dead, .dead, .dead, .dead, .dead, .dead, .dead, .dead, .dead, .dead, .dead, .dead, .dead, .dead] [] [] [])) (n + 1) s2 x3 x4 := by kernel_rfl
    exact h1.trans (h2.trans h3)

theorem slices_IndexFunc_api_Step_api_Step_l0_ok {α : Type} (def_rules_2_1 : def_rules_2_1_T α) : (slices_IndexFunc_api_Step_api_Step_l0_spec def_rules_2_1 : LoopSpec α).ok Go.Proofs.Tryd.prog (envOf (slices_IndexFunc_api_Step_api_Step_C def_rules_2_1) slices_IndexFunc_api_Step_api_Step_q slices_IndexFunc_api_Step_api_Step_inl 1000 slices_IndexFunc_api_Step_api_Step_ann false (slices_IndexFunc_api_Step_api_Step_loops def_rules_2_1) (fun _ => none)) := by
  intro ds k
  have h1 : slices_IndexFunc_api_Step_api_Step_l0_ev def_rules_2_1 1000 (encSt slices_IndexFunc_api_Step_api_Step_l0_t slices_IndexFunc_api_Step_api_Step_l0_s slices_IndexFunc_api_Step_api_Step_l0_h ds) k = slices_IndexFunc_api_Step_api_Step_l0_ev def_rules_2_1 1000 (encSt slices_IndexFunc_api_Step_api_Step_l0_t slices_IndexFunc_api_Step_api_Step_l0_s slices_IndexFunc_api_Step_api_Step_l0_h [.q (.int .i64 (.int .i64 (.int .i64 (.int .i64 (.int .i64 (.int .i64 (.nil))))))) (hdQ (.int .i64 (.int .i64 (.int .i64 (.int .i64 (.int .i64 (.int .i64 (.nil))))))) ds), .i (hdI ds.tail), .i (hdI ds.tail.tail)]) k := by kernel_rfl
  have h2 := slices_IndexFunc_api_Step_api_Step_l0_eq def_rules_2_1 1000 (hdQ (.int .i64 (.int .i64 (.int .i64 (.int .i64 (.int .i64 (.int .i64 (.nil))))))) ds) (hdI ds.tail) (hdI ds.tail.tail) k
  exact h1.trans h2

theorem slices_IndexFunc_api_Step_api_Step_ev {α : Type} (def_rules_2_1 : def_rules_2_1_T α) : EvOk (α := α) Go.Proofs.Tryd.prog (envOf (slices_IndexFunc_api_Step_api_Step_C def_rules_2_1) slices_IndexFunc_api_Step_api_Step_q slices_IndexFunc_api_Step_api_Step_inl 1000 slices_IndexFunc_api_Step_api_Step_ann false (slices_IndexFunc_api_Step_api_Step_loops def_rules_2_1) (fun _ => none)) 6 (slices_IndexFunc_api_Step_api_Step_sp (slices_IndexFunc_api_Step_api_Step_g def_rules_2_1)) := by intro ds k; kernel_rfl

theorem slices_IndexFunc_api_Step_api_Step_ok {α : Type} : (slices_IndexFunc_api_Step_api_Step_spec : FunSpec α).ok Go.Proofs.Tryd.prog :=
  FunSpec.ok_of (sp := slices_IndexFunc_api_Step_api_Step_spec) (C := slices_IndexFunc_api_Step_api_Step_C def_rules_2_1) (q := slices_IndexFunc_api_Step_api_Step_q) (inl := slices_IndexFunc_api_Step_api_Step_inl) (N := 1000) (ann := slices_IndexFunc_api_Step_api_Step_ann) (fr := false) (D := 6) (l := (slices_IndexFunc_api_Step_api_Step_loops def_rules_2_1)) (hk := (fun _ => none)) (okCons def_rules_2_1_ok okNil) (lokCons (slices_IndexFunc_api_Step_api_Step_l0_ok def_rules_2_1) lokNil) noHooks (slices_IndexFunc_api_Step_api_Step_ev def_rules_2_1)

end
end Go.Rv.Tryd

set_option linter.unusedVariables false
set_option maxRecDepth 100000
set_option maxHeartbeats 4000000
namespace Go.Rv.Tryd
open Go Go.Rv Go.RowKit
noncomputable section

-- slices.ContainsFunc[[]drayman/api.Step,drayman/api.Step]

abbrev slices_ContainsFunc_api_Step_api_Step_T (α : Type) : Type := (Seq Z0) → (Bool → Option α) → Option α

noncomputable def slices_ContainsFunc_api_Step_api_Step_g {α : Type} (slices_IndexFunc_api_Step_api_Step : slices_IndexFunc_api_Step_api_Step_T α) (s1 : Seq Z0) (k : Bool → Option α) : Option α :=
  (slices_IndexFunc_api_Step_api_Step s1 fun r2 =>
    (k (decide (r2 ≥ 0))))

noncomputable def slices_ContainsFunc_api_Step_api_Step {α : Type} : slices_ContainsFunc_api_Step_api_Step_T α := slices_ContainsFunc_api_Step_api_Step_g slices_IndexFunc_api_Step_api_Step

noncomputable def slices_ContainsFunc_api_Step_api_Step_sp {α : Type} (slices_ContainsFunc_api_Step_api_Step : slices_ContainsFunc_api_Step_api_Step_T α) : FunSpec α := ⟨121, [.sl (.int .i64 (.int .i64 (.int .i64 (.int .i64 (.int .i64 (.int .i64 (.nil))))))), .func (.func 122) [] []], [], fun ds k => slices_ContainsFunc_api_Step_api_Step (hdQ (.int .i64 (.int .i64 (.int .i64 (.int .i64 (.int .i64 (.int .i64 (.nil))))))) ds) (fun r1 => k (enc dep (.bool) [.b r1]).1 [])⟩

noncomputable def slices_ContainsFunc_api_Step_api_Step_spec {α : Type} : FunSpec α := slices_ContainsFunc_api_Step_api_Step_sp slices_ContainsFunc_api_Step_api_Step

noncomputable def slices_ContainsFunc_api_Step_api_Step_C {α : Type} (slices_IndexFunc_api_Step_api_Step : slices_IndexFunc_api_Step_api_Step_T α) : List (FunSpec α) := [slices_IndexFunc_api_Step_api_Step_sp slices_IndexFunc_api_Step_api_Step]

noncomputable def slices_ContainsFunc_api_Step_api_Step_q : FuncId → Bool := fun f => Nat.beq f 108

noncomputable def slices_ContainsFunc_api_Step_api_Step_inl : FuncId → Bool := fun f => false

noncomputable def slices_ContainsFunc_api_Step_api_Step_ann : FuncId → AnnT := fun f p => ⟨[], [], [], [], 0, [], [], none⟩

noncomputable def slices_ContainsFunc_api_Step_api_Step_loops {α : Type} (slices_IndexFunc_api_Step_api_Step : slices_IndexFunc_api_Step_api_Step_T α) : List (LoopSpec α) := []

theorem slices_ContainsFunc_api_Step_api_Step_ev {α : Type} (slices_IndexFunc_api_Step_api_Step : slices_IndexFunc_api_Step_api_Step_T α) : EvOk (α := α) Go.Proofs.Tryd.prog (envOf (slices_ContainsFunc_api_Step_api_Step_C slices_IndexFunc_api_Step_api_Step) slices_ContainsFunc_api_Step_api_Step_q slices_ContainsFunc_api_Step_api_Step_inl 1000 slices_ContainsFunc_api_Step_api_Step_ann false (slices_ContainsFunc_api_Step_api_Step_loops slices_IndexFunc_api_Step_api_Step) (fun _ => none)) 6 (slices_ContainsFunc_api_Step_api_Step_sp (slices_ContainsFunc_api_Step_api_Step_g slices_IndexFunc_api_Step_api_Step)) := by intro ds k; kernel_rfl

theorem slices_ContainsFunc_api_Step_api_Step_ok {α : Type} : (slices_ContainsFunc_api_Step_api_Step_spec : FunSpec α).ok Go.Proofs.Tryd.prog :=
  FunSpec.ok_of (sp := slices_ContainsFunc_api_Step_api_Step_spec) (C := slices_ContainsFunc_api_Step_api_Step_C slices_IndexFunc_api_Step_api_Step) (q := slices_ContainsFunc_api_Step_api_Step_q) (inl := slices_ContainsFunc_api_Step_api_Step_inl) (N := 1000) (ann := slices_ContainsFunc_api_Step_api_Step_ann) (fr := false) (D := 6) (l := (slices_ContainsFunc_api_Step_api_Step_loops slices_IndexFunc_api_Step_api_Step)) (hk := (fun _ => none)) (okCons slices_IndexFunc_api_Step_api_Step_ok okNil) lokNil noHooks (slices_ContainsFunc_api_Step_api_Step_ev slices_IndexFunc_api_Step_api_Step)

end
end Go.Rv.Tryd

set_option linter.unusedVariables false
set_option maxRecDepth 100000
set_option maxHeartbeats 4000000
namespace Go.Rv.Tryd
open Go Go.Rv Go.RowKit
noncomputable section

-- drayman/def.rules$2

abbrev def_rules_2_T (α : Type) : Type := (ByteArray × (Seq Z0) × Unit) → (Bool → Option α) → Option α

noncomputable def def_rules_2_g {α : Type} (slices_ContainsFunc_api_Step_api_Step : slices_ContainsFunc_api_Step_api_Step_T α) (d1 : ByteArray × (Seq Z0) × Unit) (k : Bool → Option α) : Option α :=
  (slices_ContainsFunc_api_Step_api_Step d1.2.1 fun r2 =>
    (k (!r2)))

noncomputable def def_rules_2 {α : Type} : def_rules_2_T α := def_rules_2_g slices_ContainsFunc_api_Step_api_Step

noncomputable def def_rules_2_sp {α : Type} (def_rules_2 : def_rules_2_T α) : FunSpec α := ⟨120, [.agg [.str, .sl (.int .i64 (.int .i64 (.int .i64 (.int .i64 (.int .i64 (.int .i64 (.nil)))))))]], [], fun ds k => def_rules_2 (hdS ds, hdQ (.int .i64 (.int .i64 (.int .i64 (.int .i64 (.int .i64 (.int .i64 (.nil))))))) ds.tail, ()) (fun r1 => k (enc dep (.bool) [.b r1]).1 [])⟩

noncomputable def def_rules_2_spec {α : Type} : FunSpec α := def_rules_2_sp def_rules_2

noncomputable def def_rules_2_C {α : Type} (slices_ContainsFunc_api_Step_api_Step : slices_ContainsFunc_api_Step_api_Step_T α) : List (FunSpec α) := [slices_ContainsFunc_api_Step_api_Step_sp slices_ContainsFunc_api_Step_api_Step]

noncomputable def def_rules_2_q : FuncId → Bool := fun f => Nat.beq f 121

noncomputable def def_rules_2_inl : FuncId → Bool := fun f => false

noncomputable def def_rules_2_ann : FuncId → AnnT := fun f p => ⟨[], [], [], [], 0, [], [], none⟩

noncomputable def def_rules_2_loops {α : Type} (slices_ContainsFunc_api_Step_api_Step : slices_ContainsFunc_api_Step_api_Step_T α) : List (LoopSpec α) := []

theorem def_rules_2_ev {α : Type} (slices_ContainsFunc_api_Step_api_Step : slices_ContainsFunc_api_Step_api_Step_T α) : EvOk (α := α) Go.Proofs.Tryd.prog (envOf (def_rules_2_C slices_ContainsFunc_api_Step_api_Step) def_rules_2_q def_rules_2_inl 1000 def_rules_2_ann false (def_rules_2_loops slices_ContainsFunc_api_Step_api_Step) (fun _ => none)) 6 (def_rules_2_sp (def_rules_2_g slices_ContainsFunc_api_Step_api_Step)) := by intro ds k; kernel_rfl

theorem def_rules_2_ok {α : Type} : (def_rules_2_spec : FunSpec α).ok Go.Proofs.Tryd.prog :=
  FunSpec.ok_of (sp := def_rules_2_spec) (C := def_rules_2_C slices_ContainsFunc_api_Step_api_Step) (q := def_rules_2_q) (inl := def_rules_2_inl) (N := 1000) (ann := def_rules_2_ann) (fr := false) (D := 6) (l := (def_rules_2_loops slices_ContainsFunc_api_Step_api_Step)) (hk := (fun _ => none)) (okCons slices_ContainsFunc_api_Step_api_Step_ok okNil) lokNil noHooks (def_rules_2_ev slices_ContainsFunc_api_Step_api_Step)

end
end Go.Rv.Tryd

set_option linter.unusedVariables false
set_option maxRecDepth 100000
set_option maxHeartbeats 4000000
namespace Go.Rv.Tryd
open Go Go.Rv Go.RowKit
noncomputable section

-- drayman/def.rules$3

abbrev def_rules_3_T (α : Type) : Type := (ByteArray × (Seq Z0) × Unit) → (Bool → Option α) → Option α

noncomputable def def_rules_3_l0_step {α : Type} (def_Place : def_Place_T α) (kr : (Bool) → (ByteArray × (Seq Z0) × Unit) → Option α) (k0 : (ByteArray × (Seq Z0) × Unit) → Option α) (rec : (Seq Z0) → (Int) → (Int) → (ByteArray × (Seq Z0) × Unit) → Option α) (x2 : Seq Z0) (x3 : Int) (x4 : Int) (x5 : ByteArray × (Seq Z0) × Unit) : Option α :=
  (cond (decide (x4 < x3))
    (cond ((decide ((0 : Int) ≤ x4)) && (decide (x4 < (x2.n : Int))))
      (def_Place x5 ((x2.g x4.toNat).1) fun r6 =>
        (cond (r6 != x4)
          (kr false x5)
          (rec x2 x3 (IntKind.i64.wrap (x4 + 1)) x5)))
      none)
    (k0 x5))

noncomputable def def_rules_3_l0_run {α : Type} (def_Place : def_Place_T α) (kr : (Bool) → (ByteArray × (Seq Z0) × Unit) → Option α) (k0 : (ByteArray × (Seq Z0) × Unit) → Option α) : Nat → (Seq Z0) → (Int) → (Int) → (ByteArray × (Seq Z0) × Unit) → Option α
  | 0, _, _, _, _ => none
  | n + 1, x2, x3, x4, x5 => def_rules_3_l0_step def_Place kr k0 (fun x2 x3 x4 x5 => def_rules_3_l0_run def_Place kr k0 n x2 x3 x4 x5) x2 x3 x4 x5

noncomputable def def_rules_3_g {α : Type} (def_Place : def_Place_T α) (d1 : ByteArray × (Seq Z0) × Unit) (k : Bool → Option α) : Option α :=
  (def_rules_3_l0_run def_Place
    (fun x7 x8 =>
      (k x7))
    (fun x9 =>
      (k true))
    1000 d1.2.1 (d1.2.1.n : Int) 0 d1)

noncomputable def def_rules_3 {α : Type} : def_rules_3_T α := def_rules_3_g def_Place

noncomputable def def_rules_3_sp {α : Type} (def_rules_3 : def_rules_3_T α) : FunSpec α := ⟨124, [.agg [.str, .sl (.int .i64 (.int .i64 (.int .i64 (.int .i64 (.int .i64 (.int .i64 (.nil)))))))]], [], fun ds k => def_rules_3 (hdS ds, hdQ (.int .i64 (.int .i64 (.int .i64 (.int .i64 (.int .i64 (.int .i64 (.nil))))))) ds.tail, ()) (fun r1 => k (enc dep (.bool) [.b r1]).1 [])⟩

noncomputable def def_rules_3_spec {α : Type} : FunSpec α := def_rules_3_sp def_rules_3

noncomputable def def_rules_3_C {α : Type} (def_Place : def_Place_T α) : List (FunSpec α) := [def_Place_sp def_Place]

noncomputable def def_rules_3_q : FuncId → Bool := fun f => Nat.beq f 76

noncomputable def def_rules_3_inl : FuncId → Bool := fun f => false

noncomputable def def_rules_3_ann : FuncId → AnnT := fun f p => if f = 124 then (if p = [true, false, true] then ⟨[1, 6, 7, 8], [], [], [2], 0, [], [], none⟩ else ⟨[], [], [], [], 0, [], [], none⟩) else ⟨[], [], [], [], 0, [], [], none⟩

noncomputable def def_rules_3_l0_t : List Sh := [.dead, .ref 0 0, .dead, .dead, .dead, .dead, .sl (.int .i64 (.int .i64 (.int .i64 (.int .i64 (.int .i64 (.int .i64 (.nil))))))), .int .i64, .int .i64, .dead, .dead, .dead, .dead, .dead, .dead, .dead, .dead, .dead, .dead, .dead]
noncomputable def def_rules_3_l0_s : List (List Sh) := []
noncomputable def def_rules_3_l0_h : List BSh := [.box [.str, .sl (.int .i64 (.int .i64 (.int .i64 (.int .i64 (.int .i64 (.int .i64 (.nil)))))))]]

noncomputable def def_rules_3_l0_spec {α : Type} (def_Place : def_Place_T α) : LoopSpec α := ⟨6, 124, [true, false, true], def_rules_3_l0_t, def_rules_3_l0_s, def_rules_3_l0_h, fun ds k => def_rules_3_l0_run def_Place (fun y1 y2 => k .ret (encSt [.dead, .dead, .bool, .dead, .dead, .dead, .dead, .dead, .dead, .dead, .dead, .dead, .dead, .dead, .dead, .dead, .dead, .dead, .dead, .dead] [] [.box [.str, .sl (.int .i64 (.int .i64 (.int .i64 (.int .i64 (.int .i64 (.int .i64 (.nil)))))))]] [.b y1, .s y2.1, .q (.int .i64 (.int .i64 (.int .i64 (.int .i64 (.int .i64 (.int .i64 (.nil))))))) y2.2.1])) (fun y1 => k (.exit 0) (encSt [.dead, .dead, .dead, .dead, .dead, .dead, .dead, .dead, .dead, .dead, .dead, .dead, .dead, .dead, .dead, .dead, .dead, .dead, .dead, .dead] [] [.box [.str, .sl (.int .i64 (.int .i64 (.int .i64 (.int .i64 (.int .i64 (.int .i64 (.nil)))))))]] [.s y1.1, .q (.int .i64 (.int .i64 (.int .i64 (.int .i64 (.int .i64 (.int .i64 (.nil))))))) y1.2.1])) 1000 (hdQ (.int .i64 (.int .i64 (.int .i64 (.int .i64 (.int .i64 (.int .i64 (.nil))))))) ds) (hdI ds.tail) (hdI ds.tail.tail) (hdS ds.tail.tail.tail, hdQ (.int .i64 (.int .i64 (.int .i64 (.int .i64 (.int .i64 (.int .i64 (.nil))))))) ds.tail.tail.tail.tail, ())⟩

noncomputable def def_rules_3_loops {α : Type} (def_Place : def_Place_T α) : List (LoopSpec α) := [def_rules_3_l0_spec def_Place]

noncomputable def def_rules_3_l0_ev {α : Type} (def_Place : def_Place_T α) (n : Nat) (st : St) (k : X → St → Option α) : Option α := loopN (evCode Go.Proofs.Tryd.prog (callD Go.Proofs.Tryd.prog (envOf (def_rules_3_C def_Place) def_rules_3_q def_rules_3_inl 1000 def_rules_3_ann false (def_rules_3_loops def_Place) (fun _ => none)) 6) (((envOf (def_rules_3_C def_Place) def_rules_3_q def_rules_3_inl 1000 def_rules_3_ann false (def_rules_3_loops def_Place) (fun _ => none)) : Env α).L 6 124) 1000 (def_rules_3_ann 124) (false :: [true, false, true]) (loopC Go.Proofs.Tryd.prog 124 [true, false, true])) ((def_rules_3_ann 124 [true, false, true]).head 1) ((def_rules_3_ann 124 [true, false, true]).leave 1) n st k

theorem def_rules_3_l0_eq {α : Type} (def_Place : def_Place_T α) : ∀ (n : Nat) (x2 : Seq Z0) (x3 : Int) (x4 : Int) (x5 : ByteArray × (Seq Z0) × Unit) (k : X → St → Option α), def_rules_3_l0_ev def_Place n (encSt def_rules_3_l0_t def_rules_3_l0_s def_rules_3_l0_h [.q (.int .i64 (.int .i64 (.int .i64 (.int .i64 (.int .i64 (.int .i64 (.nil))))))) x2, .i x3, .i x4, .s x5.1, .q (.int .i64 (.int .i64 (.int .i64 (.int .i64 (.int .i64 (.int .i64 (.nil))))))) x5.2.1]) k = def_rules_3_l0_run def_Place (fun y1 y2 => k .ret (encSt [.dead, .dead, .bool, .dead, .dead, .dead, .dead, .dead, .dead, .dead, .dead, .dead, .dead, .dead, .dead, .dead, .dead, .dead, .dead, .dead] [] [.box [.str, .sl (.int .i64 (.int .i64 (.int .i64 (.int .i64 (.int .i64 (.int .i64 (.nil)))))))]] [.b y1, .s y2.1, .q (.int .i64 (.int .i64 (.int .i64 (.int .i64 (.int .i64 (.int .i64 (.nil))))))) y2.2.1])) (fun y1 => k (.exit 0) (encSt [.dead, .dead, .dead, .dead, .dead, .dead, .dead, .dead, .dead, .dead, .dead, .dead, .dead, .dead, .dead, .dead, .dead, .dead, .dead, .dead] [] [.box [.str, .sl (.int .i64 (.int .i64 (.int .i64 (.int .i64 (.int .i64 (.int .i64 (.nil)))))))]] [.s y1.1, .q (.int .i64 (.int .i64 (.int .i64 (.int .i64 (.int .i64 (.int .i64 (.nil))))))) y1.2.1])) n x2 x3 x4 x5 := by
  intro n
  induction n with
  | zero => intros; kernel_rfl
  | succ n ih =>
    intro x2 x3 x4 x5 k
    have e : (fun (x2 : Seq Z0) (x3 : Int) (x4 : Int) (x5 : ByteArray × (Seq Z0) × Unit) => def_rules_3_l0_ev def_Place n (encSt def_rules_3_l0_t def_rules_3_l0_s def_rules_3_l0_h [.q (.int .i64 (.int .i64 (.int .i64 (.int .i64 (.int .i64 (.int .i64 (.nil))))))) x2, .i x3, .i x4, .s x5.1, .q (.int .i64 (.int .i64 (.int .i64 (.int .i64 (.int .i64 (.int .i64 (.nil))))))) x5.2.1]) k) = (fun (x2 : Seq Z0) (x3 : Int) (x4 : Int) (x5 : ByteArray × (Seq Z0) × Unit) => def_rules_3_l0_run def_Place (fun y1 y2 => k .ret (encSt [.dead, .dead, .bool, .dead, .dead, .dead, .dead, .dead, .dead, .dead, .dead, .dead, .dead, .dead, .dead, .dead, .dead, .dead, .dead, .dead] [] [.box [.str, .sl (.int .i64 (.int .i64 (.int .i64 (.int .i64 (.int .i64 (.int .i64 (.nil)))))))]] [.b y1, .s y2.1, .q (.int .i64 (.int .i64 (.int .i64 (.int .i64 (.int .i64 (.int .i64 (.nil))))))) y2.2.1])) (fun y1 => k (.exit 0) (encSt [.dead, .dead, .dead, .dead, .dead, .dead, .dead, .dead, .dead, .dead, .dead, .dead, .dead, .dead, .dead, .dead, .dead, .dead, .dead, .dead] [] [.box [.str, .sl (.int .i64 (.int .i64 (.int .i64 (.int .i64 (.int .i64 (.int .i64 (.nil)))))))]] [.s y1.1, .q (.int .i64 (.int .i64 (.int .i64 (.int .i64 (.int .i64 (.int .i64 (.nil))))))) y1.2.1])) n x2 x3 x4 x5) := by
      funext x2 x3 x4 x5
      exact ih x2 x3 x4 x5 k
    have h1 : def_rules_3_l0_ev def_Place (n + 1) (encSt def_rules_3_l0_t def_rules_3_l0_s def_rules_3_l0_h [.q (.int .i64 (.int .i64 (.int .i64 (.int .i64 (.int .i64 (.int .i64 (.nil))))))) x2, .i x3, .i x4, .s x5.1, .q (.int .i64 (.int .i64 (.int .i64 (.int .i64 (.int .i64 (.int .i64 (.nil))))))) x5.2.1]) k = def_rules_3_l0_step def_Place (fun y1 y2 => k .ret (encSt [.dead, .dead, .bool, .dead, .dead, .dead, .dead, .dead, .dead, .dead, .dead, .dead, .dead, .dead, .dead, .dead, .dead, .dead, .dead, .dead] [] [.box [.str, .sl (.int .i64 (.int .i64 (.int .i64 (.int .i64 (.int .i64 (.int .i64 (.nil)))))))]] [.b y1, .s y2.1, .q (.int .i64 (.int .i64 (.int .i64 (.int .i64 (.int .i64 (.int .i64 (.nil))))))) y2.2.1])) (fun y1 => k (.exit 0) (encSt [.dead, .dead, .dead, .dead, .dead, .dead, .dead, .dead, .dead, .dead, .dead, .dead, .dead, .dead, .dead, .dead, .dead, .dead, .dead, .dead] [] [.box [.str, .sl (.int .i64 (.int .i64 (.int .i64 (.int .i64 (.int .i64 (.int .i64 (.nil)))))))]] [.s y1.1, .q (.int .i64 (.int .i64 (.int .i64 (.int .i64 (.int .i64 (.int .i64 (.nil))))))) y1.2.1])) (fun (x2 : Seq Z0) (x3 : Int) (x4 : Int) (x5 : ByteArray × (Seq Z0) × Unit) => def_rules_3_l0_ev def_Place n (encSt def_rules_3_l0_t def_rules_3_l0_s def_rules_3_l0_h [.q (.int .i64 (.int .i64 (.int .i64 (.int .i64 (.int .i64 (.int .i64 (.nil))))))) x2, .i x3, .i x4, .s x5.1, .q (.int .i64 (.int .i64 (.int .i64 (.int .i64 (.int .i64 (.int .i64 (.nil))))))) x5.2.1]) k) x2 x3 x4 x5 := by kernel_rfl
    have h2 := congrArg (fun r => def_rules_3_l0_step def_Place (fun y1 y2 => k .ret (encSt [.dead, .dead, .bool, .dead, .dead, .dead, .dead, .dead, .dead, .dead, .dead, .dead, .dead, .dead, .dead, .dead, .dead, .dead, .dead, .dead] [] [.box [.str, .sl (.int .i64 (.int .i64 (.int .i64 (.int .i64 (.int .i64 (.int .i64 (.nil)))))))]] [.b y1, .s y2.1, .q (.int .i64 (.int .i64 (.int .i64 (.int .i64 (.int .i64 (.int .i64 (.nil))))))) y2.2.1])) (fun y1 => k (.exit 0) (encSt [.dead, .dead, .dead, .dead, .dead, .dead, .dead, .dead, .dead, .dead, .dead, .dead, .dead, .dead, .dead, .dead, .dead, .dead, .dead, .dead] [] [.box [.str, .sl (.int .i64 (.int .i64 (.int .i64 (.int .i64 (.int .i64 (.int .i64 (.nil)))))))]] [.s y1.1, .q (.int .i64 (.int .i64 (.int .i64 (.int .i64 (.int .i64 (.int .i64 (.nil))))))) y1.2.1])) r x2 x3 x4 x5) e
    have h3 : def_rules_3_l0_step def_Place (fun y1 y2 => k .ret (encSt [.dead, .dead, .bool, .dead, .dead, .dead, .dead, .dead, .dead, .dead, .dead, .dead, .dead, .dead, .dead, .dead, .dead, .dead, .dead, .dead] [] [.box [.str, .sl (.int .i64 (.int .i64 (.int .i64 (.int .i64 (.int .i64 (.int .i64 (.nil)))))))]] [.b y1, .s y2.1, .q (.int .i64 (.int .i64 (.int .i64 (.int .i64 (.int .i64 (.int .i64 (.nil))))))) y2.2.1])) (fun y1 => k (.exit 0) (encSt [.dead, .dead, .dead, .dead, .dead, .dead, .dead, .dead, .dead, .dead, .dead, .dead, .dead, .dead, .dead, .dead, .dead, .dead, .dead, .dead] [] [.box [.str, .sl (.int .i64 (.int .i64 (.int .i64 (.int .i64 (.int .i64 (.int .i64 (.nil)))))))]] [.s y1.1, .q (.int .i64 (.int .i64 (.int .i64 (.int .i64 (.int .i64 (.int .i64 (.nil))))))) y1.2.1])) (fun (x2 : Seq Z0) (x3 : Int) (x4 : Int) (x5 : ByteArray × (Seq Z0) × Unit) => def_rules_3_l0_run def_Place (fun y1 y2 => k .ret (encSt [.dead, .dead, .bool, .dead, .dead, .dead, .dead, .dead, .dead, .dead, .dead, .dead, .dead, .dead, .dead, .dead, .dead, .dead, .dead, .dead] [] [.box [.str, .sl (.int .i64 (.int .i64 (.int .i64 (.int .i64 (.int .i64 (.int .i64 (.nil)))))))]] [.b y1, .s y2.1, .q (.int .i64 (.int .i64 (.int .i64 (.int .i64 (.int .i64 (.int .i64 (.nil))))))) y2.2.1])) (fun y1 => k (.exit 0) (encSt [.dead, .dead, .dead, .dead, .dead, .dead, .dead, .dead, .dead, .dead, .dead, .dead, .dead, .dead, .dead, .dead, .dead, .dead, .dead, .dead] [] [.box [.str, .sl (.int .i64 (.int .i64 (.int .i64 (.int .i64 (.int .i64 (.int .i64 (.nil)))))))]] [.s y1.1, .q (.int .i64 (.int .i64 (.int .i64 (.int .i64 (.int .i64 (.int .i64 (.nil))))))) y1.2.1])) n x2 x3 x4 x5) x2 x3 x4 x5 = def_rules_3_l0_run def_Place (fun y1 y2 => k .ret (encSt [.dead, .dead, .bool, .dead, .dead, .dead, .dead, .dead, .dead, .dead, .dead, .dead, .dead, .dead, .dead, .dead, .dead, .dead, .dead, .dead] [] [.box [.str, .sl (.int .i64 (.int .i64 (.int .i64 (.int .i64 (.int .i64 (.int .i64 (.nil)))))))]] [.b y1, .s y2.1, .q (.int .i64 (.int .i64 (.int .i64 (.int .i64 (.int .i64 (.int .i64 (.nil))))))) y2.2.1])) (fun y1 => k (.exit 0) (encSt [.dead, .dead, .dead, .dead, .dead, .dead, .dead, .dead, .dead, .dead, .dead, .dead, .dead, .dead, .dead, .dead, .dead, .dead, .dead, .dead] [] [.box [.str, .sl (.int .i64 (.int .i64 (.int .i64 (.int .i64 (.int .i64 (.int .i64 (.nil)))))))]] [.s y1.1, .q (.int .i64 (.int .i64 (.int .i64 (.int .i64 (.int .i64 (.int .i64 (.nil))))))) y1.2.1])) (n + 1) x2 x3 x4 x5 := by kernel_rfl
    exact h1.trans (h2.trans h3)

theorem def_rules_3_l0_ok {α : Type} (def_Place : def_Place_T α) : (def_rules_3_l0_spec def_Place : LoopSpec α).ok Go.Proofs.Tryd.prog (envOf (def_rules_3_C def_Place) def_rules_3_q def_rules_3_inl 1000 def_rules_3_ann false (def_rules_3_loops def_Place) (fun _ => none)) := by
  intro ds k
  have h1 : def_rules_3_l0_ev def_Place 1000 (encSt def_rules_3_l0_t def_rules_3_l0_s def_rules_3_l0_h ds) k = def_rules_3_l0_ev def_Place 1000 (encSt def_rules_3_l0_t def_rules_3_l0_s def_rules_3_l0_h [.q (.int .i64 (.int .i64 (.int .i64 (.int .i64 (.int .i64 (.int .i64 (.nil))))))) (hdQ (.int .i64 (.int .i64 (.int .i64 (.int .i64 (.int .i64 (.int .i64 (.nil))))))) ds), .i (hdI ds.tail), .i (hdI ds.tail.tail), .s ((hdS ds.tail.tail.tail, hdQ (.int .i64 (.int .i64 (.int .i64 (.int .i64 (.int .i64 (.int .i64 (.nil))))))) ds.tail.tail.tail.tail, ()).1), .q (.int .i64 (.int .i64 (.int .i64 (.int .i64 (.int .i64 (.int .i64 (.nil))))))) ((hdS ds.tail.tail.tail, hdQ (.int .i64 (.int .i64 (.int .i64 (.int .i64 (.int .i64 (.int .i64 (.nil))))))) ds.tail.tail.tail.tail, ()).2.1)]) k := by kernel_rfl
  have h2 := def_rules_3_l0_eq def_Place 1000 (hdQ (.int .i64 (.int .i64 (.int .i64 (.int .i64 (.int .i64 (.int .i64 (.nil))))))) ds) (hdI ds.tail) (hdI ds.tail.tail) (hdS ds.tail.tail.tail, hdQ (.int .i64 (.int .i64 (.int .i64 (.int .i64 (.int .i64 (.int .i64 (.nil))))))) ds.tail.tail.tail.tail, ()) k
  exact h1.trans h2

theorem def_rules_3_ev {α : Type} (def_Place : def_Place_T α) : EvOk (α := α) Go.Proofs.Tryd.prog (envOf (def_rules_3_C def_Place) def_rules_3_q def_rules_3_inl 1000 def_rules_3_ann false (def_rules_3_loops def_Place) (fun _ => none)) 6 (def_rules_3_sp (def_rules_3_g def_Place)) := by intro ds k; kernel_rfl

theorem def_rules_3_ok {α : Type} : (def_rules_3_spec : FunSpec α).ok Go.Proofs.Tryd.prog :=
  FunSpec.ok_of (sp := def_rules_3_spec) (C := def_rules_3_C def_Place) (q := def_rules_3_q) (inl := def_rules_3_inl) (N := 1000) (ann := def_rules_3_ann) (fr := false) (D := 6) (l := (def_rules_3_loops def_Place)) (hk := (fun _ => none)) (okCons def_Place_ok okNil) (lokCons (def_rules_3_l0_ok def_Place) lokNil) noHooks (def_rules_3_ev def_Place)

end
end Go.Rv.Tryd

set_option linter.unusedVariables false
set_option maxRecDepth 100000
set_option maxHeartbeats 4000000
namespace Go.Rv.Tryd
open Go Go.Rv Go.RowKit
noncomputable section

-- drayman/def.Pivot$1

abbrev def_Pivot_1_T (α : Type) : Type := Z0 → (Bool → Option α) → Option α

noncomputable def def_Pivot_1 {α : Type} (s1 : Int × Int × Int × Int × Int × Int × Unit) (k : Bool → Option α) : Option α :=
  (k (s1.2.1 == 2))

noncomputable def def_Pivot_1_sp {α : Type} (def_Pivot_1 : def_Pivot_1_T α) : FunSpec α := ⟨115, [.agg [.int .i64, .int .i64, .int .i64, .int .i64, .int .i64, .int .i64]], [], fun ds k => def_Pivot_1 (hdI ds, hdI ds.tail, hdI ds.tail.tail, hdI ds.tail.tail.tail, hdI ds.tail.tail.tail.tail, hdI ds.tail.tail.tail.tail.tail, ()) (fun r1 => k (enc dep (.bool) [.b r1]).1 [])⟩

noncomputable def def_Pivot_1_spec {α : Type} : FunSpec α := def_Pivot_1_sp def_Pivot_1

noncomputable def def_Pivot_1_C {α : Type} : List (FunSpec α) := []

noncomputable def def_Pivot_1_q : FuncId → Bool := fun f => false

noncomputable def def_Pivot_1_inl : FuncId → Bool := fun f => false

noncomputable def def_Pivot_1_ann : FuncId → AnnT := fun f p => ⟨[], [], [], [], 0, [], [], none⟩

noncomputable def def_Pivot_1_loops {α : Type} : List (LoopSpec α) := []

theorem def_Pivot_1_ev {α : Type} : EvOk (α := α) Go.Proofs.Tryd.prog (envOf (def_Pivot_1_C) def_Pivot_1_q def_Pivot_1_inl 1000 def_Pivot_1_ann false (def_Pivot_1_loops) (fun _ => none)) 6 (def_Pivot_1_sp (def_Pivot_1)) := by intro ds k; kernel_rfl

theorem def_Pivot_1_ok {α : Type} : (def_Pivot_1_spec : FunSpec α).ok Go.Proofs.Tryd.prog :=
  FunSpec.ok_of (sp := def_Pivot_1_spec) (C := def_Pivot_1_C) (q := def_Pivot_1_q) (inl := def_Pivot_1_inl) (N := 1000) (ann := def_Pivot_1_ann) (fr := false) (D := 6) (l := (def_Pivot_1_loops)) (hk := (fun _ => none)) okNil lokNil noHooks (def_Pivot_1_ev)

end
end Go.Rv.Tryd

set_option linter.unusedVariables false
set_option maxRecDepth 100000
set_option maxHeartbeats 4000000
namespace Go.Rv.Tryd
open Go Go.Rv Go.RowKit
noncomputable section

-- slices.IndexFunc[[]drayman/api.Step,drayman/api.Step]

abbrev slices_IndexFunc_api_Step_api_Step_s2_T (α : Type) : Type := (Seq Z0) → (Int → Option α) → Option α

noncomputable def slices_IndexFunc_api_Step_api_Step_s2_l0_step {α : Type} (def_Pivot_1 : def_Pivot_1_T α) (kr : (Int) → Option α) (k0 : Option α) (rec : (Seq Z0) → (Int) → (Int) → Option α) (s2 : Seq Z0) (x3 : Int) (x4 : Int) : Option α :=
  (cond (decide (x4 < x3))
    (cond ((decide ((0 : Int) ≤ x4)) && (decide (x4 < (s2.n : Int))))
      (def_Pivot_1 (s2.g x4.toNat) fun r5 =>
        (cond r5
          (kr x4)
          (rec s2 x3 (IntKind.i64.wrap (x4 + 1)))))
      none)
    (k0))

noncomputable def slices_IndexFunc_api_Step_api_Step_s2_l0_run {α : Type} (def_Pivot_1 : def_Pivot_1_T α) (kr : (Int) → Option α) (k0 : Option α) : Nat → (Seq Z0) → (Int) → (Int) → Option α
  | 0, _, _, _ => none
  | n + 1, s2, x3, x4 => slices_IndexFunc_api_Step_api_Step_s2_l0_step def_Pivot_1 kr k0 (fun s2 x3 x4 => slices_IndexFunc_api_Step_api_Step_s2_l0_run def_Pivot_1 kr k0 n s2 x3 x4) s2 x3 x4

noncomputable def slices_IndexFunc_api_Step_api_Step_s2_g {α : Type} (def_Pivot_1 : def_Pivot_1_T α) (s1 : Seq Z0) (k : Int → Option α) : Option α :=
  (slices_IndexFunc_api_Step_api_Step_s2_l0_run def_Pivot_1
    (fun x6 =>
      (k x6))
    ((k (-1)))
    1000 s1 (s1.n : Int) 0)

noncomputable def slices_IndexFunc_api_Step_api_Step_s2 {α : Type} : slices_IndexFunc_api_Step_api_Step_s2_T α := slices_IndexFunc_api_Step_api_Step_s2_g def_Pivot_1

noncomputable def slices_IndexFunc_api_Step_api_Step_s2_sp {α : Type} (slices_IndexFunc_api_Step_api_Step_s2 : slices_IndexFunc_api_Step_api_Step_s2_T α) : FunSpec α := ⟨108, [.sl (.int .i64 (.int .i64 (.int .i64 (.int .i64 (.int .i64 (.int .i64 (.nil))))))), .func (.func 115) [] []], [], fun ds k => slices_IndexFunc_api_Step_api_Step_s2 (hdQ (.int .i64 (.int .i64 (.int .i64 (.int .i64 (.int .i64 (.int .i64 (.nil))))))) ds) (fun r1 => k (enc dep (.int .i64) [.i r1]).1 [])⟩

noncomputable def slices_IndexFunc_api_Step_api_Step_s2_spec {α : Type} : FunSpec α := slices_IndexFunc_api_Step_api_Step_s2_sp slices_IndexFunc_api_Step_api_Step_s2

noncomputable def slices_IndexFunc_api_Step_api_Step_s2_C {α : Type} (def_Pivot_1 : def_Pivot_1_T α) : List (FunSpec α) := [def_Pivot_1_sp def_Pivot_1]

noncomputable def slices_IndexFunc_api_Step_api_Step_s2_q : FuncId → Bool := fun f => Nat.beq f 115

noncomputable def slices_IndexFunc_api_Step_api_Step_s2_inl : FuncId → Bool := fun f => false

noncomputable def slices_IndexFunc_api_Step_api_Step_s2_ann : FuncId → AnnT := fun f p => if f = 108 then (if p = [true, false, true] then ⟨[0, 1, 7, 8], [], [], [4], 0, [], [], none⟩ else ⟨[], [], [], [], 0, [], [], none⟩) else ⟨[], [], [], [], 0, [], [], none⟩

noncomputable def slices_IndexFunc_api_Step_api_Step_s2_l0_t : List Sh := [.sl (.int .i64 (.int .i64 (.int .i64 (.int .i64 (.int .i64 (.int .i64 (.nil))))))), .func (.func 115) [] [], .dead, .dead, .dead, .dead, .dead, .int .i64, .int .i64, .dead, .dead, .dead, .dead, .dead, .dead, .dead, .dead, .dead, .dead]
noncomputable def slices_IndexFunc_api_Step_api_Step_s2_l0_s : List (List Sh) := []
noncomputable def slices_IndexFunc_api_Step_api_Step_s2_l0_h : List BSh := []

noncomputable def slices_IndexFunc_api_Step_api_Step_s2_l0_spec {α : Type} (def_Pivot_1 : def_Pivot_1_T α) : LoopSpec α := ⟨6, 108, [true, false, true], slices_IndexFunc_api_Step_api_Step_s2_l0_t, slices_IndexFunc_api_Step_api_Step_s2_l0_s, slices_IndexFunc_api_Step_api_Step_s2_l0_h, fun ds k => slices_IndexFunc_api_Step_api_Step_s2_l0_run def_Pivot_1 (fun y1 => k .ret (encSt [.dead, .dead, .dead, .dead, .int .i64, .dead, .dead, .dead, .dead, .dead, .dead, .dead, .dead, .dead, .dead, .dead, .dead, .dead, .dead] [] [] [.i y1])) (k (.exit 0) (encSt [.dead, .dead, .dead, .dead, .dead, .dead, .dead, .dead, .dead, .dead, .dead, .dead, .dead, .dead, .dead, .dead, .dead, .dead, .dead] [] [] [])) 1000 (hdQ (.int .i64 (.int .i64 (.int .i64 (.int .i64 (.int .i64 (.int .i64 (.nil))))))) ds) (hdI ds.tail) (hdI ds.tail.tail)⟩

noncomputable def slices_IndexFunc_api_Step_api_Step_s2_loops {α : Type} (def_Pivot_1 : def_Pivot_1_T α) : List (LoopSpec α) := [slices_IndexFunc_api_Step_api_Step_s2_l0_spec def_Pivot_1]

noncomputable def slices_IndexFunc_api_Step_api_Step_s2_l0_ev {α : Type} (def_Pivot_1 : def_Pivot_1_T α) (n : Nat) (st : St) (k : X → St → Option α) : Option α := loopN (evCode Go.Proofs.Tryd.prog (callD Go.Proofs.Tryd.prog (envOf (slices_IndexFunc_api_Step_api_Step_s2_C def_Pivot_1) slices_IndexFunc_api_Step_api_Step_s2_q slices_IndexFunc_api_Step_api_Step_s2_inl 1000 slices_IndexFunc_api_Step_api_Step_s2_ann false (slices_IndexFunc_api_Step_api_Step_s2_loops def_Pivot_1) (fun _ => none)) 6) (((envOf (slices_IndexFunc_api_Step_api_Step_s2_C def_Pivot_1) slices_IndexFunc_api_Step_api_Step_s2_q slices_IndexFunc_api_Step_api_Step_s2_inl 1000 slices_IndexFunc_api_Step_api_Step_s2_ann false (slices_IndexFunc_api_Step_api_Step_s2_loops def_Pivot_1) (fun _ => none)) : Env α).L 6 108) 1000 (slices_IndexFunc_api_Step_api_Step_s2_ann 108) (false :: [true, false, true]) (loopC Go.Proofs.Tryd.prog 108 [true, false, true])) ((slices_IndexFunc_api_Step_api_Step_s2_ann 108 [true, false, true]).head 0) ((slices_IndexFunc_api_Step_api_Step_s2_ann 108 [true, false, true]).leave 0) n st k

theorem slices_IndexFunc_api_Step_api_Step_s2_l0_eq {α : Type} (def_Pivot_1 : def_Pivot_1_T α) : ∀ (n : Nat) (s2 : Seq Z0) (x3 : Int) (x4 : Int) (k : X → St → Option α), slices_IndexFunc_api_Step_api_Step_s2_l0_ev def_Pivot_1 n (encSt slices_IndexFunc_api_Step_api_Step_s2_l0_t slices_IndexFunc_api_Step_api_Step_s2_l0_s slices_IndexFunc_api_Step_api_Step_s2_l0_h [.q (.int .i64 (.int .i64 (.int .i64 (.int .i64 (.int .i64 (.int .i64 (.nil))))))) s2, .i x3, .i x4]) k = slices_IndexFunc_api_Step_api_Step_s2_l0_run def_Pivot_1 (fun y1 => k .ret (encSt [.dead, .dead, .dead, .dead, .int .i64, .dead, .dead, .dead, .dead, .dead, .dead, .dead, .dead, .dead, .dead, .dead, .dead, .dead, .dead] [] [] [.i y1])) (k (.exit 0) (encSt [.dead, .dead, .dead, .dead, .dead, .dead, .dead, .dead, .dead, .dead, .dead, .dead, .dead, .dead, .dead, .dead, .dead, .dead, .dead] [] [] [])) n s2 x3 x4 := by
  intro n
  induction n with
  | zero => intros; kernel_rfl
  | succ n ih =>
    intro s2 x3 x4 k
    have e : (fun (s2 : Seq Z0) (x3 : Int) (x4 : Int) => slices_IndexFunc_api_Step_api_Step_s2_l0_ev def_Pivot_1 n (encSt slices_IndexFunc_api_Step_api_Step_s2_l0_t slices_IndexFunc_api_Step_api_Step_s2_l0_s slices_IndexFunc_api_Step_api_Step_s2_l0_h [.q (.int .i64 (.int .i64 (.int .i64 (.int .i64 (.int .i64 (.int .i64 (.nil))))))) s2, .i x3, .i x4]) k) = (fun (s2 : Seq Z0) (x3 : Int) (x4 : Int) => slices_IndexFunc_api_Step_api_Step_s2_l0_run def_Pivot_1 (fun y1 => k .ret (encSt [.dead, .dead, .dead, .dead, .int .i64, .dead, .dead, .dead, .dead, .dead, .dead, .dead, .dead, .dead, .dead, .dead, .dead, .dead, .dead] [] [] [.i y1])) (k (.exit 0) (encSt [.dead, .dead, .dead, .dead, .dead, .dead, .dead, .dead, .dead, .dead, .dead, .dead, .dead, .dead, .dead, .dead, .dead, .dead, .dead] [] [] [])) n s2 x3 x4) := by
      funext s2 x3 x4
      exact ih s2 x3 x4 k
    have h1 : slices_IndexFunc_api_Step_api_Step_s2_l0_ev def_Pivot_1 (n + 1) (encSt slices_IndexFunc_api_Step_api_Step_s2_l0_t slices_IndexFunc_api_Step_api_Step_s2_l0_s slices_IndexFunc_api_Step_api_Step_s2_l0_h [.q (.int .i64 (.int .i64 (.int .i64 (.int .i64 (.int .i64 (.int .i64 (.nil))))))) s2, .i x3, .i x4]) k = slices_IndexFunc_api_Step_api_Step_s2_l0_step def_Pivot_1 (fun y1 => k .ret (encSt [.dead, .dead, .dead, .dead, .int .i64, .dead, .dead, .dead, .dead, .dead, .dead, .dead, .dead, .dead, .dead, .dead, .dead, .dead, .dead] [] [] [.i y1])) (k (.exit 0) (encSt [.dead, .dead, .dead, .dead, .dead, .dead, .dead, .dead, .dead, .dead, .dead, .dead, .dead, .dead, .dead, .dead, .dead, .dead, .dead] [] [] [])) (fun (s2 : Seq Z0) (x3 : Int) (x4 : Int) => slices_IndexFunc_api_Step_api_Step_s2_l0_ev def_Pivot_1 n (encSt slices_IndexFunc_api_Step_api_Step_s2_l0_t slices_IndexFunc_api_Step_api_Step_s2_l0_s slices_IndexFunc_api_Step_api_Step_s2_l0_h [.q (.int .i64 (.int .i64 (.int .i64 (.int .i64 (.int .i64 (.int .i64 (.nil))))))) s2, .i x3, .i x4]) k) s2 x3 x4 := by kernel_rfl
    have h2 := congrArg (fun r => slices_IndexFunc_api_Step_api_Step_s2_l0_step def_Pivot_1 (fun y1 => k .ret (encSt [.dead, .dead, .dead, .dead, .int .i64, .dead, .dead, .dead, .dead, .dead, .dead, .dead, .dead, .dead, .dead, .dead, .dead, .dead, .dead] [] [] [.i y1])) (k (.exit 0) (encSt [.dead, .dead, .dead, .dead, .dead, .dead, .dead, .dead, .dead, .dead, .dead, .dead, .dead, .dead, .dead, .dead, .dead, .dead, .dead] [] [] [])) r s2 x3 x4) e
    have h3 : slices_IndexFunc_api_Step_api_Step_s2_l0_step def_Pivot_1 (fun y1 => k .ret (encSt [.dead, .dead, .dead, .dead, .int .i64, .dead, .dead, .dead, .dead, .dead, .dead, .dead, .dead, .dead, .dead, .dead, .dead, .dead, .dead] [] [] [.i y1])) (k (.exit 0) (encSt [.dead, .dead, .dead, .dead, .dead, .dead, .dead, .dead, .dead, .dead, .dead, .dead, .dead, .dead, .dead, .dead, .dead, .dead, .dead] [] [] [])) (fun (s2 : Seq Z0) (x3 : Int) (x4 : Int) => slices_IndexFunc_api_Step_api_Step_s2_l0_run def_Pivot_1 (fun y1 => k .ret (encSt [.dead, .dead, .dead, .dead, .int .i64, .dead, .dead, .dead, .dead, .dead, .dead, .dead, .dead, .dead, .dead, .dead, .dead, .dead, .dead] [] [] [.i y1])) (k (.exit 0) (encSt [.dead, .dead, .dead, .dead, .dead, .dead, .dead, .dead, .dead, .dead, .dead, .dead, .dead, .dead, .dead, .dead, .dead, .dead, .dead] [] [] [])) n s2 x3 x4) s2 x3 x4 = slices_IndexFunc_api_Step_api_Step_s2_l0_run def_Pivot_1 (fun y1 => k .ret (encSt [.dead, .dead, .dead, .dead, .int .i64, .dead, .dead, .dead, .dead, .dead, .dead, .dead, .dead, .dead, .dead, .dead, .dead, .dead, .dead] [] [] [.i y1])) (k (.exit 0) (encSt [.dead, .dead, .dead, .dead, .dead, .dead, .dead, .dead, .dead, .dead, .dead, .dead, .dead, .dead, .dead, .dead, .dead, .dead, .dead] [] [] [])) (n + 1) s2 x3 x4 := by kernel_rfl
    exact h1.trans (h2.trans h3)

theorem slices_IndexFunc_api_Step_api_Step_s2_l0_ok {α : Type} (def_Pivot_1 : def_Pivot_1_T α) : (slices_IndexFunc_api_Step_api_Step_s2_l0_spec def_Pivot_1 : LoopSpec α).ok Go.Proofs.Tryd.prog (envOf (slices_IndexFunc_api_Step_api_Step_s2_C def_Pivot_1) slices_IndexFunc_api_Step_api_Step_s2_q slices_IndexFunc_api_Step_api_Step_s2_inl 1000 slices_IndexFunc_api_Step_api_Step_s2_ann false (slices_IndexFunc_api_Step_api_Step_s2_loops def_Pivot_1) (fun _ => none)) := by
  intro ds k
  have h1 : slices_IndexFunc_api_Step_api_Step_s2_l0_ev def_Pivot_1 1000 (encSt slices_IndexFunc_api_Step_api_Step_s2_l0_t slices_IndexFunc_api_Step_api_Step_s2_l0_s slices_IndexFunc_api_Step_api_Step_s2_l0_h ds) k = slices_IndexFunc_api_Step_api_Step_s2_l0_ev def_Pivot_1 1000 (encSt slices_IndexFunc_api_Step_api_Step_s2_l0_t slices_IndexFunc_api_Step_api_Step_s2_l0_s slices_IndexFunc_api_Step_api_Step_s2_l0_h [.q (.int .i64 (.int .i64 (.int .i64 (.int .i64 (.int .i64 (.int .i64 (.nil))))))) (hdQ (.int .i64 (.int .i64 (.int .i64 (.int .i64 (.int .i64 (.int .i64 (.nil))))))) ds), .i (hdI ds.tail), .i (hdI ds.tail.tail)]) k := by kernel_rfl
  have h2 := slices_IndexFunc_api_Step_api_Step_s2_l0_eq def_Pivot_1 1000 (hdQ (.int .i64 (.int .i64 (.int .i64 (.int .i64 (.int .i64 (.int .i64 (.nil))))))) ds) (hdI ds.tail) (hdI ds.tail.tail) k
  exact h1.trans h2

theorem slices_IndexFunc_api_Step_api_Step_s2_ev {α : Type} (def_Pivot_1 : def_Pivot_1_T α) : EvOk (α := α) Go.Proofs.Tryd.prog (envOf (slices_IndexFunc_api_Step_api_Step_s2_C def_Pivot_1) slices_IndexFunc_api_Step_api_Step_s2_q slices_IndexFunc_api_Step_api_Step_s2_inl 1000 slices_IndexFunc_api_Step_api_Step_s2_ann false (slices_IndexFunc_api_Step_api_Step_s2_loops def_Pivot_1) (fun _ => none)) 6 (slices_IndexFunc_api_Step_api_Step_s2_sp (slices_IndexFunc_api_Step_api_Step_s2_g def_Pivot_1)) := by intro ds k; kernel_rfl

theorem slices_IndexFunc_api_Step_api_Step_s2_ok {α : Type} : (slices_IndexFunc_api_Step_api_Step_s2_spec : FunSpec α).ok Go.Proofs.Tryd.prog :=
  FunSpec.ok_of (sp := slices_IndexFunc_api_Step_api_Step_s2_spec) (C := slices_IndexFunc_api_Step_api_Step_s2_C def_Pivot_1) (q := slices_IndexFunc_api_Step_api_Step_s2_q) (inl := slices_IndexFunc_api_Step_api_Step_s2_inl) (N := 1000) (ann := slices_IndexFunc_api_Step_api_Step_s2_ann) (fr := false) (D := 6) (l := (slices_IndexFunc_api_Step_api_Step_s2_loops def_Pivot_1)) (hk := (fun _ => none)) (okCons def_Pivot_1_ok okNil) (lokCons (slices_IndexFunc_api_Step_api_Step_s2_l0_ok def_Pivot_1) lokNil) noHooks (slices_IndexFunc_api_Step_api_Step_s2_ev def_Pivot_1)

end
end Go.Rv.Tryd

set_option linter.unusedVariables false
set_option maxRecDepth 100000
set_option maxHeartbeats 4000000
namespace Go.Rv.Tryd
open Go Go.Rv Go.RowKit
noncomputable section

-- drayman/def.Pivot

abbrev def_Pivot_T (α : Type) : Type := (ByteArray × (Seq Z0) × Unit) → (Int → Option α) → Option α

noncomputable def def_Pivot_g {α : Type} (slices_IndexFunc_api_Step_api_Step_s2 : slices_IndexFunc_api_Step_api_Step_s2_T α) (d1 : ByteArray × (Seq Z0) × Unit) (k : Int → Option α) : Option α :=
  (slices_IndexFunc_api_Step_api_Step_s2 d1.2.1 fun r2 =>
    (k r2))

noncomputable def def_Pivot {α : Type} : def_Pivot_T α := def_Pivot_g slices_IndexFunc_api_Step_api_Step_s2

noncomputable def def_Pivot_sp {α : Type} (def_Pivot : def_Pivot_T α) : FunSpec α := ⟨87, [.agg [.str, .sl (.int .i64 (.int .i64 (.int .i64 (.int .i64 (.int .i64 (.int .i64 (.nil)))))))]], [], fun ds k => def_Pivot (hdS ds, hdQ (.int .i64 (.int .i64 (.int .i64 (.int .i64 (.int .i64 (.int .i64 (.nil))))))) ds.tail, ()) (fun r1 => k (enc dep (.int .i64) [.i r1]).1 [])⟩

noncomputable def def_Pivot_spec {α : Type} : FunSpec α := def_Pivot_sp def_Pivot

noncomputable def def_Pivot_C {α : Type} (slices_IndexFunc_api_Step_api_Step_s2 : slices_IndexFunc_api_Step_api_Step_s2_T α) : List (FunSpec α) := [slices_IndexFunc_api_Step_api_Step_s2_sp slices_IndexFunc_api_Step_api_Step_s2]

noncomputable def def_Pivot_q : FuncId → Bool := fun f => Nat.beq f 108

noncomputable def def_Pivot_inl : FuncId → Bool := fun f => false

noncomputable def def_Pivot_ann : FuncId → AnnT := fun f p => ⟨[], [], [], [], 0, [], [], none⟩

noncomputable def def_Pivot_loops {α : Type} (slices_IndexFunc_api_Step_api_Step_s2 : slices_IndexFunc_api_Step_api_Step_s2_T α) : List (LoopSpec α) := []

theorem def_Pivot_ev {α : Type} (slices_IndexFunc_api_Step_api_Step_s2 : slices_IndexFunc_api_Step_api_Step_s2_T α) : EvOk (α := α) Go.Proofs.Tryd.prog (envOf (def_Pivot_C slices_IndexFunc_api_Step_api_Step_s2) def_Pivot_q def_Pivot_inl 1000 def_Pivot_ann false (def_Pivot_loops slices_IndexFunc_api_Step_api_Step_s2) (fun _ => none)) 6 (def_Pivot_sp (def_Pivot_g slices_IndexFunc_api_Step_api_Step_s2)) := by intro ds k; kernel_rfl

theorem def_Pivot_ok {α : Type} : (def_Pivot_spec : FunSpec α).ok Go.Proofs.Tryd.prog :=
  FunSpec.ok_of (sp := def_Pivot_spec) (C := def_Pivot_C slices_IndexFunc_api_Step_api_Step_s2) (q := def_Pivot_q) (inl := def_Pivot_inl) (N := 1000) (ann := def_Pivot_ann) (fr := false) (D := 6) (l := (def_Pivot_loops slices_IndexFunc_api_Step_api_Step_s2)) (hk := (fun _ => none)) (okCons slices_IndexFunc_api_Step_api_Step_s2_ok okNil) lokNil noHooks (def_Pivot_ev slices_IndexFunc_api_Step_api_Step_s2)

end
end Go.Rv.Tryd
