/- What the functions of the program compute, each with the proof that its code computes it. Written by a program (rvp2.py). -/
import Derived.Test.YtmoeohjaafpmgaaDoorProg
import Derived.Test.YtmoeohjaafpmgaaDoorRvP
import Derived.Test.YtmoeohjaafpmgaaDoorFx
import Derived.Test.YtmoeohjaafpmgaaDoorUtf8

namespace Go.Rv.Tryd
abbrev Z0 : Type := (ByteArray × Int × Int × Int × Int × Int × Unit)
end Go.Rv.Tryd
set_option linter.unusedVariables false
set_option maxRecDepth 100000
set_option maxHeartbeats 4000000
namespace Go.Rv.Tryd
open Go Go.Rv Go.RowKit
noncomputable section

-- drayman/name.Count

abbrev name_Count_T (α : Type) : Type := ByteArray → (Int → Option α) → Option α

noncomputable def name_Count_g {α : Type} (unicode_utf8_ValidString : unicode_utf8_ValidString_T α) (unicode_utf8_RuneCountInString : unicode_utf8_RuneCountInString_T α) (s1 : ByteArray) (k : Int → Option α) : Option α :=
  (unicode_utf8_ValidString s1 fun r2 =>
    (cond (!r2)
      (k (-1))
      (unicode_utf8_RuneCountInString s1 fun r3 =>
        (k r3))))

noncomputable def name_Count {α : Type} : name_Count_T α := name_Count_g unicode_utf8_ValidString unicode_utf8_RuneCountInString

noncomputable def name_Count_sp {α : Type} (name_Count : name_Count_T α) : FunSpec α := ⟨91, [.str], [], fun ds k => name_Count (hdS ds) (fun r1 => k (enc dep (.int .i64) [.i r1]).1 [])⟩

noncomputable def name_Count_spec {α : Type} : FunSpec α := name_Count_sp name_Count

noncomputable def name_Count_C {α : Type} (unicode_utf8_ValidString : unicode_utf8_ValidString_T α) (unicode_utf8_RuneCountInString : unicode_utf8_RuneCountInString_T α) : List (FunSpec α) := [unicode_utf8_ValidString_sp unicode_utf8_ValidString, unicode_utf8_RuneCountInString_sp unicode_utf8_RuneCountInString]

noncomputable def name_Count_q : FuncId → Bool := fun f => Nat.beq f 116 || Nat.beq f 117

noncomputable def name_Count_inl : FuncId → Bool := fun f => false

noncomputable def name_Count_ann : FuncId → AnnT := fun f p => ⟨[], [], [], [], 0, [], [], none⟩

noncomputable def name_Count_loops {α : Type} (unicode_utf8_ValidString : unicode_utf8_ValidString_T α) (unicode_utf8_RuneCountInString : unicode_utf8_RuneCountInString_T α) : List (LoopSpec α) := []

theorem name_Count_ev {α : Type} (unicode_utf8_ValidString : unicode_utf8_ValidString_T α) (unicode_utf8_RuneCountInString : unicode_utf8_RuneCountInString_T α) : EvOk (α := α) Go.Proofs.Tryd.prog (envOf (name_Count_C unicode_utf8_ValidString unicode_utf8_RuneCountInString) name_Count_q name_Count_inl 1000 name_Count_ann false (name_Count_loops unicode_utf8_ValidString unicode_utf8_RuneCountInString) (fun _ => none)) 6 (name_Count_sp (name_Count_g unicode_utf8_ValidString unicode_utf8_RuneCountInString)) := by intro ds k; kernel_rfl

theorem name_Count_ok {α : Type} : (name_Count_spec : FunSpec α).ok Go.Proofs.Tryd.prog :=
  FunSpec.ok_of (sp := name_Count_spec) (C := name_Count_C unicode_utf8_ValidString unicode_utf8_RuneCountInString) (q := name_Count_q) (inl := name_Count_inl) (N := 1000) (ann := name_Count_ann) (fr := false) (D := 6) (l := (name_Count_loops unicode_utf8_ValidString unicode_utf8_RuneCountInString)) (hk := (fun _ => none)) (okCons unicode_utf8_ValidString_ok (okCons unicode_utf8_RuneCountInString_ok okNil)) lokNil noHooks (name_Count_ev unicode_utf8_ValidString unicode_utf8_RuneCountInString)

end
end Go.Rv.Tryd

set_option linter.unusedVariables false
set_option maxRecDepth 100000
set_option maxHeartbeats 4000000
namespace Go.Rv.Tryd
open Go Go.Rv Go.RowKit
noncomputable section

-- drayman/name.Rune

abbrev name_Rune_T (α : Type) : Type := Int → (Bool → Option α) → Option α

noncomputable def name_Rune {α : Type} (r1 : Int) (k : Bool → Option α) : Option α :=
  (cond (decide ((97 : Int) ≤ r1))
    (cond (decide (r1 ≤ 122))
      (cond (decide (r1 ≤ 122))
        (k true)
        (cond (decide ((223 : Int) ≤ r1))
          (cond (decide (r1 ≤ 255))
            (k (r1 != 247))
            (k false))
          (k false)))
      (cond (decide ((48 : Int) ≤ r1))
        (cond (decide (r1 ≤ 57))
          (cond (decide (r1 ≤ 57))
            (k true)
            (cond (decide ((223 : Int) ≤ r1))
              (cond (decide (r1 ≤ 255))
                (k (r1 != 247))
                (k false))
              (k false)))
          (cond (r1 == 45)
            (k true)
            (cond (decide ((223 : Int) ≤ r1))
              (cond (decide (r1 ≤ 255))
                (k (r1 != 247))
                (k false))
              (k false))))
        (cond (r1 == 45)
          (k true)
          (cond (decide ((223 : Int) ≤ r1))
            (cond (decide (r1 ≤ 255))
              (k (r1 != 247))
              (k false))
            (k false)))))
    (cond (decide ((48 : Int) ≤ r1))
      (cond (decide (r1 ≤ 57))
        (cond (decide (r1 ≤ 57))
          (k true)
          (cond (decide ((223 : Int) ≤ r1))
            (cond (decide (r1 ≤ 255))
              (k (r1 != 247))
              (k false))
            (k false)))
        (cond (r1 == 45)
          (k true)
          (cond (decide ((223 : Int) ≤ r1))
            (cond (decide (r1 ≤ 255))
              (k (r1 != 247))
              (k false))
            (k false))))
      (cond (r1 == 45)
        (k true)
        (cond (decide ((223 : Int) ≤ r1))
          (cond (decide (r1 ≤ 255))
            (k (r1 != 247))
            (k false))
          (k false)))))

noncomputable def name_Rune_sp {α : Type} (name_Rune : name_Rune_T α) : FunSpec α := ⟨92, [.int .i32], [], fun ds k => name_Rune (hdI ds) (fun r1 => k (enc dep (.bool) [.b r1]).1 [])⟩

noncomputable def name_Rune_spec {α : Type} : FunSpec α := name_Rune_sp name_Rune

noncomputable def name_Rune_C {α : Type} : List (FunSpec α) := []

noncomputable def name_Rune_q : FuncId → Bool := fun f => false

noncomputable def name_Rune_inl : FuncId → Bool := fun f => false

noncomputable def name_Rune_ann : FuncId → AnnT := fun f p => ⟨[], [], [], [], 0, [], [], none⟩

noncomputable def name_Rune_loops {α : Type} : List (LoopSpec α) := []

theorem name_Rune_ev {α : Type} : EvOk (α := α) Go.Proofs.Tryd.prog (envOf (name_Rune_C) name_Rune_q name_Rune_inl 1000 name_Rune_ann false (name_Rune_loops) (fun _ => none)) 6 (name_Rune_sp (name_Rune)) := by intro ds k; kernel_rfl

theorem name_Rune_ok {α : Type} : (name_Rune_spec : FunSpec α).ok Go.Proofs.Tryd.prog :=
  FunSpec.ok_of (sp := name_Rune_spec) (C := name_Rune_C) (q := name_Rune_q) (inl := name_Rune_inl) (N := 1000) (ann := name_Rune_ann) (fr := false) (D := 6) (l := (name_Rune_loops)) (hk := (fun _ => none)) okNil lokNil noHooks (name_Rune_ev)

end
end Go.Rv.Tryd

set_option linter.unusedVariables false
set_option maxRecDepth 100000
set_option maxHeartbeats 4000000
namespace Go.Rv.Tryd
open Go Go.Rv Go.RowKit
noncomputable section

-- drayman/name.Fit

abbrev name_Fit_T (α : Type) : Type := ByteArray → (Bool → Option α) → Option α

noncomputable def name_Fit_l0_step {α : Type} (name_Count : name_Count_T α) (name_Rune : name_Rune_T α) (kr : (Bool) → (ByteArray) → (Int) → Option α) (k0 : (ByteArray) → (Int) → Option α) (rec : (ByteArray) → (Int) → Option α) (s3 : ByteArray) (p4 : Int) : Option α :=
  (cond (Nat.blt p4.toNat s3.size)
    (name_Rune (((Utf8.decode s3 p4.toNat).1 : Nat) : Int) fun r5 =>
      (cond (!(!r5))
        (cond ((p4.toNat : Int) == 0)
          (cond ((((Utf8.decode s3 p4.toNat).1 : Nat) : Int) == 45)
            (kr false s3 (((p4.toNat + (Utf8.decode s3 p4.toNat).2) : Nat) : Int))
            (rec s3 (((p4.toNat + (Utf8.decode s3 p4.toNat).2) : Nat) : Int)))
          (rec s3 (((p4.toNat + (Utf8.decode s3 p4.toNat).2) : Nat) : Int)))
        (kr false s3 (((p4.toNat + (Utf8.decode s3 p4.toNat).2) : Nat) : Int))))
    (k0 s3 (p4.toNat : Int)))

noncomputable def name_Fit_l0_run {α : Type} (name_Count : name_Count_T α) (name_Rune : name_Rune_T α) (kr : (Bool) → (ByteArray) → (Int) → Option α) (k0 : (ByteArray) → (Int) → Option α) : Nat → (ByteArray) → (Int) → Option α
  | 0, _, _ => none
  | n + 1, s3, p4 => name_Fit_l0_step name_Count name_Rune kr k0 (fun s3 p4 => name_Fit_l0_run name_Count name_Rune kr k0 n s3 p4) s3 p4

noncomputable def name_Fit_g {α : Type} (name_Count : name_Count_T α) (name_Rune : name_Rune_T α) (s1 : ByteArray) (k : Bool → Option α) : Option α :=
  (name_Count s1 fun r2 =>
    (cond (!(decide (r2 < 1)))
      (cond (decide (r2 > 12))
        (k false)
        (name_Fit_l0_run name_Count name_Rune
          (fun x6 s7 p8 =>
            (k x6))
          (fun s9 p10 =>
            (k true))
          1000 s1 0))
      (k false)))

noncomputable def name_Fit {α : Type} : name_Fit_T α := name_Fit_g name_Count name_Rune

noncomputable def name_Fit_sp {α : Type} (name_Fit : name_Fit_T α) : FunSpec α := ⟨52, [.str], [], fun ds k => name_Fit (hdS ds) (fun r1 => k (enc dep (.bool) [.b r1]).1 [])⟩

noncomputable def name_Fit_spec {α : Type} : FunSpec α := name_Fit_sp name_Fit

noncomputable def name_Fit_C {α : Type} (name_Count : name_Count_T α) (name_Rune : name_Rune_T α) : List (FunSpec α) := [name_Count_sp name_Count, name_Rune_sp name_Rune]

noncomputable def name_Fit_q : FuncId → Bool := fun f => Nat.beq f 91 || Nat.beq f 92

noncomputable def name_Fit_inl : FuncId → Bool := fun f => false

noncomputable def name_Fit_ann : FuncId → AnnT := fun f p => if f = 52 then (if p = [true, false, true, true, true] then ⟨[15], [], [], [2], 0, [], [], none⟩ else ⟨[], [], [], [], 0, [], [], none⟩) else ⟨[], [], [], [], 0, [], [], none⟩

noncomputable def name_Fit_l0_t : List Sh := [.dead, .dead, .dead, .dead, .dead, .dead, .dead, .dead, .dead, .dead, .dead, .dead, .dead, .dead, .dead, .ref 0 0, .dead, .dead, .dead, .dead, .dead, .dead, .dead, .dead, .dead, .dead, .dead, .dead, .dead, .dead, .dead]
noncomputable def name_Fit_l0_s : List (List Sh) := []
noncomputable def name_Fit_l0_h : List BSh := [.it]

noncomputable def name_Fit_l0_spec {α : Type} (name_Count : name_Count_T α) (name_Rune : name_Rune_T α) : LoopSpec α := ⟨6, 52, [true, false, true, true, true], name_Fit_l0_t, name_Fit_l0_s, name_Fit_l0_h, fun ds k => name_Fit_l0_run name_Count name_Rune (fun y1 y2 y3 => k .ret (encSt [.dead, .dead, .bool, .dead, .dead, .dead, .dead, .dead, .dead, .dead, .dead, .dead, .dead, .dead, .dead, .dead, .dead, .dead, .dead, .dead, .dead, .dead, .dead, .dead, .dead, .dead, .dead, .dead, .dead, .dead, .dead] [] [.it] [.b y1, .s y2, .i y3])) (fun y1 y2 => k (.exit 0) (encSt [.dead, .dead, .dead, .dead, .dead, .dead, .dead, .dead, .dead, .dead, .dead, .dead, .dead, .dead, .dead, .dead, .dead, .dead, .dead, .dead, .dead, .dead, .dead, .dead, .dead, .dead, .dead, .dead, .dead, .dead, .dead] [] [.it] [.s y1, .i y2])) 1000 (hdS ds) (hdI ds.tail)⟩

noncomputable def name_Fit_loops {α : Type} (name_Count : name_Count_T α) (name_Rune : name_Rune_T α) : List (LoopSpec α) := [name_Fit_l0_spec name_Count name_Rune]

noncomputable def name_Fit_l0_ev {α : Type} (name_Count : name_Count_T α) (name_Rune : name_Rune_T α) (n : Nat) (st : St) (k : X → St → Option α) : Option α := loopN (evCode Go.Proofs.Tryd.prog (callD Go.Proofs.Tryd.prog (envOf (name_Fit_C name_Count name_Rune) name_Fit_q name_Fit_inl 1000 name_Fit_ann false (name_Fit_loops name_Count name_Rune) (fun _ => none)) 6) (((envOf (name_Fit_C name_Count name_Rune) name_Fit_q name_Fit_inl 1000 name_Fit_ann false (name_Fit_loops name_Count name_Rune) (fun _ => none)) : Env α).L 6 52) 1000 (name_Fit_ann 52) (false :: [true, false, true, true, true]) (loopC Go.Proofs.Tryd.prog 52 [true, false, true, true, true])) ((name_Fit_ann 52 [true, false, true, true, true]).head 1) ((name_Fit_ann 52 [true, false, true, true, true]).leave 1) n st k

theorem name_Fit_l0_eq {α : Type} (name_Count : name_Count_T α) (name_Rune : name_Rune_T α) : ∀ (n : Nat) (s3 : ByteArray) (p4 : Int) (k : X → St → Option α), name_Fit_l0_ev name_Count name_Rune n (encSt name_Fit_l0_t name_Fit_l0_s name_Fit_l0_h [.s s3, .i p4]) k = name_Fit_l0_run name_Count name_Rune (fun y1 y2 y3 => k .ret (encSt [.dead, .dead, .bool, .dead, .dead, .dead, .dead, .dead, .dead, .dead, .dead, .dead, .dead, .dead, .dead, .dead, .dead, .dead, .dead, .dead, .dead, .dead, .dead, .dead, .dead, .dead, .dead, .dead, .dead, .dead, .dead] [] [.it] [.b y1, .s y2, .i y3])) (fun y1 y2 => k (.exit 0) (encSt [.dead, .dead, .dead, .dead, .dead, .dead, .dead, .dead, .dead, .dead, .dead, .dead, .dead, .dead, .dead, .dead, .dead, .dead, .dead, .dead, .dead, .dead, .dead, .dead, .dead, .dead, .dead, .dead, .dead, .dead, .dead] [] [.it] [.s y1, .i y2])) n s3 p4 := by
  intro n
  induction n with
  | zero => intros; kernel_rfl
  | succ n ih =>
    intro s3 p4 k
    have e : (fun (s3 : ByteArray) (p4 : Int) => name_Fit_l0_ev name_Count name_Rune n (encSt name_Fit_l0_t name_Fit_l0_s name_Fit_l0_h [.s s3, .i p4]) k) = (fun (s3 : ByteArray) (p4 : Int) => name_Fit_l0_run name_Count name_Rune (fun y1 y2 y3 => k .ret (encSt [.dead, .dead, .bool, .dead, .dead, .dead, .dead, .dead, .dead, .dead, .dead, .dead, .dead, .dead, .dead, .dead, .dead, .dead, .dead, .dead, .dead, .dead, .dead, .dead, .dead, .dead, .dead, .dead, .dead, .dead, .dead] [] [.it] [.b y1, .s y2, .i y3])) (fun y1 y2 => k (.exit 0) (encSt [.dead, .dead, .dead, .dead, .dead, .dead, .dead, .dead, .dead, .dead, .dead, .dead, .dead, .dead, .dead, .dead, .dead, .dead, .dead, .dead, .dead, .dead, .dead, .dead, .dead, .dead, .dead, .dead, .dead, .dead, .dead] [] [.it] [.s y1, .i y2])) n s3 p4) := by
      funext s3 p4
      exact ih s3 p4 k
    have h1 : name_Fit_l0_ev name_Count name_Rune (n + 1) (encSt name_Fit_l0_t name_Fit_l0_s name_Fit_l0_h [.s s3, .i p4]) k = name_Fit_l0_step name_Count name_Rune (fun y1 y2 y3 => k .ret (encSt [.dead, .dead, .bool, .dead, .dead, .dead, .dead, .dead, .dead, .dead, .dead, .dead, .dead, .dead, .dead, .dead, .dead, .dead, .dead, .dead, .dead, .dead, .dead, .dead, .dead, .dead, .dead, .dead, .dead, .dead, .dead] [] [.it] [.b y1, .s y2, .i y3])) (fun y1 y2 => k (.exit 0) (encSt [.dead, .dead, .dead, .dead, .dead, .dead, .dead, .dead, .dead, .dead, .dead, .dead, .dead, .dead, .dead, .dead, .dead, .dead, .dead, .dead, .dead, .dead, .dead, .dead, .dead, .dead, .dead, .dead, .dead, .dead, .dead] [] [.it] [.s y1, .i y2])) (fun (s3 : ByteArray) (p4 : Int) => name_Fit_l0_ev name_Count name_Rune n (encSt name_Fit_l0_t name_Fit_l0_s name_Fit_l0_h [.s s3, .i p4]) k) s3 p4 := by kernel_rfl
    have h2 := congrArg (fun r => name_Fit_l0_step name_Count name_Rune (fun y1 y2 y3 => k .ret (encSt [.dead, .dead, .bool, .dead, .dead, .dead, .dead, .dead, .dead, .dead, .dead, .dead, .dead, .dead, .dead, .dead, .dead, .dead, .dead, .dead, .dead, .dead, .dead, .dead, .dead, .dead, .dead, .dead, .dead, .dead, .dead] [] [.it] [.b y1, .s y2, .i y3])) (fun y1 y2 => k (.exit 0) (encSt [.dead, .dead, .dead, .dead, .dead, .dead, .dead, .dead, .dead, .dead, .dead, .dead, .dead, .dead, .dead, .dead, .dead, .dead, .dead, .dead, .dead, .dead, .dead, .dead, .dead, .dead, .dead, .dead, .dead, .dead, .dead] [] [.it] [.s y1, .i y2])) r s3 p4) e
    have h3 : name_Fit_l0_step name_Count name_Rune (fun y1 y2 y3 => k .ret (encSt [.dead, .dead, .bool, .dead, .dead, .dead, .dead, .dead, .dead, .dead, .dead, .dead, .dead, .dead, .dead, .dead, .dead, .dead, .dead, .dead, .dead, .dead, .dead, .dead, .dead, .dead, .dead, .dead, .dead, .dead, .dead] [] [.it] [.b y1, .s y2, .i y3])) (fun y1 y2 => k (.exit 0) (encSt [.dead, .dead, .dead, .dead, .dead, .dead, .dead, .dead, .dead, .dead, .dead, .dead, .dead, .dead, .dead, .dead, .dead, .dead, .dead, .dead, .dead, .dead, .dead, .dead, .dead, .dead, .dead, .dead, .dead, .dead, .dead] [] [.it] [.s y1, .i y2])) (fun (s3 : ByteArray) (p4 : Int) => name_Fit_l0_run name_Count name_Rune (fun y1 y2 y3 => k .ret (encSt [.dead, .dead, .bool, .dead, .dead, .dead, .dead, .dead, .dead, .dead, .dead, .dead, .dead, .dead, .dead, .dead, .dead, .dead, .dead, .dead, .dead, .dead, .dead, .dead, .dead, .dead, .dead, .dead, .dead, .dead, .dead] [] [.it] [.b y1, .s y2, .i y3])) (fun y1 y2 => k (.exit 0) (encSt [.dead, .dead, .dead, .dead, .dead, .dead, .dead, .dead, .dead, .dead, .dead, .dead, .dead, .dead, .dead, .dead, .dead, .dead, .dead, .dead, .dead, .dead, .dead, .dead, .dead, .dead, .dead, .dead, .dead, .dead, .dead] [] [.it] [.s y1, .i y2])) n s3 p4) s3 p4 = name_Fit_l0_run name_Count name_Rune (fun y1 y2 y3 => k .ret (encSt [.dead, .dead, .bool, .dead, .dead, .dead, .dead, .dead, .dead, .dead, .dead, .dead, .dead, .dead, .dead, .dead, .dead, .dead, .dead, .dead, .dead, .dead, .dead, .dead, .dead, .dead, .dead, .dead, .dead, .dead, .dead] [] [.it] [.b y1, .s y2, .i y3])) (fun y1 y2 => k (.exit 0) (encSt [.dead, .dead, .dead, .dead, .dead, .dead, .dead, .dead, .dead, .dead, .dead, .dead, .dead, .dead, .dead, .dead, .dead, .dead, .dead, .dead, .dead, .dead, .dead, .dead, .dead, .dead, .dead, .dead, .dead, .dead, .dead] [] [.it] [.s y1, .i y2])) (n + 1) s3 p4 := by kernel_rfl
    exact h1.trans (h2.trans h3)

theorem name_Fit_l0_ok {α : Type} (name_Count : name_Count_T α) (name_Rune : name_Rune_T α) : (name_Fit_l0_spec name_Count name_Rune : LoopSpec α).ok Go.Proofs.Tryd.prog (envOf (name_Fit_C name_Count name_Rune) name_Fit_q name_Fit_inl 1000 name_Fit_ann false (name_Fit_loops name_Count name_Rune) (fun _ => none)) := by
  intro ds k
  have h1 : name_Fit_l0_ev name_Count name_Rune 1000 (encSt name_Fit_l0_t name_Fit_l0_s name_Fit_l0_h ds) k = name_Fit_l0_ev name_Count name_Rune 1000 (encSt name_Fit_l0_t name_Fit_l0_s name_Fit_l0_h [.s (hdS ds), .i (hdI ds.tail)]) k := by kernel_rfl
  have h2 := name_Fit_l0_eq name_Count name_Rune 1000 (hdS ds) (hdI ds.tail) k
  exact h1.trans h2

theorem name_Fit_ev {α : Type} (name_Count : name_Count_T α) (name_Rune : name_Rune_T α) : EvOk (α := α) Go.Proofs.Tryd.prog (envOf (name_Fit_C name_Count name_Rune) name_Fit_q name_Fit_inl 1000 name_Fit_ann false (name_Fit_loops name_Count name_Rune) (fun _ => none)) 6 (name_Fit_sp (name_Fit_g name_Count name_Rune)) := by intro ds k; kernel_rfl

theorem name_Fit_ok {α : Type} : (name_Fit_spec : FunSpec α).ok Go.Proofs.Tryd.prog :=
  FunSpec.ok_of (sp := name_Fit_spec) (C := name_Fit_C name_Count name_Rune) (q := name_Fit_q) (inl := name_Fit_inl) (N := 1000) (ann := name_Fit_ann) (fr := false) (D := 6) (l := (name_Fit_loops name_Count name_Rune)) (hk := (fun _ => none)) (okCons name_Count_ok (okCons name_Rune_ok okNil)) (lokCons (name_Fit_l0_ok name_Count name_Rune) lokNil) noHooks (name_Fit_ev name_Count name_Rune)

end
end Go.Rv.Tryd

set_option linter.unusedVariables false
set_option maxRecDepth 100000
set_option maxHeartbeats 4000000
namespace Go.Rv.Tryd
open Go Go.Rv Go.RowKit
noncomputable section

-- drayman/stock.New

abbrev stock_New_T (α : Type) : Type := ByteArray → (Z0 → Int → Option α) → Option α

noncomputable def stock_New_g {α : Type} (name_Fit : name_Fit_T α) (sku1 : ByteArray) (k : Z0 → Int → Option α) : Option α :=
  (name_Fit sku1 fun r2 =>
    (cond (!r2)
      (k ((⟨#[]⟩ : ByteArray), 0, 0, 0, 0, 0, ()) 7)
      (k (sku1, 0, 0, 0, 0, 0, ()) 0)))

noncomputable def stock_New {α : Type} : stock_New_T α := stock_New_g name_Fit

noncomputable def stock_New_sp {α : Type} (stock_New : stock_New_T α) : FunSpec α := ⟨16, [.str], [], fun ds k => stock_New (hdS ds) (fun r1 r2 => k (enc dep (.tup [.agg [.str, .int .i64, .int .i64, .int .i64, .int .i64, .int .i64], .int .i64]) [.s r1.1, .i r1.2.1, .i r1.2.2.1, .i r1.2.2.2.1, .i r1.2.2.2.2.1, .i r1.2.2.2.2.2.1, .i r2]).1 [])⟩

noncomputable def stock_New_spec {α : Type} : FunSpec α := stock_New_sp stock_New

noncomputable def stock_New_C {α : Type} (name_Fit : name_Fit_T α) : List (FunSpec α) := [name_Fit_sp name_Fit]

noncomputable def stock_New_q : FuncId → Bool := fun f => Nat.beq f 52

noncomputable def stock_New_inl : FuncId → Bool := fun f => false

noncomputable def stock_New_ann : FuncId → AnnT := fun f p => ⟨[], [], [], [], 0, [], [], none⟩

noncomputable def stock_New_loops {α : Type} (name_Fit : name_Fit_T α) : List (LoopSpec α) := []

theorem stock_New_ev {α : Type} (name_Fit : name_Fit_T α) : EvOk (α := α) Go.Proofs.Tryd.prog (envOf (stock_New_C name_Fit) stock_New_q stock_New_inl 1000 stock_New_ann false (stock_New_loops name_Fit) (fun _ => none)) 6 (stock_New_sp (stock_New_g name_Fit)) := by intro ds k; kernel_rfl

theorem stock_New_ok {α : Type} : (stock_New_spec : FunSpec α).ok Go.Proofs.Tryd.prog :=
  FunSpec.ok_of (sp := stock_New_spec) (C := stock_New_C name_Fit) (q := stock_New_q) (inl := stock_New_inl) (N := 1000) (ann := stock_New_ann) (fr := false) (D := 6) (l := (stock_New_loops name_Fit)) (hk := (fun _ => none)) (okCons name_Fit_ok okNil) lokNil noHooks (stock_New_ev name_Fit)

end
end Go.Rv.Tryd

set_option linter.unusedVariables false
set_option maxRecDepth 100000
set_option maxHeartbeats 4000000
namespace Go.Rv.Tryd
open Go Go.Rv Go.RowKit
noncomputable section

-- drayman/num.Fit

abbrev num_Fit_T (α : Type) : Type := Int → (Bool → Option α) → Option α

noncomputable def num_Fit {α : Type} (n1 : Int) (k : Bool → Option α) : Option α :=
  (cond (decide (n1 ≥ 0))
    (k (decide (n1 ≤ 1099511627776)))
    (k false))

noncomputable def num_Fit_sp {α : Type} (num_Fit : num_Fit_T α) : FunSpec α := ⟨74, [.int .i64], [], fun ds k => num_Fit (hdI ds) (fun r1 => k (enc dep (.bool) [.b r1]).1 [])⟩

noncomputable def num_Fit_spec {α : Type} : FunSpec α := num_Fit_sp num_Fit

noncomputable def num_Fit_C {α : Type} : List (FunSpec α) := []

noncomputable def num_Fit_q : FuncId → Bool := fun f => false

noncomputable def num_Fit_inl : FuncId → Bool := fun f => false

noncomputable def num_Fit_ann : FuncId → AnnT := fun f p => ⟨[], [], [], [], 0, [], [], none⟩

noncomputable def num_Fit_loops {α : Type} : List (LoopSpec α) := []

theorem num_Fit_ev {α : Type} : EvOk (α := α) Go.Proofs.Tryd.prog (envOf (num_Fit_C) num_Fit_q num_Fit_inl 1000 num_Fit_ann false (num_Fit_loops) (fun _ => none)) 6 (num_Fit_sp (num_Fit)) := by intro ds k; kernel_rfl

theorem num_Fit_ok {α : Type} : (num_Fit_spec : FunSpec α).ok Go.Proofs.Tryd.prog :=
  FunSpec.ok_of (sp := num_Fit_spec) (C := num_Fit_C) (q := num_Fit_q) (inl := num_Fit_inl) (N := 1000) (ann := num_Fit_ann) (fr := false) (D := 6) (l := (num_Fit_loops)) (hk := (fun _ => none)) okNil lokNil noHooks (num_Fit_ev)

end
end Go.Rv.Tryd

set_option linter.unusedVariables false
set_option maxRecDepth 100000
set_option maxHeartbeats 4000000
namespace Go.Rv.Tryd
open Go Go.Rv Go.RowKit
noncomputable section

-- drayman/num.all

abbrev num_all_T (α : Type) : Type := (Seq (Int × Unit)) → (Bool → Option α) → Option α

noncomputable def num_all_l0_step {α : Type} (num_Fit : num_Fit_T α) (kr : (Bool) → Option α) (k0 : Option α) (rec : (Seq (Int × Unit)) → (Int) → (Int) → Option α) (x2 : Seq (Int × Unit)) (x3 : Int) (x4 : Int) : Option α :=
  (cond (decide (x4 < x3))
    (cond ((decide ((0 : Int) ≤ x4)) && (decide (x4 < (x2.n : Int))))
      (num_Fit ((x2.g x4.toNat).1) fun r5 =>
        (cond (!r5)
          (kr false)
          (rec x2 x3 (IntKind.i64.wrap (x4 + 1)))))
      none)
    (k0))

noncomputable def num_all_l0_run {α : Type} (num_Fit : num_Fit_T α) (kr : (Bool) → Option α) (k0 : Option α) : Nat → (Seq (Int × Unit)) → (Int) → (Int) → Option α
  | 0, _, _, _ => none
  | n + 1, x2, x3, x4 => num_all_l0_step num_Fit kr k0 (fun x2 x3 x4 => num_all_l0_run num_Fit kr k0 n x2 x3 x4) x2 x3 x4

noncomputable def num_all_g {α : Type} (num_Fit : num_Fit_T α) (l1 : Seq (Int × Unit)) (k : Bool → Option α) : Option α :=
  (num_all_l0_run num_Fit
    (fun x6 =>
      (k x6))
    ((k true))
    1000 l1 (l1.n : Int) 0)

noncomputable def num_all {α : Type} : num_all_T α := num_all_g num_Fit

noncomputable def num_all_sp {α : Type} (num_all : num_all_T α) : FunSpec α := ⟨99, [.sl (.int .i64 (.nil))], [], fun ds k => num_all (hdQ (.int .i64 (.nil)) ds) (fun r1 => k (enc dep (.bool) [.b r1]).1 [])⟩

noncomputable def num_all_spec {α : Type} : FunSpec α := num_all_sp num_all

noncomputable def num_all_C {α : Type} (num_Fit : num_Fit_T α) : List (FunSpec α) := [num_Fit_sp num_Fit]

noncomputable def num_all_q : FuncId → Bool := fun f => Nat.beq f 74

noncomputable def num_all_inl : FuncId → Bool := fun f => false

noncomputable def num_all_ann : FuncId → AnnT := fun f p => if f = 99 then (if p = [true, false, true] then ⟨[5, 6, 7], [], [], [2], 0, [], [], none⟩ else ⟨[], [], [], [], 0, [], [], none⟩) else ⟨[], [], [], [], 0, [], [], none⟩

noncomputable def num_all_l0_t : List Sh := [.dead, .dead, .dead, .dead, .dead, .sl (.int .i64 (.nil)), .int .i64, .int .i64, .dead, .dead, .dead, .dead, .dead, .dead, .dead]
noncomputable def num_all_l0_s : List (List Sh) := []
noncomputable def num_all_l0_h : List BSh := []

noncomputable def num_all_l0_spec {α : Type} (num_Fit : num_Fit_T α) : LoopSpec α := ⟨6, 99, [true, false, true], num_all_l0_t, num_all_l0_s, num_all_l0_h, fun ds k => num_all_l0_run num_Fit (fun y1 => k .ret (encSt [.dead, .dead, .bool, .dead, .dead, .dead, .dead, .dead, .dead, .dead, .dead, .dead, .dead, .dead, .dead] [] [] [.b y1])) (k (.exit 0) (encSt [.dead, .dead, .dead, .dead, .dead, .dead, .dead, .dead, .dead, .dead, .dead, .dead, .dead, .dead, .dead] [] [] [])) 1000 (hdQ (.int .i64 (.nil)) ds) (hdI ds.tail) (hdI ds.tail.tail)⟩

noncomputable def num_all_loops {α : Type} (num_Fit : num_Fit_T α) : List (LoopSpec α) := [num_all_l0_spec num_Fit]

noncomputable def num_all_l0_ev {α : Type} (num_Fit : num_Fit_T α) (n : Nat) (st : St) (k : X → St → Option α) : Option α := loopN (evCode Go.Proofs.Tryd.prog (callD Go.Proofs.Tryd.prog (envOf (num_all_C num_Fit) num_all_q num_all_inl 1000 num_all_ann false (num_all_loops num_Fit) (fun _ => none)) 6) (((envOf (num_all_C num_Fit) num_all_q num_all_inl 1000 num_all_ann false (num_all_loops num_Fit) (fun _ => none)) : Env α).L 6 99) 1000 (num_all_ann 99) (false :: [true, false, true]) (loopC Go.Proofs.Tryd.prog 99 [true, false, true])) ((num_all_ann 99 [true, false, true]).head 0) ((num_all_ann 99 [true, false, true]).leave 0) n st k

theorem num_all_l0_eq {α : Type} (num_Fit : num_Fit_T α) : ∀ (n : Nat) (x2 : Seq (Int × Unit)) (x3 : Int) (x4 : Int) (k : X → St → Option α), num_all_l0_ev num_Fit n (encSt num_all_l0_t num_all_l0_s num_all_l0_h [.q (.int .i64 (.nil)) x2, .i x3, .i x4]) k = num_all_l0_run num_Fit (fun y1 => k .ret (encSt [.dead, .dead, .bool, .dead, .dead, .dead, .dead, .dead, .dead, .dead, .dead, .dead, .dead, .dead, .dead] [] [] [.b y1])) (k (.exit 0) (encSt [.dead, .dead, .dead, .dead, .dead, .dead, .dead, .dead, .dead, .dead, .dead, .dead, .dead, .dead, .dead] [] [] [])) n x2 x3 x4 := by
  intro n
  induction n with
  | zero => intros; kernel_rfl
  | succ n ih =>
    intro x2 x3 x4 k
    have e : (fun (x2 : Seq (Int × Unit)) (x3 : Int) (x4 : Int) => num_all_l0_ev num_Fit n (encSt num_all_l0_t num_all_l0_s num_all_l0_h [.q (.int .i64 (.nil)) x2, .i x3, .i x4]) k) = (fun (x2 : Seq (Int × Unit)) (x3 : Int) (x4 : Int) => num_all_l0_run num_Fit (fun y1 => k .ret (encSt [.dead, .dead, .bool, .dead, .dead, .dead, .dead, .dead, .dead, .dead, .dead, .dead, .dead, .dead, .dead] [] [] [.b y1])) (k (.exit 0) (encSt [.dead, .dead, .dead, .dead, .dead, .dead, .dead, .dead, .dead, .dead, .dead, .dead, .dead, .dead, .dead] [] [] [])) n x2 x3 x4) := by
      funext x2 x3 x4
      exact ih x2 x3 x4 k
    have h1 : num_all_l0_ev num_Fit (n + 1) (encSt num_all_l0_t num_all_l0_s num_all_l0_h [.q (.int .i64 (.nil)) x2, .i x3, .i x4]) k = num_all_l0_step num_Fit (fun y1 => k .ret (encSt [.dead, .dead, .bool, .dead, .dead, .dead, .dead, .dead, .dead, .dead, .dead, .dead, .dead, .dead, .dead] [] [] [.b y1])) (k (.exit 0) (encSt [.dead, .dead, .dead, .dead, .dead, .dead, .dead, .dead, .dead, .dead, .dead, .dead, .dead, .dead, .dead] [] [] [])) (fun (x2 : Seq (Int × Unit)) (x3 : Int) (x4 : Int) => num_all_l0_ev num_Fit n (encSt num_all_l0_t num_all_l0_s num_all_l0_h [.q (.int .i64 (.nil)) x2, .i x3, .i x4]) k) x2 x3 x4 := by kernel_rfl
    have h2 := congrArg (fun r => num_all_l0_step num_Fit (fun y1 => k .ret (encSt [.dead, .dead, .bool, .dead, .dead, .dead, .dead, .dead, .dead, .dead, .dead, .dead, .dead, .dead, .dead] [] [] [.b y1])) (k (.exit 0) (encSt [.dead, .dead, .dead, .dead, .dead, .dead, .dead, .dead, .dead, .dead, .dead, .dead, .dead, .dead, .dead] [] [] [])) r x2 x3 x4) e
    have h3 : num_all_l0_step num_Fit (fun y1 => k .ret (encSt [.dead, .dead, .bool, .dead, .dead, .dead, .dead, .dead, .dead, .dead, .dead, .dead, .dead, .dead, .dead] [] [] [.b y1])) (k (.exit 0) (encSt [.dead, .dead, .dead, .dead, .dead, .dead, .dead, .dead, .dead, .dead, .dead, .dead, .dead, .dead, .dead] [] [] [])) (fun (x2 : Seq (Int × Unit)) (x3 : Int) (x4 : Int) => num_all_l0_run num_Fit (fun y1 => k .ret (encSt [.dead, .dead, .bool, .dead, .dead, .dead, .dead, .dead, .dead, .dead, .dead, .dead, .dead, .dead, .dead] [] [] [.b y1])) (k (.exit 0) (encSt [.dead, .dead, .dead, .dead, .dead, .dead, .dead, .dead, .dead, .dead, .dead, .dead, .dead, .dead, .dead] [] [] [])) n x2 x3 x4) x2 x3 x4 = num_all_l0_run num_Fit (fun y1 => k .ret (encSt [.dead, .dead, .bool, .dead, .dead, .dead, .dead, .dead, .dead, .dead, .dead, .dead, .dead, .dead, .dead] [] [] [.b y1])) (k (.exit 0) (encSt [.dead, .dead, .dead, .dead, .dead, .dead, .dead, .dead, .dead, .dead, .dead, .dead, .dead, .dead, .dead] [] [] [])) (n + 1) x2 x3 x4 := by kernel_rfl
    exact h1.trans (h2.trans h3)

theorem num_all_l0_ok {α : Type} (num_Fit : num_Fit_T α) : (num_all_l0_spec num_Fit : LoopSpec α).ok Go.Proofs.Tryd.prog (envOf (num_all_C num_Fit) num_all_q num_all_inl 1000 num_all_ann false (num_all_loops num_Fit) (fun _ => none)) := by
  intro ds k
  have h1 : num_all_l0_ev num_Fit 1000 (encSt num_all_l0_t num_all_l0_s num_all_l0_h ds) k = num_all_l0_ev num_Fit 1000 (encSt num_all_l0_t num_all_l0_s num_all_l0_h [.q (.int .i64 (.nil)) (hdQ (.int .i64 (.nil)) ds), .i (hdI ds.tail), .i (hdI ds.tail.tail)]) k := by kernel_rfl
  have h2 := num_all_l0_eq num_Fit 1000 (hdQ (.int .i64 (.nil)) ds) (hdI ds.tail) (hdI ds.tail.tail) k
  exact h1.trans h2

theorem num_all_ev {α : Type} (num_Fit : num_Fit_T α) : EvOk (α := α) Go.Proofs.Tryd.prog (envOf (num_all_C num_Fit) num_all_q num_all_inl 1000 num_all_ann false (num_all_loops num_Fit) (fun _ => none)) 6 (num_all_sp (num_all_g num_Fit)) := by intro ds k; kernel_rfl

theorem num_all_ok {α : Type} : (num_all_spec : FunSpec α).ok Go.Proofs.Tryd.prog :=
  FunSpec.ok_of (sp := num_all_spec) (C := num_all_C num_Fit) (q := num_all_q) (inl := num_all_inl) (N := 1000) (ann := num_all_ann) (fr := false) (D := 6) (l := (num_all_loops num_Fit)) (hk := (fun _ => none)) (okCons num_Fit_ok okNil) (lokCons (num_all_l0_ok num_Fit) lokNil) noHooks (num_all_ev num_Fit)

end
end Go.Rv.Tryd

set_option linter.unusedVariables false
set_option maxRecDepth 100000
set_option maxHeartbeats 4000000
namespace Go.Rv.Tryd
open Go Go.Rv Go.RowKit
noncomputable section

-- drayman/num.Sum

abbrev num_Sum_T (α : Type) : Type := (Seq (Int × Unit)) → (Int → Int → Option α) → Option α

noncomputable def num_Sum_l0_step {α : Type} (num_all : num_all_T α) (kr : (Int) → (Int) → Option α) (k0 : (Int) → Option α) (rec : (Int) → (Seq (Int × Unit)) → (Int) → (Int) → Option α) (sum3 : Int) (x4 : Seq (Int × Unit)) (x5 : Int) (x6 : Int) : Option α :=
  (cond (decide (x6 < x5))
    (cond ((decide ((0 : Int) ≤ x6)) && (decide (x6 < (x4.n : Int))))
      (cond (decide ((IntKind.i64.wrap (sum3 + (x4.g x6.toNat).1)) > 1099511627776))
        (kr 0 5)
        (rec (IntKind.i64.wrap (sum3 + (x4.g x6.toNat).1)) x4 x5 (IntKind.i64.wrap (x6 + 1))))
      none)
    (k0 sum3))

noncomputable def num_Sum_l0_run {α : Type} (num_all : num_all_T α) (kr : (Int) → (Int) → Option α) (k0 : (Int) → Option α) : Nat → (Int) → (Seq (Int × Unit)) → (Int) → (Int) → Option α
  | 0, _, _, _, _ => none
  | n + 1, sum3, x4, x5, x6 => num_Sum_l0_step num_all kr k0 (fun sum3 x4 x5 x6 => num_Sum_l0_run num_all kr k0 n sum3 x4 x5 x6) sum3 x4 x5 x6

noncomputable def num_Sum_g {α : Type} (num_all : num_all_T α) (l1 : Seq (Int × Unit)) (k : Int → Int → Option α) : Option α :=
  (num_all l1 fun r2 =>
    (cond (!r2)
      (k 0 11)
      (num_Sum_l0_run num_all
        (fun x7 x8 =>
          (k x7 x8))
        (fun x9 =>
          (k x9 0))
        1000 0 l1 (l1.n : Int) 0)))

noncomputable def num_Sum {α : Type} : num_Sum_T α := num_Sum_g num_all

noncomputable def num_Sum_sp {α : Type} (num_Sum : num_Sum_T α) : FunSpec α := ⟨58, [.sl (.int .i64 (.nil))], [], fun ds k => num_Sum (hdQ (.int .i64 (.nil)) ds) (fun r1 r2 => k (enc dep (.tup [.int .i64, .int .i64]) [.i r1, .i r2]).1 [])⟩

noncomputable def num_Sum_spec {α : Type} : FunSpec α := num_Sum_sp num_Sum

noncomputable def num_Sum_C {α : Type} (num_all : num_all_T α) : List (FunSpec α) := [num_all_sp num_all]

noncomputable def num_Sum_q : FuncId → Bool := fun f => Nat.beq f 99

noncomputable def num_Sum_inl : FuncId → Bool := fun f => false

noncomputable def num_Sum_ann : FuncId → AnnT := fun f p => if f = 58 then (if p = [true, false, true, true, true] then ⟨[4, 10, 11, 12], [], [4], [2, 3], 0, [], [], none⟩ else ⟨[], [], [], [], 0, [], [], none⟩) else ⟨[], [], [], [], 0, [], [], none⟩

noncomputable def num_Sum_l0_t : List Sh := [.dead, .dead, .dead, .dead, .int .i64, .dead, .dead, .dead, .dead, .dead, .sl (.int .i64 (.nil)), .int .i64, .int .i64, .dead, .dead, .dead, .dead, .dead, .dead, .dead, .dead, .dead, .dead]
noncomputable def num_Sum_l0_s : List (List Sh) := []
noncomputable def num_Sum_l0_h : List BSh := []

noncomputable def num_Sum_l0_spec {α : Type} (num_all : num_all_T α) : LoopSpec α := ⟨6, 58, [true, false, true, true, true], num_Sum_l0_t, num_Sum_l0_s, num_Sum_l0_h, fun ds k => num_Sum_l0_run num_all (fun y1 y2 => k .ret (encSt [.dead, .dead, .int .i64, .int .i64, .dead, .dead, .dead, .dead, .dead, .dead, .dead, .dead, .dead, .dead, .dead, .dead, .dead, .dead, .dead, .dead, .dead, .dead, .dead] [] [] [.i y1, .i y2])) (fun y1 => k (.exit 0) (encSt [.dead, .dead, .dead, .dead, .int .i64, .dead, .dead, .dead, .dead, .dead, .dead, .dead, .dead, .dead, .dead, .dead, .dead, .dead, .dead, .dead, .dead, .dead, .dead] [] [] [.i y1])) 1000 (hdI ds) (hdQ (.int .i64 (.nil)) ds.tail) (hdI ds.tail.tail) (hdI ds.tail.tail.tail)⟩

noncomputable def num_Sum_loops {α : Type} (num_all : num_all_T α) : List (LoopSpec α) := [num_Sum_l0_spec num_all]

noncomputable def num_Sum_l0_ev {α : Type} (num_all : num_all_T α) (n : Nat) (st : St) (k : X → St → Option α) : Option α := loopN (evCode Go.Proofs.Tryd.prog (callD Go.Proofs.Tryd.prog (envOf (num_Sum_C num_all) num_Sum_q num_Sum_inl 1000 num_Sum_ann false (num_Sum_loops num_all) (fun _ => none)) 6) (((envOf (num_Sum_C num_all) num_Sum_q num_Sum_inl 1000 num_Sum_ann false (num_Sum_loops num_all) (fun _ => none)) : Env α).L 6 58) 1000 (num_Sum_ann 58) (false :: [true, false, true, true, true]) (loopC Go.Proofs.Tryd.prog 58 [true, false, true, true, true])) ((num_Sum_ann 58 [true, false, true, true, true]).head 0) ((num_Sum_ann 58 [true, false, true, true, true]).leave 0) n st k

theorem num_Sum_l0_eq {α : Type} (num_all : num_all_T α) : ∀ (n : Nat) (sum3 : Int) (x4 : Seq (Int × Unit)) (x5 : Int) (x6 : Int) (k : X → St → Option α), num_Sum_l0_ev num_all n (encSt num_Sum_l0_t num_Sum_l0_s num_Sum_l0_h [.i sum3, .q (.int .i64 (.nil)) x4, .i x5, .i x6]) k = num_Sum_l0_run num_all (fun y1 y2 => k .ret (encSt [.dead, .dead, .int .i64, .int .i64, .dead, .dead, .dead, .dead, .dead, .dead, .dead, .dead, .dead, .dead, .dead, .dead, .dead, .dead, .dead, .dead, .dead, .dead, .dead] [] [] [.i y1, .i y2])) (fun y1 => k (.exit 0) (encSt [.dead, .dead, .dead, .dead, .int .i64, .dead, .dead, .dead, .dead, .dead, .dead, .dead, .dead, .dead, .dead, .dead, .dead, .dead, .dead, .dead, .dead, .dead, .dead] [] [] [.i y1])) n sum3 x4 x5 x6 := by
  intro n
  induction n with
  | zero => intros; kernel_rfl
  | succ n ih =>
    intro sum3 x4 x5 x6 k
    have e : (fun (sum3 : Int) (x4 : Seq (Int × Unit)) (x5 : Int) (x6 : Int) => num_Sum_l0_ev num_all n (encSt num_Sum_l0_t num_Sum_l0_s num_Sum_l0_h [.i sum3, .q (.int .i64 (.nil)) x4, .i x5, .i x6]) k) = (fun (sum3 : Int) (x4 : Seq (Int × Unit)) (x5 : Int) (x6 : Int) => num_Sum_l0_run num_all (fun y1 y2 => k .ret (encSt [.dead, .dead, .int .i64, .int .i64, .dead, .dead, .dead, .dead, .dead, .dead, .dead, .dead, .dead, .dead, .dead, .dead, .dead, .dead, .dead, .dead, .dead, .dead, .dead] [] [] [.i y1, .i y2])) (fun y1 => k (.exit 0) (encSt [.dead, .dead, .dead, .dead, .int .i64, .dead, .dead, .dead, .dead, .dead, .dead, .dead, .dead, .dead, .dead, .dead, .dead, .dead, .dead, .dead, .dead, .dead, .dead] [] [] [.i y1])) n sum3 x4 x5 x6) := by
      funext sum3 x4 x5 x6
      exact ih sum3 x4 x5 x6 k
    have h1 : num_Sum_l0_ev num_all (n + 1) (encSt num_Sum_l0_t num_Sum_l0_s num_Sum_l0_h [.i sum3, .q (.int .i64 (.nil)) x4, .i x5, .i x6]) k = num_Sum_l0_step num_all (fun y1 y2 => k .ret (encSt [.dead, .dead, .int .i64, .int .i64, .dead, .dead, .dead, .dead, .dead, .dead, .dead, .dead, .dead, .dead, .dead, .dead, .dead, .dead, .dead, .dead, .dead, .dead, .dead] [] [] [.i y1, .i y2])) (fun y1 => k (.exit 0) (encSt [.dead, .dead, .dead, .dead, .int .i64, .dead, .dead, .dead, .dead, .dead, .dead, .dead, .dead, .dead, .dead, .dead, .dead, .dead, .dead, .dead, .dead, .dead, .dead] [] [] [.i y1])) (fun (sum3 : Int) (x4 : Seq (Int × Unit)) (x5 : Int) (x6 : Int) => num_Sum_l0_ev num_all n (encSt num_Sum_l0_t num_Sum_l0_s num_Sum_l0_h [.i sum3, .q (.int .i64 (.nil)) x4, .i x5, .i x6]) k) sum3 x4 x5 x6 := by kernel_rfl
    have h2 := congrArg (fun r => num_Sum_l0_step num_all (fun y1 y2 => k .ret (encSt [.dead, .dead, .int .i64, .int .i64, .dead, .dead, .dead, .dead, .dead, .dead, .dead, .dead, .dead, .dead, .dead, .dead, .dead, .dead, .dead, .dead, .dead, .dead, .dead] [] [] [.i y1, .i y2])) (fun y1 => k (.exit 0) (encSt [.dead, .dead, .dead, .dead, .int .i64, .dead, .dead, .dead, .dead, .dead, .dead, .dead, .dead, .dead, .dead, .dead, .dead, .dead, .dead, .dead, .dead, .dead, .dead] [] [] [.i y1])) r sum3 x4 x5 x6) e
    have h3 : num_Sum_l0_step num_all (fun y1 y2 => k .ret (encSt [.dead, .dead, .int .i64, .int .i64, .dead, .dead, .dead, .dead, .dead, .dead, .dead, .dead, .dead, .dead, .dead, .dead, .dead, .dead, .dead, .dead, .dead, .dead, .dead] [] [] [.i y1, .i y2])) (fun y1 => k (.exit 0) (encSt [.dead, .dead, .dead, .dead, .int .i64, .dead, .dead, .dead, .dead, .dead, .dead, .dead, .dead, .dead, .dead, .dead, .dead, .dead, .dead, .dead, .dead, .dead, .dead] [] [] [.i y1])) (fun (sum3 : Int) (x4 : Seq (Int × Unit)) (x5 : Int) (x6 : Int) => num_Sum_l0_run num_all (fun y1 y2 => k .ret (encSt [.dead, .dead, .int .i64, .int .i64, .dead, .dead, .dead, .dead, .dead, .dead, .dead, .dead, .dead, .dead, .dead, .dead, .dead, .dead, .dead, .dead, .dead, .dead, .dead] [] [] [.i y1, .i y2])) (fun y1 => k (.exit 0) (encSt [.dead, .dead, .dead, .dead, .int .i64, .dead, .dead, .dead, .dead, .dead, .dead, .dead, .dead, .dead, .dead, .dead, .dead, .dead, .dead, .dead, .dead, .dead, .dead] [] [] [.i y1])) n sum3 x4 x5 x6) sum3 x4 x5 x6 = num_Sum_l0_run num_all (fun y1 y2 => k .ret (encSt [.dead, .dead, .int .i64, .int .i64, .dead, .dead, .dead, .dead, .dead, .dead, .dead, .dead, .dead, .dead, .dead, .dead, .dead, .dead, .dead, .dead, .dead, .dead, .dead] [] [] [.i y1, .i y2])) (fun y1 => k (.exit 0) (encSt [.dead, .dead, .dead, .dead, .int .i64, .dead, .dead, .dead, .dead, .dead, .dead, .dead, .dead, .dead, .dead, .dead, .dead, .dead, .dead, .dead, .dead, .dead, .dead] [] [] [.i y1])) (n + 1) sum3 x4 x5 x6 := by kernel_rfl
    exact h1.trans (h2.trans h3)

theorem num_Sum_l0_ok {α : Type} (num_all : num_all_T α) : (num_Sum_l0_spec num_all : LoopSpec α).ok Go.Proofs.Tryd.prog (envOf (num_Sum_C num_all) num_Sum_q num_Sum_inl 1000 num_Sum_ann false (num_Sum_loops num_all) (fun _ => none)) := by
  intro ds k
  have h1 : num_Sum_l0_ev num_all 1000 (encSt num_Sum_l0_t num_Sum_l0_s num_Sum_l0_h ds) k = num_Sum_l0_ev num_all 1000 (encSt num_Sum_l0_t num_Sum_l0_s num_Sum_l0_h [.i (hdI ds), .q (.int .i64 (.nil)) (hdQ (.int .i64 (.nil)) ds.tail), .i (hdI ds.tail.tail), .i (hdI ds.tail.tail.tail)]) k := by kernel_rfl
  have h2 := num_Sum_l0_eq num_all 1000 (hdI ds) (hdQ (.int .i64 (.nil)) ds.tail) (hdI ds.tail.tail) (hdI ds.tail.tail.tail) k
  exact h1.trans h2

theorem num_Sum_ev {α : Type} (num_all : num_all_T α) : EvOk (α := α) Go.Proofs.Tryd.prog (envOf (num_Sum_C num_all) num_Sum_q num_Sum_inl 1000 num_Sum_ann false (num_Sum_loops num_all) (fun _ => none)) 6 (num_Sum_sp (num_Sum_g num_all)) := by intro ds k; kernel_rfl

theorem num_Sum_ok {α : Type} : (num_Sum_spec : FunSpec α).ok Go.Proofs.Tryd.prog :=
  FunSpec.ok_of (sp := num_Sum_spec) (C := num_Sum_C num_all) (q := num_Sum_q) (inl := num_Sum_inl) (N := 1000) (ann := num_Sum_ann) (fr := false) (D := 6) (l := (num_Sum_loops num_all)) (hk := (fun _ => none)) (okCons num_all_ok okNil) (lokCons (num_Sum_l0_ok num_all) lokNil) noHooks (num_Sum_ev num_all)

end
end Go.Rv.Tryd

set_option linter.unusedVariables false
set_option maxRecDepth 100000
set_option maxHeartbeats 4000000
namespace Go.Rv.Tryd
open Go Go.Rv Go.RowKit
noncomputable section

-- drayman/stock.Fit

abbrev stock_Fit_T (α : Type) : Type := Z0 → (Bool → Option α) → Option α

noncomputable def stock_Fit_g {α : Type} (num_Sum : num_Sum_T α) (name_Fit : name_Fit_T α) (x1 : ByteArray × Int × Int × Int × Int × Int × Unit) (k : Bool → Option α) : Option α :=
  (num_Sum (⟨false, 4, (tSel [(x1.2.1, ()), (x1.2.2.1, ()), (x1.2.2.2.1, ()), (x1.2.2.2.2.1, ())] (0, ()))⟩ : Seq (Int × Unit)) fun r2 r3 =>
    (name_Fit x1.1 fun r4 =>
      (cond r4
        (cond (r3 == 0)
          (k (r2 == x1.2.2.2.2.2.1))
          (k false))
        (k false))))

noncomputable def stock_Fit {α : Type} : stock_Fit_T α := stock_Fit_g num_Sum name_Fit

noncomputable def stock_Fit_sp {α : Type} (stock_Fit : stock_Fit_T α) : FunSpec α := ⟨20, [.agg [.str, .int .i64, .int .i64, .int .i64, .int .i64, .int .i64]], [], fun ds k => stock_Fit (hdS ds, hdI ds.tail, hdI ds.tail.tail, hdI ds.tail.tail.tail, hdI ds.tail.tail.tail.tail, hdI ds.tail.tail.tail.tail.tail, ()) (fun r1 => k (enc dep (.bool) [.b r1]).1 [])⟩

noncomputable def stock_Fit_spec {α : Type} : FunSpec α := stock_Fit_sp stock_Fit

noncomputable def stock_Fit_C {α : Type} (num_Sum : num_Sum_T α) (name_Fit : name_Fit_T α) : List (FunSpec α) := [num_Sum_sp num_Sum, name_Fit_sp name_Fit]

noncomputable def stock_Fit_q : FuncId → Bool := fun f => Nat.beq f 52 || Nat.beq f 58

noncomputable def stock_Fit_inl : FuncId → Bool := fun f => false

noncomputable def stock_Fit_ann : FuncId → AnnT := fun f p => ⟨[], [], [], [], 0, [], [], none⟩

noncomputable def stock_Fit_loops {α : Type} (num_Sum : num_Sum_T α) (name_Fit : name_Fit_T α) : List (LoopSpec α) := []

theorem stock_Fit_ev {α : Type} (num_Sum : num_Sum_T α) (name_Fit : name_Fit_T α) : EvOk (α := α) Go.Proofs.Tryd.prog (envOf (stock_Fit_C num_Sum name_Fit) stock_Fit_q stock_Fit_inl 1000 stock_Fit_ann false (stock_Fit_loops num_Sum name_Fit) (fun _ => none)) 6 (stock_Fit_sp (stock_Fit_g num_Sum name_Fit)) := by intro ds k; kernel_rfl

theorem stock_Fit_ok {α : Type} : (stock_Fit_spec : FunSpec α).ok Go.Proofs.Tryd.prog :=
  FunSpec.ok_of (sp := stock_Fit_spec) (C := stock_Fit_C num_Sum name_Fit) (q := stock_Fit_q) (inl := stock_Fit_inl) (N := 1000) (ann := stock_Fit_ann) (fr := false) (D := 6) (l := (stock_Fit_loops num_Sum name_Fit)) (hk := (fun _ => none)) (okCons num_Sum_ok (okCons name_Fit_ok okNil)) lokNil noHooks (stock_Fit_ev num_Sum name_Fit)

end
end Go.Rv.Tryd

set_option linter.unusedVariables false
set_option maxRecDepth 100000
set_option maxHeartbeats 4000000
namespace Go.Rv.Tryd
open Go Go.Rv Go.RowKit
noncomputable section

-- drayman/num.Shift

abbrev num_Shift_T (α : Type) : Type := Int → Int → (Int → Int → Option α) → Option α

noncomputable def num_Shift_g {α : Type} (num_Fit : num_Fit_T α) (a1 : Int) (x2 : Int) (k : Int → Int → Option α) : Option α :=
  (num_Fit a1 fun r3 =>
    (cond (!(!r3))
      (cond (!(decide (x2 < (-1099511627776))))
        (cond (decide (x2 > 1099511627776))
          (k 0 11)
          (cond (decide ((IntKind.i64.wrap (a1 + x2)) < 0))
            (k 0 6)
            (cond (decide ((IntKind.i64.wrap (a1 + x2)) > 1099511627776))
              (k 0 5)
              (k (IntKind.i64.wrap (a1 + x2)) 0))))
        (k 0 11))
      (k 0 11)))

noncomputable def num_Shift {α : Type} : num_Shift_T α := num_Shift_g num_Fit

noncomputable def num_Shift_sp {α : Type} (num_Shift : num_Shift_T α) : FunSpec α := ⟨90, [.int .i64, .int .i64], [], fun ds k => num_Shift (hdI ds) (hdI ds.tail) (fun r1 r2 => k (enc dep (.tup [.int .i64, .int .i64]) [.i r1, .i r2]).1 [])⟩

noncomputable def num_Shift_spec {α : Type} : FunSpec α := num_Shift_sp num_Shift

noncomputable def num_Shift_C {α : Type} (num_Fit : num_Fit_T α) : List (FunSpec α) := [num_Fit_sp num_Fit]

noncomputable def num_Shift_q : FuncId → Bool := fun f => Nat.beq f 74

noncomputable def num_Shift_inl : FuncId → Bool := fun f => false

noncomputable def num_Shift_ann : FuncId → AnnT := fun f p => ⟨[], [], [], [], 0, [], [], none⟩

noncomputable def num_Shift_loops {α : Type} (num_Fit : num_Fit_T α) : List (LoopSpec α) := []

theorem num_Shift_ev {α : Type} (num_Fit : num_Fit_T α) : EvOk (α := α) Go.Proofs.Tryd.prog (envOf (num_Shift_C num_Fit) num_Shift_q num_Shift_inl 1000 num_Shift_ann false (num_Shift_loops num_Fit) (fun _ => none)) 6 (num_Shift_sp (num_Shift_g num_Fit)) := by intro ds k; kernel_rfl

theorem num_Shift_ok {α : Type} : (num_Shift_spec : FunSpec α).ok Go.Proofs.Tryd.prog :=
  FunSpec.ok_of (sp := num_Shift_spec) (C := num_Shift_C num_Fit) (q := num_Shift_q) (inl := num_Shift_inl) (N := 1000) (ann := num_Shift_ann) (fr := false) (D := 6) (l := (num_Shift_loops num_Fit)) (hk := (fun _ => none)) (okCons num_Fit_ok okNil) lokNil noHooks (num_Shift_ev num_Fit)

end
end Go.Rv.Tryd

set_option linter.unusedVariables false
set_option maxRecDepth 100000
set_option maxHeartbeats 4000000
namespace Go.Rv.Tryd
open Go Go.Rv Go.RowKit
noncomputable section

-- drayman/stock.put

abbrev stock_put_T (α : Type) : Type := Z0 → Int → (Z0 → Int → Option α) → Option α

noncomputable def stock_put_g {α : Type} (num_Shift : num_Shift_T α) (x1 : ByteArray × Int × Int × Int × Int × Int × Unit) (x2 : Int) (k : Z0 → Int → Option α) : Option α :=
  (cond (decide ((IntKind.i64.wrap (x1.2.1 + x2)) < 0))
    (k ((⟨#[]⟩ : ByteArray), 0, 0, 0, 0, 0, ()) 6)
    (num_Shift x1.2.2.2.2.2.1 x2 fun r3 r4 =>
      (cond (r4 != 0)
        (k ((⟨#[]⟩ : ByteArray), 0, 0, 0, 0, 0, ()) r4)
        (k (x1.1, (IntKind.i64.wrap (x1.2.1 + x2)), x1.2.2.1, x1.2.2.2.1, x1.2.2.2.2.1, r3, ()) 0))))

noncomputable def stock_put {α : Type} : stock_put_T α := stock_put_g num_Shift

noncomputable def stock_put_sp {α : Type} (stock_put : stock_put_T α) : FunSpec α := ⟨51, [.agg [.str, .int .i64, .int .i64, .int .i64, .int .i64, .int .i64], .int .i64], [], fun ds k => stock_put (hdS ds, hdI ds.tail, hdI ds.tail.tail, hdI ds.tail.tail.tail, hdI ds.tail.tail.tail.tail, hdI ds.tail.tail.tail.tail.tail, ()) (hdI ds.tail.tail.tail.tail.tail.tail) (fun r1 r2 => k (enc dep (.tup [.agg [.str, .int .i64, .int .i64, .int .i64, .int .i64, .int .i64], .int .i64]) [.s r1.1, .i r1.2.1, .i r1.2.2.1, .i r1.2.2.2.1, .i r1.2.2.2.2.1, .i r1.2.2.2.2.2.1, .i r2]).1 [])⟩

noncomputable def stock_put_spec {α : Type} : FunSpec α := stock_put_sp stock_put

noncomputable def stock_put_C {α : Type} (num_Shift : num_Shift_T α) : List (FunSpec α) := [num_Shift_sp num_Shift]

noncomputable def stock_put_q : FuncId → Bool := fun f => Nat.beq f 90

noncomputable def stock_put_inl : FuncId → Bool := fun f => false

noncomputable def stock_put_ann : FuncId → AnnT := fun f p => ⟨[], [], [], [], 0, [], [], none⟩

noncomputable def stock_put_loops {α : Type} (num_Shift : num_Shift_T α) : List (LoopSpec α) := []

theorem stock_put_ev {α : Type} (num_Shift : num_Shift_T α) : EvOk (α := α) Go.Proofs.Tryd.prog (envOf (stock_put_C num_Shift) stock_put_q stock_put_inl 1000 stock_put_ann false (stock_put_loops num_Shift) (fun _ => none)) 6 (stock_put_sp (stock_put_g num_Shift)) := by intro ds k; kernel_rfl

theorem stock_put_ok {α : Type} : (stock_put_spec : FunSpec α).ok Go.Proofs.Tryd.prog :=
  FunSpec.ok_of (sp := stock_put_spec) (C := stock_put_C num_Shift) (q := stock_put_q) (inl := stock_put_inl) (N := 1000) (ann := stock_put_ann) (fr := false) (D := 6) (l := (stock_put_loops num_Shift)) (hk := (fun _ => none)) (okCons num_Shift_ok okNil) lokNil noHooks (stock_put_ev num_Shift)

end
end Go.Rv.Tryd

set_option linter.unusedVariables false
set_option maxRecDepth 100000
set_option maxHeartbeats 4000000
namespace Go.Rv.Tryd
open Go Go.Rv Go.RowKit
noncomputable section

-- drayman/stock.Restock

abbrev stock_Restock_T (α : Type) : Type := Z0 → Int → (Z0 → Int → Option α) → Option α

noncomputable def stock_Restock_g {α : Type} (stock_Fit : stock_Fit_T α) (stock_put : stock_put_T α) (x1 : ByteArray × Int × Int × Int × Int × Int × Unit) (n2 : Int) (k : Z0 → Int → Option α) : Option α :=
  (stock_Fit x1 fun r3 =>
    (cond (!r3)
      (k ((⟨#[]⟩ : ByteArray), 0, 0, 0, 0, 0, ()) 12)
      (cond (!(decide (n2 < 1)))
        (cond (decide (n2 > 1099511627776))
          (k ((⟨#[]⟩ : ByteArray), 0, 0, 0, 0, 0, ()) 11)
          (stock_put x1 n2 fun r4 r5 =>
            (k r4 r5)))
        (k ((⟨#[]⟩ : ByteArray), 0, 0, 0, 0, 0, ()) 11))))

noncomputable def stock_Restock {α : Type} : stock_Restock_T α := stock_Restock_g stock_Fit stock_put

noncomputable def stock_Restock_sp {α : Type} (stock_Restock : stock_Restock_T α) : FunSpec α := ⟨12, [.agg [.str, .int .i64, .int .i64, .int .i64, .int .i64, .int .i64], .int .i64], [], fun ds k => stock_Restock (hdS ds, hdI ds.tail, hdI ds.tail.tail, hdI ds.tail.tail.tail, hdI ds.tail.tail.tail.tail, hdI ds.tail.tail.tail.tail.tail, ()) (hdI ds.tail.tail.tail.tail.tail.tail) (fun r1 r2 => k (enc dep (.tup [.agg [.str, .int .i64, .int .i64, .int .i64, .int .i64, .int .i64], .int .i64]) [.s r1.1, .i r1.2.1, .i r1.2.2.1, .i r1.2.2.2.1, .i r1.2.2.2.2.1, .i r1.2.2.2.2.2.1, .i r2]).1 [])⟩

noncomputable def stock_Restock_spec {α : Type} : FunSpec α := stock_Restock_sp stock_Restock

noncomputable def stock_Restock_C {α : Type} (stock_Fit : stock_Fit_T α) (stock_put : stock_put_T α) : List (FunSpec α) := [stock_Fit_sp stock_Fit, stock_put_sp stock_put]

noncomputable def stock_Restock_q : FuncId → Bool := fun f => Nat.beq f 20 || Nat.beq f 51

noncomputable def stock_Restock_inl : FuncId → Bool := fun f => false

noncomputable def stock_Restock_ann : FuncId → AnnT := fun f p => ⟨[], [], [], [], 0, [], [], none⟩

noncomputable def stock_Restock_loops {α : Type} (stock_Fit : stock_Fit_T α) (stock_put : stock_put_T α) : List (LoopSpec α) := []

theorem stock_Restock_ev {α : Type} (stock_Fit : stock_Fit_T α) (stock_put : stock_put_T α) : EvOk (α := α) Go.Proofs.Tryd.prog (envOf (stock_Restock_C stock_Fit stock_put) stock_Restock_q stock_Restock_inl 1000 stock_Restock_ann false (stock_Restock_loops stock_Fit stock_put) (fun _ => none)) 6 (stock_Restock_sp (stock_Restock_g stock_Fit stock_put)) := by intro ds k; kernel_rfl

theorem stock_Restock_ok {α : Type} : (stock_Restock_spec : FunSpec α).ok Go.Proofs.Tryd.prog :=
  FunSpec.ok_of (sp := stock_Restock_spec) (C := stock_Restock_C stock_Fit stock_put) (q := stock_Restock_q) (inl := stock_Restock_inl) (N := 1000) (ann := stock_Restock_ann) (fr := false) (D := 6) (l := (stock_Restock_loops stock_Fit stock_put)) (hk := (fun _ => none)) (okCons stock_Fit_ok (okCons stock_put_ok okNil)) lokNil noHooks (stock_Restock_ev stock_Fit stock_put)

end
end Go.Rv.Tryd

set_option linter.unusedVariables false
set_option maxRecDepth 100000
set_option maxHeartbeats 4000000
namespace Go.Rv.Tryd
open Go Go.Rv Go.RowKit
noncomputable section

-- drayman/stock.Hold

abbrev stock_Hold_T (α : Type) : Type := Z0 → Int → (Z0 → Int → Option α) → Option α

noncomputable def stock_Hold_g {α : Type} (stock_Fit : stock_Fit_T α) (x1 : ByteArray × Int × Int × Int × Int × Int × Unit) (n2 : Int) (k : Z0 → Int → Option α) : Option α :=
  (stock_Fit x1 fun r3 =>
    (cond (!r3)
      (k ((⟨#[]⟩ : ByteArray), 0, 0, 0, 0, 0, ()) 12)
      (cond (!(decide (n2 < 1)))
        (cond (decide (n2 > 1048576))
          (k ((⟨#[]⟩ : ByteArray), 0, 0, 0, 0, 0, ()) 11)
          (cond (decide (x1.2.1 < n2))
            (k ((⟨#[]⟩ : ByteArray), 0, 0, 0, 0, 0, ()) 6)
            (k (x1.1, (IntKind.i64.wrap (x1.2.1 - n2)), (IntKind.i64.wrap (x1.2.2.1 + n2)), x1.2.2.2.1, x1.2.2.2.2.1, x1.2.2.2.2.2.1, ()) 0)))
        (k ((⟨#[]⟩ : ByteArray), 0, 0, 0, 0, 0, ()) 11))))

noncomputable def stock_Hold {α : Type} : stock_Hold_T α := stock_Hold_g stock_Fit

noncomputable def stock_Hold_sp {α : Type} (stock_Hold : stock_Hold_T α) : FunSpec α := ⟨50, [.agg [.str, .int .i64, .int .i64, .int .i64, .int .i64, .int .i64], .int .i64], [], fun ds k => stock_Hold (hdS ds, hdI ds.tail, hdI ds.tail.tail, hdI ds.tail.tail.tail, hdI ds.tail.tail.tail.tail, hdI ds.tail.tail.tail.tail.tail, ()) (hdI ds.tail.tail.tail.tail.tail.tail) (fun r1 r2 => k (enc dep (.tup [.agg [.str, .int .i64, .int .i64, .int .i64, .int .i64, .int .i64], .int .i64]) [.s r1.1, .i r1.2.1, .i r1.2.2.1, .i r1.2.2.2.1, .i r1.2.2.2.2.1, .i r1.2.2.2.2.2.1, .i r2]).1 [])⟩

noncomputable def stock_Hold_spec {α : Type} : FunSpec α := stock_Hold_sp stock_Hold

noncomputable def stock_Hold_C {α : Type} (stock_Fit : stock_Fit_T α) : List (FunSpec α) := [stock_Fit_sp stock_Fit]

noncomputable def stock_Hold_q : FuncId → Bool := fun f => Nat.beq f 20

noncomputable def stock_Hold_inl : FuncId → Bool := fun f => Nat.beq f 88 || Nat.beq f 89

noncomputable def stock_Hold_ann : FuncId → AnnT := fun f p => ⟨[], [], [], [], 0, [], [], none⟩

noncomputable def stock_Hold_loops {α : Type} (stock_Fit : stock_Fit_T α) : List (LoopSpec α) := []

theorem stock_Hold_ev {α : Type} (stock_Fit : stock_Fit_T α) : EvOk (α := α) Go.Proofs.Tryd.prog (envOf (stock_Hold_C stock_Fit) stock_Hold_q stock_Hold_inl 1000 stock_Hold_ann false (stock_Hold_loops stock_Fit) (fun _ => none)) 6 (stock_Hold_sp (stock_Hold_g stock_Fit)) := by intro ds k; kernel_rfl

theorem stock_Hold_ok {α : Type} : (stock_Hold_spec : FunSpec α).ok Go.Proofs.Tryd.prog :=
  FunSpec.ok_of (sp := stock_Hold_spec) (C := stock_Hold_C stock_Fit) (q := stock_Hold_q) (inl := stock_Hold_inl) (N := 1000) (ann := stock_Hold_ann) (fr := false) (D := 6) (l := (stock_Hold_loops stock_Fit)) (hk := (fun _ => none)) (okCons stock_Fit_ok okNil) lokNil noHooks (stock_Hold_ev stock_Fit)

end
end Go.Rv.Tryd

set_option linter.unusedVariables false
set_option maxRecDepth 100000
set_option maxHeartbeats 4000000
namespace Go.Rv.Tryd
open Go Go.Rv Go.RowKit
noncomputable section

-- drayman/draymanlaw12.awake

abbrev draymanlaw12_awake_T (α : Type) : Type := (Bool → Option α) → Option α

noncomputable def draymanlaw12_awake_g {α : Type} (stock_New : stock_New_T α) (stock_Restock : stock_Restock_T α) (stock_Hold : stock_Hold_T α) (k : Bool → Option α) : Option α :=
  (stock_New (⟨#[116, 101, 97]⟩ : ByteArray) fun r1 r2 =>
    (stock_Restock r1 5 fun r3 r4 =>
      (stock_Hold r3 3 fun r5 r6 =>
        (stock_Hold r5 3 fun r7 r8 =>
          (cond (r2 == 0)
            (cond (r4 == 0)
              (cond (r6 == 0)
                (cond ((r5.1.toList == (⟨#[116, 101, 97]⟩ : ByteArray).toList) && ((r5.2.1 == 2) && ((r5.2.2.1 == 3) && ((r5.2.2.2.1 == 0) && ((r5.2.2.2.2.1 == 0) && ((r5.2.2.2.2.2.1 == 5) && true))))))
                  (k (r8 == 6))
                  (k false))
                (k false))
              (k false))
            (k false))))))

noncomputable def draymanlaw12_awake {α : Type} : draymanlaw12_awake_T α := draymanlaw12_awake_g stock_New stock_Restock stock_Hold

noncomputable def draymanlaw12_awake_sp {α : Type} (draymanlaw12_awake : draymanlaw12_awake_T α) : FunSpec α := ⟨11, [], [], fun ds k => draymanlaw12_awake  (fun r1 => k (enc dep (.bool) [.b r1]).1 [])⟩

noncomputable def draymanlaw12_awake_spec {α : Type} : FunSpec α := draymanlaw12_awake_sp draymanlaw12_awake

noncomputable def draymanlaw12_awake_C {α : Type} (stock_New : stock_New_T α) (stock_Restock : stock_Restock_T α) (stock_Hold : stock_Hold_T α) : List (FunSpec α) := [stock_New_sp stock_New, stock_Restock_sp stock_Restock, stock_Hold_sp stock_Hold]

noncomputable def draymanlaw12_awake_q : FuncId → Bool := fun f => Nat.beq f 12 || Nat.beq f 16 || Nat.beq f 50

noncomputable def draymanlaw12_awake_inl : FuncId → Bool := fun f => false

noncomputable def draymanlaw12_awake_ann : FuncId → AnnT := fun f p => ⟨[], [], [], [], 0, [], [], none⟩

noncomputable def draymanlaw12_awake_loops {α : Type} (stock_New : stock_New_T α) (stock_Restock : stock_Restock_T α) (stock_Hold : stock_Hold_T α) : List (LoopSpec α) := []

theorem draymanlaw12_awake_ev {α : Type} (stock_New : stock_New_T α) (stock_Restock : stock_Restock_T α) (stock_Hold : stock_Hold_T α) : EvOk (α := α) Go.Proofs.Tryd.prog (envOf (draymanlaw12_awake_C stock_New stock_Restock stock_Hold) draymanlaw12_awake_q draymanlaw12_awake_inl 1000 draymanlaw12_awake_ann false (draymanlaw12_awake_loops stock_New stock_Restock stock_Hold) (fun _ => none)) 6 (draymanlaw12_awake_sp (draymanlaw12_awake_g stock_New stock_Restock stock_Hold)) := by intro ds k; kernel_rfl

theorem draymanlaw12_awake_ok {α : Type} : (draymanlaw12_awake_spec : FunSpec α).ok Go.Proofs.Tryd.prog :=
  FunSpec.ok_of (sp := draymanlaw12_awake_spec) (C := draymanlaw12_awake_C stock_New stock_Restock stock_Hold) (q := draymanlaw12_awake_q) (inl := draymanlaw12_awake_inl) (N := 1000) (ann := draymanlaw12_awake_ann) (fr := false) (D := 6) (l := (draymanlaw12_awake_loops stock_New stock_Restock stock_Hold)) (hk := (fun _ => none)) (okCons stock_New_ok (okCons stock_Restock_ok (okCons stock_Hold_ok okNil))) lokNil noHooks (draymanlaw12_awake_ev stock_New stock_Restock stock_Hold)

end
end Go.Rv.Tryd

set_option linter.unusedVariables false
set_option maxRecDepth 100000
set_option maxHeartbeats 4000000
namespace Go.Rv.Tryd
open Go Go.Rv Go.RowKit
noncomputable section

-- drayman/draymanref02.more

abbrev draymanref02_more_T (α : Type) : Type := ByteArray → Int → (Int → Option α) → Option α

noncomputable def draymanref02_more {α : Type} (s1 : ByteArray) (x2 : Int) (k : Int → Option α) : Option α :=
  (cond (!(decide (x2 ≥ (s1.size : Int))))
    (cond ((decide ((0 : Int) ≤ x2)) && (decide (x2 < (s1.size : Int))))
      (cond (!(decide ((byteAt s1 x2) < 128)))
        (cond ((decide ((0 : Int) ≤ x2)) && (decide (x2 < (s1.size : Int))))
          (cond (decide ((byteAt s1 x2) > 191))
            (k (-1))
            (cond ((decide ((0 : Int) ≤ x2)) && (decide (x2 < (s1.size : Int))))
              (k (IntKind.i64.wrap ((IntKind.i64.wrap (byteAt s1 x2)) - 128)))
              none))
          none)
        (k (-1)))
      none)
    (k (-1)))

noncomputable def draymanref02_more_sp {α : Type} (draymanref02_more : draymanref02_more_T α) : FunSpec α := ⟨132, [.str, .int .i64], [], fun ds k => draymanref02_more (hdS ds) (hdI ds.tail) (fun r1 => k (enc dep (.int .i64) [.i r1]).1 [])⟩

noncomputable def draymanref02_more_spec {α : Type} : FunSpec α := draymanref02_more_sp draymanref02_more

noncomputable def draymanref02_more_C {α : Type} : List (FunSpec α) := []

noncomputable def draymanref02_more_q : FuncId → Bool := fun f => false

noncomputable def draymanref02_more_inl : FuncId → Bool := fun f => false

noncomputable def draymanref02_more_ann : FuncId → AnnT := fun f p => ⟨[], [], [], [], 0, [], [], none⟩

noncomputable def draymanref02_more_loops {α : Type} : List (LoopSpec α) := []

theorem draymanref02_more_ev {α : Type} : EvOk (α := α) Go.Proofs.Tryd.prog (envOf (draymanref02_more_C) draymanref02_more_q draymanref02_more_inl 1000 draymanref02_more_ann false (draymanref02_more_loops) (fun _ => none)) 6 (draymanref02_more_sp (draymanref02_more)) := by intro ds k; kernel_rfl

theorem draymanref02_more_ok {α : Type} : (draymanref02_more_spec : FunSpec α).ok Go.Proofs.Tryd.prog :=
  FunSpec.ok_of (sp := draymanref02_more_spec) (C := draymanref02_more_C) (q := draymanref02_more_q) (inl := draymanref02_more_inl) (N := 1000) (ann := draymanref02_more_ann) (fr := false) (D := 6) (l := (draymanref02_more_loops)) (hk := (fun _ => none)) okNil lokNil noHooks (draymanref02_more_ev)

end
end Go.Rv.Tryd

set_option linter.unusedVariables false
set_option maxRecDepth 100000
set_option maxHeartbeats 4000000
namespace Go.Rv.Tryd
open Go Go.Rv Go.RowKit
noncomputable section

-- drayman/draymanref02.One

abbrev draymanref02_One_T (α : Type) : Type := ByteArray → Int → (Int → Int → Option α) → Option α

noncomputable def draymanref02_One_g {α : Type} (draymanref02_more : draymanref02_more_T α) (x1 : ByteArray) (x2 : Int) (k : Int → Int → Option α) : Option α :=
  (cond ((decide ((0 : Int) ≤ x2)) && (decide (x2 < (x1.size : Int))))
    (draymanref02_more x1 (IntKind.i64.wrap (x2 + 1)) fun r3 =>
      (draymanref02_more x1 (IntKind.i64.wrap (x2 + 2)) fun r4 =>
        (draymanref02_more x1 (IntKind.i64.wrap (x2 + 3)) fun r5 =>
          (cond (decide ((IntKind.i64.wrap (byteAt x1 x2)) < 128))
            (k (IntKind.i64.wrap (byteAt x1 x2)) 1)
            (joinD
              (fun ds => (fun (x6 : Int) (x7 : Int) (x8 : Int) (x9 : Int) (x10 : Bool) =>
                (cond x10
                  (k (IntKind.i64.wrap ((IntKind.i64.wrap ((IntKind.i64.wrap (x6 - 192)) * 64)) + x7)) 2)
                  (joinD
                    (fun ds => (fun (x12 : Int) (x13 : Int) (x14 : Int) (x15 : Int) (x16 : Bool) =>
                      (cond x16
                        (cond (decide ((IntKind.i64.wrap ((IntKind.i64.wrap ((IntKind.i64.wrap ((IntKind.i64.wrap (x12 - 224)) * 4096)) + (IntKind.i64.wrap (x13 * 64)))) + x14)) ≥ 2048))
                          (cond (!(decide ((IntKind.i64.wrap ((IntKind.i64.wrap ((IntKind.i64.wrap ((IntKind.i64.wrap (x12 - 224)) * 4096)) + (IntKind.i64.wrap (x13 * 64)))) + x14)) < 55296)))
                            (cond (decide ((IntKind.i64.wrap ((IntKind.i64.wrap ((IntKind.i64.wrap ((IntKind.i64.wrap (x12 - 224)) * 4096)) + (IntKind.i64.wrap (x13 * 64)))) + x14)) > 57343))
                              (k (IntKind.i64.wrap ((IntKind.i64.wrap ((IntKind.i64.wrap ((IntKind.i64.wrap (x12 - 224)) * 4096)) + (IntKind.i64.wrap (x13 * 64)))) + x14)) 3)
                              (k 0 0))
                            (k (IntKind.i64.wrap ((IntKind.i64.wrap ((IntKind.i64.wrap ((IntKind.i64.wrap (x12 - 224)) * 4096)) + (IntKind.i64.wrap (x13 * 64)))) + x14)) 3))
                          (k 0 0))
                        (joinD
                          (fun ds => (fun (x18 : Int) (x19 : Int) (x20 : Int) (x21 : Int) (x22 : Bool) =>
                            (cond x22
                              (cond (decide ((IntKind.i64.wrap ((IntKind.i64.wrap ((IntKind.i64.wrap ((IntKind.i64.wrap ((IntKind.i64.wrap (x18 - 240)) * 262144)) + (IntKind.i64.wrap (x19 * 4096)))) + (IntKind.i64.wrap (x20 * 64)))) + x21)) ≥ 65536))
                                (cond (decide ((IntKind.i64.wrap ((IntKind.i64.wrap ((IntKind.i64.wrap ((IntKind.i64.wrap ((IntKind.i64.wrap (x18 - 240)) * 262144)) + (IntKind.i64.wrap (x19 * 4096)))) + (IntKind.i64.wrap (x20 * 64)))) + x21)) ≤ 1114111))
                                  (k (IntKind.i64.wrap ((IntKind.i64.wrap ((IntKind.i64.wrap ((IntKind.i64.wrap ((IntKind.i64.wrap (x18 - 240)) * 262144)) + (IntKind.i64.wrap (x19 * 4096)))) + (IntKind.i64.wrap (x20 * 64)))) + x21)) 4)
                                  (k 0 0))
                                (k 0 0))
                              (k 0 0)))
                            (hdI ds) (hdI ds.tail) (hdI ds.tail.tail) (hdI ds.tail.tail.tail) (hdB ds.tail.tail.tail.tail))
                          (fun j23 =>
                            (cond (decide (x12 ≥ 240))
                              (cond (decide (x12 ≤ 244))
                                (cond (decide (x13 ≥ 0))
                                  (cond (decide (x14 ≥ 0))
                                    (j23 [.i x12, .i x13, .i x14, .i x15, .b (decide (x15 ≥ 0))])
                                    (j23 [.i x12, .i x13, .i x14, .i x15, .b false]))
                                  (j23 [.i x12, .i x13, .i x14, .i x15, .b false]))
                                (j23 [.i x12, .i x13, .i x14, .i x15, .b false]))
                              (j23 [.i x12, .i x13, .i x14, .i x15, .b false]))))))
                      (hdI ds) (hdI ds.tail) (hdI ds.tail.tail) (hdI ds.tail.tail.tail) (hdB ds.tail.tail.tail.tail))
                    (fun j17 =>
                      (cond (decide (x6 ≥ 224))
                        (cond (decide (x6 ≤ 239))
                          (cond (decide (x7 ≥ 0))
                            (j17 [.i x6, .i x7, .i x8, .i x9, .b (decide (x8 ≥ 0))])
                            (j17 [.i x6, .i x7, .i x8, .i x9, .b false]))
                          (j17 [.i x6, .i x7, .i x8, .i x9, .b false]))
                        (j17 [.i x6, .i x7, .i x8, .i x9, .b false]))))))
                (hdI ds) (hdI ds.tail) (hdI ds.tail.tail) (hdI ds.tail.tail.tail) (hdB ds.tail.tail.tail.tail))
              (fun j11 =>
                (cond (decide ((IntKind.i64.wrap (byteAt x1 x2)) ≥ 194))
                  (cond (decide ((IntKind.i64.wrap (byteAt x1 x2)) ≤ 223))
                    (j11 [.i (IntKind.i64.wrap (byteAt x1 x2)), .i r3, .i r4, .i r5, .b (decide (r3 ≥ 0))])
                    (j11 [.i (IntKind.i64.wrap (byteAt x1 x2)), .i r3, .i r4, .i r5, .b false]))
                  (j11 [.i (IntKind.i64.wrap (byteAt x1 x2)), .i r3, .i r4, .i r5, .b false]))))))))
    none)

noncomputable def draymanref02_One {α : Type} : draymanref02_One_T α := draymanref02_One_g draymanref02_more

noncomputable def draymanref02_One_sp {α : Type} (draymanref02_One : draymanref02_One_T α) : FunSpec α := ⟨118, [.str, .int .i64], [], fun ds k => draymanref02_One (hdS ds) (hdI ds.tail) (fun r1 r2 => k (enc dep (.tup [.int .i64, .int .i64]) [.i r1, .i r2]).1 [])⟩

noncomputable def draymanref02_One_spec {α : Type} : FunSpec α := draymanref02_One_sp draymanref02_One

noncomputable def draymanref02_One_C {α : Type} (draymanref02_more : draymanref02_more_T α) : List (FunSpec α) := [draymanref02_more_sp draymanref02_more]

noncomputable def draymanref02_One_q : FuncId → Bool := fun f => Nat.beq f 132

noncomputable def draymanref02_One_inl : FuncId → Bool := fun f => false

noncomputable def draymanref02_One_ann : FuncId → AnnT := fun f p => if f = 118 then (if p = [true, true, false, true, true, true] then ⟨[6, 7, 8, 9, 32], [], [], [], 0, [], [], some ([.dead, .dead, .dead, .dead, .dead, .dead, .int .i64, .int .i64, .int .i64, .int .i64, .dead, .dead, .dead, .dead, .dead, .dead, .dead, .dead, .dead, .dead, .dead, .dead, .dead, .dead, .dead, .dead, .dead, .dead, .dead, .dead, .dead, .dead, .bool, .dead, .dead, .dead, .dead, .dead, .dead, .dead, .dead, .dead, .dead, .dead, .dead, .dead, .dead, .dead, .dead, .dead, .dead, .dead, .dead, .dead, .dead, .dead, .dead, .dead, .dead, .dead, .dead, .dead, .dead, .dead, .dead, .dead, .dead, .dead, .dead, .dead, .dead, .dead, .dead, .dead, .dead, .dead, .dead, .dead, .dead, .dead, .dead, .dead, .dead, .dead, .dead, .dead, .dead, .dead, .dead, .dead, .dead, .dead, .dead, .dead, .dead, .dead, .dead, .dead, .dead, .dead, .dead, .dead, .dead, .dead, .dead, .dead, .dead, .dead, .dead, .dead, .dead, .dead, .dead, .dead, .dead, .dead, .dead, .dead, .dead], [], [])⟩ else if p = [true, true, true, true, false, true, true, true] then ⟨[6, 7, 8, 9, 48], [], [], [], 0, [], [], some ([.dead, .dead, .dead, .dead, .dead, .dead, .int .i64, .int .i64, .int .i64, .int .i64, .dead, .dead, .dead, .dead, .dead, .dead, .dead, .dead, .dead, .dead, .dead, .dead, .dead, .dead, .dead, .dead, .dead, .dead, .dead, .dead, .dead, .dead, .dead, .dead, .dead, .dead, .dead, .dead, .dead, .dead, .dead, .dead, .dead, .dead, .dead, .dead, .dead, .dead, .bool, .dead, .dead, .dead, .dead, .dead, .dead, .dead, .dead, .dead, .dead, .dead, .dead, .dead, .dead, .dead, .dead, .dead, .dead, .dead, .dead, .dead, .dead, .dead, .dead, .dead, .dead, .dead, .dead, .dead, .dead, .dead, .dead, .dead, .dead, .dead, .dead, .dead, .dead, .dead, .dead, .dead, .dead, .dead, .dead, .dead, .dead, .dead, .dead, .dead, .dead, .dead, .dead, .dead, .dead, .dead, .dead, .dead, .dead, .dead, .dead, .dead, .dead, .dead, .dead, .dead, .dead, .dead, .dead, .dead, .dead], [], [])⟩ else if p = [true, true, true, true, true, true, false, true, true, true] then ⟨[6, 7, 8, 9, 82], [], [], [], 0, [], [], some ([.dead, .dead, .dead, .dead, .dead, .dead, .int .i64, .int .i64, .int .i64, .int .i64, .dead, .dead, .dead, .dead, .dead, .dead, .dead, .dead, .dead, .dead, .dead, .dead, .dead, .dead, .dead, .dead, .dead, .dead, .dead, .dead, .dead, .dead, .dead, .dead, .dead, .dead, .dead, .dead, .dead, .dead, .dead, .dead, .dead, .dead, .dead, .dead, .dead, .dead, .dead, .dead, .dead, .dead, .dead, .dead, .dead, .dead, .dead, .dead, .dead, .dead, .dead, .dead, .dead, .dead, .dead, .dead, .dead, .dead, .dead, .dead, .dead, .dead, .dead, .dead, .dead, .dead, .dead, .dead, .dead, .dead, .dead, .dead, .bool, .dead, .dead, .dead, .dead, .dead, .dead, .dead, .dead, .dead, .dead, .dead, .dead, .dead, .dead, .dead, .dead, .dead, .dead, .dead, .dead, .dead, .dead, .dead, .dead, .dead, .dead, .dead, .dead, .dead, .dead, .dead, .dead, .dead, .dead, .dead, .dead], [], [])⟩ else ⟨[], [], [], [], 0, [], [], none⟩) else ⟨[], [], [], [], 0, [], [], none⟩

noncomputable def draymanref02_One_loops {α : Type} (draymanref02_more : draymanref02_more_T α) : List (LoopSpec α) := []

theorem draymanref02_One_ev {α : Type} (draymanref02_more : draymanref02_more_T α) : EvOk (α := α) Go.Proofs.Tryd.prog (envOf (draymanref02_One_C draymanref02_more) draymanref02_One_q draymanref02_One_inl 1000 draymanref02_One_ann false (draymanref02_One_loops draymanref02_more) (fun _ => none)) 6 (draymanref02_One_sp (draymanref02_One_g draymanref02_more)) := by intro ds k; kernel_rfl

theorem draymanref02_One_ok {α : Type} : (draymanref02_One_spec : FunSpec α).ok Go.Proofs.Tryd.prog :=
  FunSpec.ok_of (sp := draymanref02_One_spec) (C := draymanref02_One_C draymanref02_more) (q := draymanref02_One_q) (inl := draymanref02_One_inl) (N := 1000) (ann := draymanref02_One_ann) (fr := false) (D := 6) (l := (draymanref02_One_loops draymanref02_more)) (hk := (fun _ => none)) (okCons draymanref02_more_ok okNil) lokNil noHooks (draymanref02_One_ev draymanref02_more)

end
end Go.Rv.Tryd

set_option linter.unusedVariables false
set_option maxRecDepth 100000
set_option maxHeartbeats 4000000
namespace Go.Rv.Tryd
open Go Go.Rv Go.RowKit
noncomputable section

-- drayman/draymanref02.Runes

abbrev draymanref02_Runes_T (α : Type) : Type := ByteArray → ((Seq (Int × Unit)) → Bool → Option α) → Option α

noncomputable def draymanref02_Runes_l0_step {α : Type} (draymanref02_One : draymanref02_One_T α) (kr : (Seq (Int × Unit)) → (Bool) → (Seq (Int × Unit)) → (Seq (Int × Unit)) → Option α) (k0 : (Seq (Int × Unit)) → (Seq (Int × Unit)) → Option α) (rec : (ByteArray) → (Int) → (Seq (Int × Unit)) → (Seq (Int × Unit)) → Option α) (s2 : ByteArray) (i3 : Int) (q4 : Seq (Int × Unit)) (q5 : Seq (Int × Unit)) : Option α :=
  (cond (decide (i3 < (s2.size : Int)))
    (draymanref02_One s2 i3 fun r6 r7 =>
      (cond (r7 == 0)
        (kr (⟨true, 0, (fun _ => (0, ()))⟩ : Seq (Int × Unit)) false q4 q5)
        (cond (decide (((q5.n + 1)) * 8 ≤ 140737488355328))
          (rec s2 (IntKind.i64.wrap (i3 + r7)) q4 (⟨(q5.nl && false), (q5.n + 1), (tApp q5.n q5.g (fun _ => (r6, ())))⟩ : Seq (Int × Unit)))
          none)))
    (k0 q4 q5))

noncomputable def draymanref02_Runes_l0_run {α : Type} (draymanref02_One : draymanref02_One_T α) (kr : (Seq (Int × Unit)) → (Bool) → (Seq (Int × Unit)) → (Seq (Int × Unit)) → Option α) (k0 : (Seq (Int × Unit)) → (Seq (Int × Unit)) → Option α) : Nat → (ByteArray) → (Int) → (Seq (Int × Unit)) → (Seq (Int × Unit)) → Option α
  | 0, _, _, _, _ => none
  | n + 1, s2, i3, q4, q5 => draymanref02_Runes_l0_step draymanref02_One kr k0 (fun s2 i3 q4 q5 => draymanref02_Runes_l0_run draymanref02_One kr k0 n s2 i3 q4 q5) s2 i3 q4 q5

noncomputable def draymanref02_Runes_g {α : Type} (draymanref02_One : draymanref02_One_T α) (s1 : ByteArray) (k : (Seq (Int × Unit)) → Bool → Option α) : Option α :=
  (draymanref02_Runes_l0_run draymanref02_One
    (fun x8 x9 q10 q11 =>
      (k x8 x9))
    (fun q12 q13 =>
      (k q13 true))
    1000 s1 0 (⟨true, 0, (fun _ => (0, ()))⟩ : Seq (Int × Unit)) (⟨true, 0, (fun _ => (0, ()))⟩ : Seq (Int × Unit)))

noncomputable def draymanref02_Runes {α : Type} : draymanref02_Runes_T α := draymanref02_Runes_g draymanref02_One

noncomputable def draymanref02_Runes_sp {α : Type} (draymanref02_Runes : draymanref02_Runes_T α) : FunSpec α := ⟨93, [.str], [], fun ds k => draymanref02_Runes (hdS ds) (fun r1 r2 => k (enc dep (.tup [.sl (.int .i64 (.nil)), .bool]) [.q (.int .i64 (.nil)) r1, .b r2]).1 [])⟩

noncomputable def draymanref02_Runes_spec {α : Type} : FunSpec α := draymanref02_Runes_sp draymanref02_Runes

noncomputable def draymanref02_Runes_C {α : Type} (draymanref02_One : draymanref02_One_T α) : List (FunSpec α) := [draymanref02_One_sp draymanref02_One]

noncomputable def draymanref02_Runes_q : FuncId → Bool := fun f => Nat.beq f 118

noncomputable def draymanref02_Runes_inl : FuncId → Bool := fun f => false

noncomputable def draymanref02_Runes_ann : FuncId → AnnT := fun f p => if f = 93 then (if p = [true, false, true, true] then ⟨[0, 4, 5], [0, 1], [4], [2, 3], 0, [], [], none⟩ else ⟨[], [], [], [], 0, [], [], none⟩) else ⟨[], [], [], [], 0, [], [], none⟩

noncomputable def draymanref02_Runes_l0_t : List Sh := [.str, .dead, .dead, .dead, .own 1, .int .i64, .dead, .dead, .dead, .dead, .dead, .dead, .dead, .dead, .dead, .dead, .dead, .dead, .dead, .dead, .dead, .dead, .dead, .dead, .dead, .dead, .dead, .dead]
noncomputable def draymanref02_Runes_l0_s : List (List Sh) := []
noncomputable def draymanref02_Runes_l0_h : List BSh := [.row true (.int .i64 (.nil)), .row true (.int .i64 (.nil))]

noncomputable def draymanref02_Runes_l0_spec {α : Type} (draymanref02_One : draymanref02_One_T α) : LoopSpec α := ⟨6, 93, [true, false, true, true], draymanref02_Runes_l0_t, draymanref02_Runes_l0_s, draymanref02_Runes_l0_h, fun ds k => draymanref02_Runes_l0_run draymanref02_One (fun y1 y2 y3 y4 => k .ret (encSt [.dead, .dead, .sl (.int .i64 (.nil)), .bool, .dead, .dead, .dead, .dead, .dead, .dead, .dead, .dead, .dead, .dead, .dead, .dead, .dead, .dead, .dead, .dead, .dead, .dead, .dead, .dead, .dead, .dead, .dead, .dead] [] [.row true (.int .i64 (.nil)), .row true (.int .i64 (.nil))] [.q (.int .i64 (.nil)) y1, .b y2, .q (.int .i64 (.nil)) y3, .q (.int .i64 (.nil)) y4])) (fun y1 y2 => k (.exit 0) (encSt [.dead, .dead, .dead, .dead, .own 1, .dead, .dead, .dead, .dead, .dead, .dead, .dead, .dead, .dead, .dead, .dead, .dead, .dead, .dead, .dead, .dead, .dead, .dead, .dead, .dead, .dead, .dead, .dead] [] [.row true (.int .i64 (.nil)), .row true (.int .i64 (.nil))] [.q (.int .i64 (.nil)) y1, .q (.int .i64 (.nil)) y2])) 1000 (hdS ds) (hdI ds.tail) (hdQ (.int .i64 (.nil)) ds.tail.tail) (hdQ (.int .i64 (.nil)) ds.tail.tail.tail)⟩

noncomputable def draymanref02_Runes_loops {α : Type} (draymanref02_One : draymanref02_One_T α) : List (LoopSpec α) := [draymanref02_Runes_l0_spec draymanref02_One]

noncomputable def draymanref02_Runes_l0_ev {α : Type} (draymanref02_One : draymanref02_One_T α) (n : Nat) (st : St) (k : X → St → Option α) : Option α := loopN (evCode Go.Proofs.Tryd.prog (callD Go.Proofs.Tryd.prog (envOf (draymanref02_Runes_C draymanref02_One) draymanref02_Runes_q draymanref02_Runes_inl 1000 draymanref02_Runes_ann true (draymanref02_Runes_loops draymanref02_One) (fun _ => none)) 6) (((envOf (draymanref02_Runes_C draymanref02_One) draymanref02_Runes_q draymanref02_Runes_inl 1000 draymanref02_Runes_ann true (draymanref02_Runes_loops draymanref02_One) (fun _ => none)) : Env α).L 6 93) 1000 (draymanref02_Runes_ann 93) (false :: [true, false, true, true]) (loopC Go.Proofs.Tryd.prog 93 [true, false, true, true])) ((draymanref02_Runes_ann 93 [true, false, true, true]).head 2) ((draymanref02_Runes_ann 93 [true, false, true, true]).leave 2) n st k

theorem draymanref02_Runes_l0_eq {α : Type} (draymanref02_One : draymanref02_One_T α) : ∀ (n : Nat) (s2 : ByteArray) (i3 : Int) (q4 : Seq (Int × Unit)) (q5 : Seq (Int × Unit)) (k : X → St → Option α), draymanref02_Runes_l0_ev draymanref02_One n (encSt draymanref02_Runes_l0_t draymanref02_Runes_l0_s draymanref02_Runes_l0_h [.s s2, .i i3, .q (.int .i64 (.nil)) q4, .q (.int .i64 (.nil)) q5]) k = draymanref02_Runes_l0_run draymanref02_One (fun y1 y2 y3 y4 => k .ret (encSt [.dead, .dead, .sl (.int .i64 (.nil)), .bool, .dead, .dead, .dead, .dead, .dead, .dead, .dead, .dead, .dead, .dead, .dead, .dead, .dead, .dead, .dead, .dead, .dead, .dead, .dead, .dead, .dead, .dead, .dead, .dead] [] [.row true (.int .i64 (.nil)), .row true (.int .i64 (.nil))] [.q (.int .i64 (.nil)) y1, .b y2, .q (.int .i64 (.nil)) y3, .q (.int .i64 (.nil)) y4])) (fun y1 y2 => k (.exit 0) (encSt [.dead, .dead, .dead, .dead, .own 1, .dead, .dead, .dead, .dead, .dead, .dead, .dead, .dead, .dead, .dead, .dead, .dead, .dead, .dead, .dead, .dead, .dead, .dead, .dead, .dead, .dead, .dead, .dead] [] [.row true (.int .i64 (.nil)), .row true (.int .i64 (.nil))] [.q (.int .i64 (.nil)) y1, .q (.int .i64 (.nil)) y2])) n s2 i3 q4 q5 := by
  intro n
  induction n with
  | zero => intros; kernel_rfl
  | succ n ih =>
    intro s2 i3 q4 q5 k
    have e : (fun (s2 : ByteArray) (i3 : Int) (q4 : Seq (Int × Unit)) (q5 : Seq (Int × Unit)) => draymanref02_Runes_l0_ev draymanref02_One n (encSt draymanref02_Runes_l0_t draymanref02_Runes_l0_s draymanref02_Runes_l0_h [.s s2, .i i3, .q (.int .i64 (.nil)) q4, .q (.int .i64 (.nil)) q5]) k) = (fun (s2 : ByteArray) (i3 : Int) (q4 : Seq (Int × Unit)) (q5 : Seq (Int × Unit)) => draymanref02_Runes_l0_run draymanref02_One (fun y1 y2 y3 y4 => k .ret (encSt [.dead, .dead, .sl (.int .i64 (.nil)), .bool, .dead, .dead, .dead, .dead, .dead, .dead, .dead, .dead, .dead, .dead, .dead, .dead, .dead, .dead, .dead, .dead, .dead, .dead, .dead, .dead, .dead, .dead, .dead, .dead] [] [.row true (.int .i64 (.nil)), .row true (.int .i64 (.nil))] [.q (.int .i64 (.nil)) y1, .b y2, .q (.int .i64 (.nil)) y3, .q (.int .i64 (.nil)) y4])) (fun y1 y2 => k (.exit 0) (encSt [.dead, .dead, .dead, .dead, .own 1, .dead, .dead, .dead, .dead, .dead, .dead, .dead, .dead, .dead, .dead, .dead, .dead, .dead, .dead, .dead, .dead, .dead, .dead, .dead, .dead, .dead, .dead, .dead] [] [.row true (.int .i64 (.nil)), .row true (.int .i64 (.nil))] [.q (.int .i64 (.nil)) y1, .q (.int .i64 (.nil)) y2])) n s2 i3 q4 q5) := by
      funext s2 i3 q4 q5
      exact ih s2 i3 q4 q5 k
    have h1 : draymanref02_Runes_l0_ev draymanref02_One (n + 1) (encSt draymanref02_Runes_l0_t draymanref02_Runes_l0_s draymanref02_Runes_l0_h [.s s2, .i i3, .q (.int .i64 (.nil)) q4, .q (.int .i64 (.nil)) q5]) k = draymanref02_Runes_l0_step draymanref02_One (fun y1 y2 y3 y4 => k .ret (encSt [.dead, .dead, .sl (.int .i64 (.nil)), .bool, .dead, .dead, .dead, .dead, .dead, .dead, .dead, .dead, .dead, .dead, .dead, .dead, .dead, .dead, .dead, .dead, .dead, .dead, .dead, .dead, .dead, .dead, .dead, .dead] [] [.row true (.int .i64 (.nil)), .row true (.int .i64 (.nil))] [.q (.int .i64 (.nil)) y1, .b y2, .q (.int .i64 (.nil)) y3, .q (.int .i64 (.nil)) y4])) (fun y1 y2 => k (.exit 0) (encSt [.dead, .dead, .dead, .dead, .own 1, .dead, .dead, .dead, .dead, .dead, .dead, .dead, .dead, .dead, .dead, .dead, .dead, .dead, .dead, .dead, .dead, .dead, .dead, .dead, .dead, .dead, .dead, .dead] [] [.row true (.int .i64 (.nil)), .row true (.int .i64 (.nil))] [.q (.int .i64 (.nil)) y1, .q (.int .i64 (.nil)) y2])) (fun (s2 : ByteArray) (i3 : Int) (q4 : Seq (Int × Unit)) (q5 : Seq (Int × Unit)) => draymanref02_Runes_l0_ev draymanref02_One n (encSt draymanref02_Runes_l0_t draymanref02_Runes_l0_s draymanref02_Runes_l0_h [.s s2, .i i3, .q (.int .i64 (.nil)) q4, .q (.int .i64 (.nil)) q5]) k) s2 i3 q4 q5 := by kernel_rfl
    have h2 := congrArg (fun r => draymanref02_Runes_l0_step draymanref02_One (fun y1 y2 y3 y4 => k .ret (encSt [.dead, .dead, .sl (.int .i64 (.nil)), .bool, .dead, .dead, .dead, .dead, .dead, .dead, .dead, .dead, .dead, .dead, .dead, .dead, .dead, .dead, .dead, .dead, .dead, .dead, .dead, .dead, .dead, .dead, .dead, .dead] [] [.row true (.int .i64 (.nil)), .row true (.int .i64 (.nil))] [.q (.int .i64 (.nil)) y1, .b y2, .q (.int .i64 (.nil)) y3, .q (.int .i64 (.nil)) y4])) (fun y1 y2 => k (.exit 0) (encSt [.dead, .dead, .dead, .dead, .own 1, .dead, .dead, .dead, .dead, .dead, .dead, .dead, .dead, .dead, .dead, .dead, .dead, .dead, .dead, .dead, .dead, .dead, .dead, .dead, .dead, .dead, .dead, .dead] [] [.row true (.int .i64 (.nil)), .row true (.int .i64 (.nil))] [.q (.int .i64 (.nil)) y1, .q (.int .i64 (.nil)) y2])) r s2 i3 q4 q5) e
    have h3 : draymanref02_Runes_l0_step draymanref02_One (fun y1 y2 y3 y4 => k .ret (encSt [.dead, .dead, .sl (.int .i64 (.nil)), .bool, .dead, .dead, .dead, .dead, .dead, .dead, .dead, .dead, .dead, .dead, .dead, .dead, .dead, .dead, .dead, .dead, .dead, .dead, .dead, .dead, .dead, .dead, .dead, .dead] [] [.row true (.int .i64 (.nil)), .row true (.int .i64 (.nil))] [.q (.int .i64 (.nil)) y1, .b y2, .q (.int .i64 (.nil)) y3, .q (.int .i64 (.nil)) y4])) (fun y1 y2 => k (.exit 0) (encSt [.dead, .dead, .dead, .dead, .own 1, .dead, .dead, .dead, .dead, .dead, .dead, .dead, .dead, .dead, .dead, .dead, .dead, .dead, .dead, .dead, .dead, .dead, .dead, .dead, .dead, .dead, .dead, .dead] [] [.row true (.int .i64 (.nil)), .row true (.int .i64 (.nil))] [.q (.int .i64 (.nil)) y1, .q (.int .i64 (.nil)) y2])) (fun (s2 : ByteArray) (i3 : Int) (q4 : Seq (Int × Unit)) (q5 : Seq (Int × Unit)) => draymanref02_Runes_l0_run draymanref02_One (fun y1 y2 y3 y4 => k .ret (encSt [.dead, .dead, .sl (.int .i64 (.nil)), .bool, .dead, .dead, .dead, .dead, .dead, .dead, .dead, .dead, .dead, .dead, .dead, .dead, .dead, .dead, .dead, .dead, .dead, .dead, .dead, .dead, .dead, .dead, .dead, .dead] [] [.row true (.int .i64 (.nil)), .row true (.int .i64 (.nil))] [.q (.int .i64 (.nil)) y1, .b y2, .q (.int .i64 (.nil)) y3, .q (.int .i64 (.nil)) y4])) (fun y1 y2 => k (.exit 0) (encSt [.dead, .dead, .dead, .dead, .own 1, .dead, .dead, .dead, .dead, .dead, .dead, .dead, .dead, .dead, .dead, .dead, .dead, .dead, .dead, .dead, .dead, .dead, .dead, .dead, .dead, .dead, .dead, .dead] [] [.row true (.int .i64 (.nil)), .row true (.int .i64 (.nil))] [.q (.int .i64 (.nil)) y1, .q (.int .i64 (.nil)) y2])) n s2 i3 q4 q5) s2 i3 q4 q5 = draymanref02_Runes_l0_run draymanref02_One (fun y1 y2 y3 y4 => k .ret (encSt [.dead, .dead, .sl (.int .i64 (.nil)), .bool, .dead, .dead, .dead, .dead, .dead, .dead, .dead, .dead, .dead, .dead, .dead, .dead, .dead, .dead, .dead, .dead, .dead, .dead, .dead, .dead, .dead, .dead, .dead, .dead] [] [.row true (.int .i64 (.nil)), .row true (.int .i64 (.nil))] [.q (.int .i64 (.nil)) y1, .b y2, .q (.int .i64 (.nil)) y3, .q (.int .i64 (.nil)) y4])) (fun y1 y2 => k (.exit 0) (encSt [.dead, .dead, .dead, .dead, .own 1, .dead, .dead, .dead, .dead, .dead, .dead, .dead, .dead, .dead, .dead, .dead, .dead, .dead, .dead, .dead, .dead, .dead, .dead, .dead, .dead, .dead, .dead, .dead] [] [.row true (.int .i64 (.nil)), .row true (.int .i64 (.nil))] [.q (.int .i64 (.nil)) y1, .q (.int .i64 (.nil)) y2])) (n + 1) s2 i3 q4 q5 := by kernel_rfl
    exact h1.trans (h2.trans h3)

theorem draymanref02_Runes_l0_ok {α : Type} (draymanref02_One : draymanref02_One_T α) : (draymanref02_Runes_l0_spec draymanref02_One : LoopSpec α).ok Go.Proofs.Tryd.prog (envOf (draymanref02_Runes_C draymanref02_One) draymanref02_Runes_q draymanref02_Runes_inl 1000 draymanref02_Runes_ann true (draymanref02_Runes_loops draymanref02_One) (fun _ => none)) := by
  intro ds k
  have h1 : draymanref02_Runes_l0_ev draymanref02_One 1000 (encSt draymanref02_Runes_l0_t draymanref02_Runes_l0_s draymanref02_Runes_l0_h ds) k = draymanref02_Runes_l0_ev draymanref02_One 1000 (encSt draymanref02_Runes_l0_t draymanref02_Runes_l0_s draymanref02_Runes_l0_h [.s (hdS ds), .i (hdI ds.tail), .q (.int .i64 (.nil)) (hdQ (.int .i64 (.nil)) ds.tail.tail), .q (.int .i64 (.nil)) (hdQ (.int .i64 (.nil)) ds.tail.tail.tail)]) k := by kernel_rfl
  have h2 := draymanref02_Runes_l0_eq draymanref02_One 1000 (hdS ds) (hdI ds.tail) (hdQ (.int .i64 (.nil)) ds.tail.tail) (hdQ (.int .i64 (.nil)) ds.tail.tail.tail) k
  exact h1.trans h2

theorem draymanref02_Runes_ev {α : Type} (draymanref02_One : draymanref02_One_T α) : EvOk (α := α) Go.Proofs.Tryd.prog (envOf (draymanref02_Runes_C draymanref02_One) draymanref02_Runes_q draymanref02_Runes_inl 1000 draymanref02_Runes_ann true (draymanref02_Runes_loops draymanref02_One) (fun _ => none)) 6 (draymanref02_Runes_sp (draymanref02_Runes_g draymanref02_One)) := by intro ds k; kernel_rfl

theorem draymanref02_Runes_ok {α : Type} : (draymanref02_Runes_spec : FunSpec α).ok Go.Proofs.Tryd.prog :=
  FunSpec.ok_of (sp := draymanref02_Runes_spec) (C := draymanref02_Runes_C draymanref02_One) (q := draymanref02_Runes_q) (inl := draymanref02_Runes_inl) (N := 1000) (ann := draymanref02_Runes_ann) (fr := true) (D := 6) (l := (draymanref02_Runes_loops draymanref02_One)) (hk := (fun _ => none)) (okCons draymanref02_One_ok okNil) (lokCons (draymanref02_Runes_l0_ok draymanref02_One) lokNil) noHooks (draymanref02_Runes_ev draymanref02_One)

end
end Go.Rv.Tryd

set_option linter.unusedVariables false
set_option maxRecDepth 100000
set_option maxHeartbeats 4000000
namespace Go.Rv.Tryd
open Go Go.Rv Go.RowKit
noncomputable section

-- drayman/draymanref02.Rune

abbrev draymanref02_Rune_T (α : Type) : Type := Int → (Bool → Option α) → Option α

noncomputable def draymanref02_Rune {α : Type} (n1 : Int) (k : Bool → Option α) : Option α :=
  (cond (decide (n1 ≥ 97))
    (cond (!(decide (n1 ≤ 122)))
      (cond (decide (n1 ≥ 48))
        (cond (!(decide (n1 ≤ 57)))
          (cond (!(n1 == 45))
            (cond (decide (n1 ≥ 223))
              (cond (decide (n1 ≤ 255))
                (k (n1 != 247))
                (k false))
              (k false))
            (k true))
          (k true))
        (cond (!(n1 == 45))
          (cond (decide (n1 ≥ 223))
            (cond (decide (n1 ≤ 255))
              (k (n1 != 247))
              (k false))
            (k false))
          (k true)))
      (k true))
    (cond (decide (n1 ≥ 48))
      (cond (!(decide (n1 ≤ 57)))
        (cond (!(n1 == 45))
          (cond (decide (n1 ≥ 223))
            (cond (decide (n1 ≤ 255))
              (k (n1 != 247))
              (k false))
            (k false))
          (k true))
        (k true))
      (cond (!(n1 == 45))
        (cond (decide (n1 ≥ 223))
          (cond (decide (n1 ≤ 255))
            (k (n1 != 247))
            (k false))
          (k false))
        (k true))))

noncomputable def draymanref02_Rune_sp {α : Type} (draymanref02_Rune : draymanref02_Rune_T α) : FunSpec α := ⟨94, [.int .i64], [], fun ds k => draymanref02_Rune (hdI ds) (fun r1 => k (enc dep (.bool) [.b r1]).1 [])⟩

noncomputable def draymanref02_Rune_spec {α : Type} : FunSpec α := draymanref02_Rune_sp draymanref02_Rune

noncomputable def draymanref02_Rune_C {α : Type} : List (FunSpec α) := []

noncomputable def draymanref02_Rune_q : FuncId → Bool := fun f => false

noncomputable def draymanref02_Rune_inl : FuncId → Bool := fun f => false

noncomputable def draymanref02_Rune_ann : FuncId → AnnT := fun f p => ⟨[], [], [], [], 0, [], [], none⟩

noncomputable def draymanref02_Rune_loops {α : Type} : List (LoopSpec α) := []

theorem draymanref02_Rune_ev {α : Type} : EvOk (α := α) Go.Proofs.Tryd.prog (envOf (draymanref02_Rune_C) draymanref02_Rune_q draymanref02_Rune_inl 1000 draymanref02_Rune_ann false (draymanref02_Rune_loops) (fun _ => none)) 6 (draymanref02_Rune_sp (draymanref02_Rune)) := by intro ds k; kernel_rfl

theorem draymanref02_Rune_ok {α : Type} : (draymanref02_Rune_spec : FunSpec α).ok Go.Proofs.Tryd.prog :=
  FunSpec.ok_of (sp := draymanref02_Rune_spec) (C := draymanref02_Rune_C) (q := draymanref02_Rune_q) (inl := draymanref02_Rune_inl) (N := 1000) (ann := draymanref02_Rune_ann) (fr := false) (D := 6) (l := (draymanref02_Rune_loops)) (hk := (fun _ => none)) okNil lokNil noHooks (draymanref02_Rune_ev)

end
end Go.Rv.Tryd

set_option linter.unusedVariables false
set_option maxRecDepth 100000
set_option maxHeartbeats 4000000
namespace Go.Rv.Tryd
open Go Go.Rv Go.RowKit
noncomputable section

-- drayman/draymanref02.Fit

abbrev draymanref02_Fit_T (α : Type) : Type := ByteArray → (Bool → Option α) → Option α

noncomputable def draymanref02_Fit_l0_step {α : Type} (draymanref02_Runes : draymanref02_Runes_T α) (draymanref02_Rune : draymanref02_Rune_T α) (kr : (Bool) → Option α) (k0 : Option α) (rec : (Seq (Int × Unit)) → (Int) → Option α) (l4 : Seq (Int × Unit)) (i5 : Int) : Option α :=
  (cond (decide (i5 < (l4.n : Int)))
    (cond ((decide ((0 : Int) ≤ i5)) && (decide (i5 < (l4.n : Int))))
      (draymanref02_Rune ((l4.g i5.toNat).1) fun r6 =>
        (cond (!r6)
          (kr false)
          (rec l4 (IntKind.i64.wrap (i5 + 1)))))
      none)
    (k0))

noncomputable def draymanref02_Fit_l0_run {α : Type} (draymanref02_Runes : draymanref02_Runes_T α) (draymanref02_Rune : draymanref02_Rune_T α) (kr : (Bool) → Option α) (k0 : Option α) : Nat → (Seq (Int × Unit)) → (Int) → Option α
  | 0, _, _ => none
  | n + 1, l4, i5 => draymanref02_Fit_l0_step draymanref02_Runes draymanref02_Rune kr k0 (fun l4 i5 => draymanref02_Fit_l0_run draymanref02_Runes draymanref02_Rune kr k0 n l4 i5) l4 i5

noncomputable def draymanref02_Fit_g {α : Type} (draymanref02_Runes : draymanref02_Runes_T α) (draymanref02_Rune : draymanref02_Rune_T α) (s1 : ByteArray) (k : Bool → Option α) : Option α :=
  (cond (decide ((s1.size : Int) > 48))
    (k false)
    (draymanref02_Runes s1 fun r2 r3 =>
      (cond (!(!r3))
        (cond (!(decide ((r2.n : Int) < 1)))
          (cond (!(decide ((r2.n : Int) > 12)))
            (cond (decide ((0 : Int) < (r2.n : Int)))
              (cond ((r2.g 0).1 == 45)
                (k false)
                (draymanref02_Fit_l0_run draymanref02_Runes draymanref02_Rune
                  (fun x7 =>
                    (k x7))
                  ((k true))
                  1000 r2 0))
              none)
            (k false))
          (k false))
        (k false))))

noncomputable def draymanref02_Fit {α : Type} : draymanref02_Fit_T α := draymanref02_Fit_g draymanref02_Runes draymanref02_Rune

noncomputable def draymanref02_Fit_sp {α : Type} (draymanref02_Fit : draymanref02_Fit_T α) : FunSpec α := ⟨53, [.str], [], fun ds k => draymanref02_Fit (hdS ds) (fun r1 => k (enc dep (.bool) [.b r1]).1 [])⟩

noncomputable def draymanref02_Fit_spec {α : Type} : FunSpec α := draymanref02_Fit_sp draymanref02_Fit

noncomputable def draymanref02_Fit_C {α : Type} (draymanref02_Runes : draymanref02_Runes_T α) (draymanref02_Rune : draymanref02_Rune_T α) : List (FunSpec α) := [draymanref02_Runes_sp draymanref02_Runes, draymanref02_Rune_sp draymanref02_Rune]

noncomputable def draymanref02_Fit_q : FuncId → Bool := fun f => Nat.beq f 94

noncomputable def draymanref02_Fit_inl : FuncId → Bool := fun f => false

noncomputable def draymanref02_Fit_ann : FuncId → AnnT := fun f p => if f = 53 then (if p = [true, false, true, true, true, true] then ⟨[3, 5], [], [], [2], 0, [], [], none⟩ else ⟨[], [], [], [], 0, [], [], none⟩) else ⟨[], [], [], [], 0, [], [], none⟩

noncomputable def draymanref02_Fit_l0_t : List Sh := [.dead, .dead, .dead, .sl (.int .i64 (.nil)), .dead, .int .i64, .dead, .dead, .dead, .dead, .dead, .dead, .dead, .dead, .dead, .dead, .dead, .dead, .dead, .dead, .dead, .dead, .dead, .dead, .dead, .dead, .dead, .dead, .dead, .dead, .dead, .dead, .dead, .dead, .dead, .dead, .dead, .dead, .dead, .dead, .dead, .dead, .dead, .dead]
noncomputable def draymanref02_Fit_l0_s : List (List Sh) := []
noncomputable def draymanref02_Fit_l0_h : List BSh := []

noncomputable def draymanref02_Fit_l0_spec {α : Type} (draymanref02_Runes : draymanref02_Runes_T α) (draymanref02_Rune : draymanref02_Rune_T α) : LoopSpec α := ⟨6, 53, [true, false, true, true, true, true], draymanref02_Fit_l0_t, draymanref02_Fit_l0_s, draymanref02_Fit_l0_h, fun ds k => draymanref02_Fit_l0_run draymanref02_Runes draymanref02_Rune (fun y1 => k .ret (encSt [.dead, .dead, .bool, .dead, .dead, .dead, .dead, .dead, .dead, .dead, .dead, .dead, .dead, .dead, .dead, .dead, .dead, .dead, .dead, .dead, .dead, .dead, .dead, .dead, .dead, .dead, .dead, .dead, .dead, .dead, .dead, .dead, .dead, .dead, .dead, .dead, .dead, .dead, .dead, .dead, .dead, .dead, .dead, .dead] [] [] [.b y1])) (k (.exit 0) (encSt [.dead, .dead, .dead, .dead, .dead, .dead, .dead, .dead, .dead, .dead, .dead, .dead, .dead, .dead, .dead, .dead, .dead, .dead, .dead, .dead, .dead, .dead, .dead, .dead, .dead, .dead, .dead, .dead, .dead, .dead, .dead, .dead, .dead, .dead, .dead, .dead, .dead, .dead, .dead, .dead, .dead, .dead, .dead, .dead] [] [] [])) 1000 (hdQ (.int .i64 (.nil)) ds) (hdI ds.tail)⟩

noncomputable def draymanref02_Fit_loops {α : Type} (draymanref02_Runes : draymanref02_Runes_T α) (draymanref02_Rune : draymanref02_Rune_T α) : List (LoopSpec α) := [draymanref02_Fit_l0_spec draymanref02_Runes draymanref02_Rune]

noncomputable def draymanref02_Fit_l0_ev {α : Type} (draymanref02_Runes : draymanref02_Runes_T α) (draymanref02_Rune : draymanref02_Rune_T α) (n : Nat) (st : St) (k : X → St → Option α) : Option α := loopN (evCode Go.Proofs.Tryd.prog (callD Go.Proofs.Tryd.prog (envOf (draymanref02_Fit_C draymanref02_Runes draymanref02_Rune) draymanref02_Fit_q draymanref02_Fit_inl 1000 draymanref02_Fit_ann false (draymanref02_Fit_loops draymanref02_Runes draymanref02_Rune) (fun _ => none)) 6) (((envOf (draymanref02_Fit_C draymanref02_Runes draymanref02_Rune) draymanref02_Fit_q draymanref02_Fit_inl 1000 draymanref02_Fit_ann false (draymanref02_Fit_loops draymanref02_Runes draymanref02_Rune) (fun _ => none)) : Env α).L 6 53) 1000 (draymanref02_Fit_ann 53) (false :: [true, false, true, true, true, true]) (loopC Go.Proofs.Tryd.prog 53 [true, false, true, true, true, true])) ((draymanref02_Fit_ann 53 [true, false, true, true, true, true]).head 0) ((draymanref02_Fit_ann 53 [true, false, true, true, true, true]).leave 0) n st k

theorem draymanref02_Fit_l0_eq {α : Type} (draymanref02_Runes : draymanref02_Runes_T α) (draymanref02_Rune : draymanref02_Rune_T α) : ∀ (n : Nat) (l4 : Seq (Int × Unit)) (i5 : Int) (k : X → St → Option α), draymanref02_Fit_l0_ev draymanref02_Runes draymanref02_Rune n (encSt draymanref02_Fit_l0_t draymanref02_Fit_l0_s draymanref02_Fit_l0_h [.q (.int .i64 (.nil)) l4, .i i5]) k = draymanref02_Fit_l0_run draymanref02_Runes draymanref02_Rune (fun y1 => k .ret (encSt [.dead, .dead, .bool, .dead, .dead, .dead, .dead, .dead, .dead, .dead, .dead, .dead, .dead, .dead, .dead, .dead, .dead, .dead, .dead, .dead, .dead, .dead, .dead, .dead, .dead, .dead, .dead, .dead, .dead, .dead, .dead, .dead, .dead, .dead, .dead, .dead, .dead, .dead, .dead, .dead, .dead, .dead, .dead, .dead] [] [] [.b y1])) (k (.exit 0) (encSt [.dead, .dead, .dead, .dead, .dead, .dead, .dead, .dead, .dead, .dead, .dead, .dead, .dead, .dead, .dead, .dead, .dead, .dead, .dead, .dead, .dead, .dead, .dead, .dead, .dead, .dead, .dead, .dead, .dead, .dead, .dead, .dead, .dead, .dead, .dead, .dead, .dead, .dead, .dead, .dead, .dead, .dead, .dead, .dead] [] [] [])) n l4 i5 := by
  intro n
  induction n with
  | zero => intros; kernel_rfl
  | succ n ih =>
    intro l4 i5 k
    have e : (fun (l4 : Seq (Int × Unit)) (i5 : Int) => draymanref02_Fit_l0_ev draymanref02_Runes draymanref02_Rune n (encSt draymanref02_Fit_l0_t draymanref02_Fit_l0_s draymanref02_Fit_l0_h [.q (.int .i64 (.nil)) l4, .i i5]) k) = (fun (l4 : Seq (Int × Unit)) (i5 : Int) => draymanref02_Fit_l0_run draymanref02_Runes draymanref02_Rune (fun y1 => k .ret (encSt [.dead, .dead, .bool, .dead, .dead, .dead, .dead, .dead, .dead, .dead, .dead, .dead, .dead, .dead, .dead, .dead, .dead, .dead, .dead, .dead, .dead, .dead, .dead, .dead, .dead, .dead, .dead, .dead, .dead, .dead, .dead, .dead, .dead, .dead, .dead, .dead, .dead, .dead, .dead, .dead, .dead, .dead, .dead, .dead] [] [] [.b y1])) (k (.exit 0) (encSt [.dead, .dead, .dead, .dead, .dead, .dead, .dead, .dead, .dead, .dead, .dead, .dead, .dead, .dead, .dead, .dead, .dead, .dead, .dead, .dead, .dead, .dead, .dead, .dead, .dead, .dead, .dead, .dead, .dead, .dead, .dead, .dead, .dead, .dead, .dead, .dead, .dead, .dead, .dead, .dead, .dead, .dead, .dead, .dead] [] [] [])) n l4 i5) := by
      funext l4 i5
      exact ih l4 i5 k
    have h1 : draymanref02_Fit_l0_ev draymanref02_Runes draymanref02_Rune (n + 1) (encSt draymanref02_Fit_l0_t draymanref02_Fit_l0_s draymanref02_Fit_l0_h [.q (.int .i64 (.nil)) l4, .i i5]) k = draymanref02_Fit_l0_step draymanref02_Runes draymanref02_Rune (fun y1 => k .ret (encSt [.dead, .dead, .bool, .dead, .dead, .dead, .dead, .dead, .dead, .dead, .dead, .dead, .dead, .dead, .dead, .dead, .dead, .dead, .dead, .dead, .dead, .dead, .dead, .dead, .dead, .dead, .dead, .dead, .dead, .dead, .dead, .dead, .dead, .dead, .dead, .dead, .dead, .dead, .dead, .dead, .dead, .dead, .dead, .dead] [] [] [.b y1])) (k (.exit 0) (encSt [.dead, .dead, .dead, .dead, .dead, .dead, .dead, .dead, .dead, .dead, .dead, .dead, .dead, .dead, .dead, .dead, .dead, .dead, .dead, .dead, .dead, .dead, .dead, .dead, .dead, .dead, .dead, .dead, .dead, .dead, .dead, .dead, .dead, .dead, .dead, .dead, .dead, .dead, .dead, .dead, .dead, .dead, .dead, .dead] [] [] [])) (fun (l4 : Seq (Int × Unit)) (i5 : Int) => draymanref02_Fit_l0_ev draymanref02_Runes draymanref02_Rune n (encSt draymanref02_Fit_l0_t draymanref02_Fit_l0_s draymanref02_Fit_l0_h [.q (.int .i64 (.nil)) l4, .i i5]) k) l4 i5 := by kernel_rfl
    have h2 := congrArg (fun r => draymanref02_Fit_l0_step draymanref02_Runes draymanref02_Rune (fun y1 => k .ret (encSt [.dead, .dead, .bool, .dead, .dead, .dead, .dead, .dead, .dead, .dead, .dead, .dead, .dead, .dead, .dead, .dead, .dead, .dead, .dead, .dead, .dead, .dead, .dead, .dead, .dead, .dead, .dead, .dead, .dead, .dead, .dead, .dead, .dead, .dead, .dead, .dead, .dead, .dead, .dead, .dead, .dead, .dead, .dead, .dead] [] [] [.b y1])) (k (.exit 0) (encSt [.dead, .dead, .dead, .dead, .dead, .dead, .dead, .dead, .dead, .dead, .dead, .dead, .dead, .dead, .dead, .dead, .dead, .dead, .dead, .dead, .dead, .dead, .dead, .dead, .dead, .dead, .dead, .dead, .dead, .dead, .dead, .dead, .dead, .dead, .dead, .dead, .dead, .dead, .dead, .dead, .dead, .dead, .dead, .dead] [] [] [])) r l4 i5) e
    have h3 : draymanref02_Fit_l0_step draymanref02_Runes draymanref02_Rune (fun y1 => k .ret (encSt [.dead, .dead, .bool, .dead, .dead, .dead, .dead, .dead, .dead, .dead, .dead, .dead, .dead, .dead, .dead, .dead, .dead, .dead, .dead, .dead, .dead, .dead, .dead, .dead, .dead, .dead, .dead, .dead, .dead, .dead, .dead, .dead, .dead, .dead, .dead, .dead, .dead, .dead, .dead, .dead, .dead, .dead, .dead, .dead] [] [] [.b y1])) (k (.exit 0) (encSt [.dead, .dead, .dead, .dead, .dead, .dead, .dead, .dead, .dead, .dead, .dead, .dead, .dead, .dead, .dead, .dead, .dead, .dead, .dead, .dead, .dead, .dead, .dead, .dead, .dead, .dead, .dead, .dead, .dead, .dead, .dead, .dead, .dead, .dead, .dead, .dead, .dead, .dead, .dead, .dead, .dead, .dead, .dead, .dead] [] [] [])) (fun (l4 : Seq (Int × Unit)) (i5 : Int) => draymanref02_Fit_l0_run draymanref02_Runes draymanref02_Rune (fun y1 => k .ret (encSt [.dead, .dead, .bool, .dead, .dead, .dead, .dead, .dead, .dead, .dead, .dead, .dead, .dead, .dead, .dead, .dead, .dead, .dead, .dead, .dead, .dead, .dead, .dead, .dead, .dead, .dead, .dead, .dead, .dead, .dead, .dead, .dead, .dead, .dead, .dead, .dead, .dead, .dead, .dead, .dead, .dead, .dead, .dead, .dead] [] [] [.b y1])) (k (.exit 0) (encSt [.dead, .dead, .dead, .dead, .dead, .dead, .dead, .dead, .dead, .dead, .dead, .dead, .dead, .dead, .dead, .dead, .dead, .dead, .dead, .dead, .dead, .dead, .dead, .dead, .dead, .dead, .dead, .dead, .dead, .dead, .dead, .dead, .dead, .dead, .dead, .dead, .dead, .dead, .dead, .dead, .dead, .dead, .dead, .dead] [] [] [])) n l4 i5) l4 i5 = draymanref02_Fit_l0_run draymanref02_Runes draymanref02_Rune (fun y1 => k .ret (encSt [.dead, .dead, .bool, .dead, .dead, .dead, .dead, .dead, .dead, .dead, .dead, .dead, .dead, .dead, .dead, .dead, .dead, .dead, .dead, .dead, .dead, .dead, .dead, .dead, .dead, .dead, .dead, .dead, .dead, .dead, .dead, .dead, .dead, .dead, .dead, .dead, .dead, .dead, .dead, .dead, .dead, .dead, .dead, .dead] [] [] [.b y1])) (k (.exit 0) (encSt [.dead, .dead, .dead, .dead, .dead, .dead, .dead, .dead, .dead, .dead, .dead, .dead, .dead, .dead, .dead, .dead, .dead, .dead, .dead, .dead, .dead, .dead, .dead, .dead, .dead, .dead, .dead, .dead, .dead, .dead, .dead, .dead, .dead, .dead, .dead, .dead, .dead, .dead, .dead, .dead, .dead, .dead, .dead, .dead] [] [] [])) (n + 1) l4 i5 := by kernel_rfl
    exact h1.trans (h2.trans h3)

theorem draymanref02_Fit_l0_ok {α : Type} (draymanref02_Runes : draymanref02_Runes_T α) (draymanref02_Rune : draymanref02_Rune_T α) : (draymanref02_Fit_l0_spec draymanref02_Runes draymanref02_Rune : LoopSpec α).ok Go.Proofs.Tryd.prog (envOf (draymanref02_Fit_C draymanref02_Runes draymanref02_Rune) draymanref02_Fit_q draymanref02_Fit_inl 1000 draymanref02_Fit_ann false (draymanref02_Fit_loops draymanref02_Runes draymanref02_Rune) (fun _ => none)) := by
  intro ds k
  have h1 : draymanref02_Fit_l0_ev draymanref02_Runes draymanref02_Rune 1000 (encSt draymanref02_Fit_l0_t draymanref02_Fit_l0_s draymanref02_Fit_l0_h ds) k = draymanref02_Fit_l0_ev draymanref02_Runes draymanref02_Rune 1000 (encSt draymanref02_Fit_l0_t draymanref02_Fit_l0_s draymanref02_Fit_l0_h [.q (.int .i64 (.nil)) (hdQ (.int .i64 (.nil)) ds), .i (hdI ds.tail)]) k := by kernel_rfl
  have h2 := draymanref02_Fit_l0_eq draymanref02_Runes draymanref02_Rune 1000 (hdQ (.int .i64 (.nil)) ds) (hdI ds.tail) k
  exact h1.trans h2

theorem draymanref02_Fit_ev {α : Type} (draymanref02_Runes : draymanref02_Runes_T α) (draymanref02_Rune : draymanref02_Rune_T α) : EvOk (α := α) Go.Proofs.Tryd.prog (envOf (draymanref02_Fit_C draymanref02_Runes draymanref02_Rune) draymanref02_Fit_q draymanref02_Fit_inl 1000 draymanref02_Fit_ann false (draymanref02_Fit_loops draymanref02_Runes draymanref02_Rune) (fun _ => none)) 6 (draymanref02_Fit_sp (draymanref02_Fit_g draymanref02_Runes draymanref02_Rune)) := by intro ds k; kernel_rfl

theorem draymanref02_Fit_ok {α : Type} : (draymanref02_Fit_spec : FunSpec α).ok Go.Proofs.Tryd.prog :=
  FunSpec.ok_of (sp := draymanref02_Fit_spec) (C := draymanref02_Fit_C draymanref02_Runes draymanref02_Rune) (q := draymanref02_Fit_q) (inl := draymanref02_Fit_inl) (N := 1000) (ann := draymanref02_Fit_ann) (fr := false) (D := 6) (l := (draymanref02_Fit_loops draymanref02_Runes draymanref02_Rune)) (hk := (fun _ => none)) (okCons draymanref02_Runes_ok (okCons draymanref02_Rune_ok okNil)) (lokCons (draymanref02_Fit_l0_ok draymanref02_Runes draymanref02_Rune) lokNil) noHooks (draymanref02_Fit_ev draymanref02_Runes draymanref02_Rune)

end
end Go.Rv.Tryd

set_option linter.unusedVariables false
set_option maxRecDepth 100000
set_option maxHeartbeats 4000000
namespace Go.Rv.Tryd
open Go Go.Rv Go.RowKit
noncomputable section

-- drayman/draymanref01.Fit

abbrev draymanref01_Fit_T (α : Type) : Type := Int → (Bool → Option α) → Option α

noncomputable def draymanref01_Fit {α : Type} (n1 : Int) (k : Bool → Option α) : Option α :=
  (cond (decide (n1 ≥ 0))
    (k (decide (n1 ≤ 1099511627776)))
    (k false))

noncomputable def draymanref01_Fit_sp {α : Type} (draymanref01_Fit : draymanref01_Fit_T α) : FunSpec α := ⟨59, [.int .i64], [], fun ds k => draymanref01_Fit (hdI ds) (fun r1 => k (enc dep (.bool) [.b r1]).1 [])⟩

noncomputable def draymanref01_Fit_spec {α : Type} : FunSpec α := draymanref01_Fit_sp draymanref01_Fit

noncomputable def draymanref01_Fit_C {α : Type} : List (FunSpec α) := []

noncomputable def draymanref01_Fit_q : FuncId → Bool := fun f => false

noncomputable def draymanref01_Fit_inl : FuncId → Bool := fun f => false

noncomputable def draymanref01_Fit_ann : FuncId → AnnT := fun f p => ⟨[], [], [], [], 0, [], [], none⟩

noncomputable def draymanref01_Fit_loops {α : Type} : List (LoopSpec α) := []

theorem draymanref01_Fit_ev {α : Type} : EvOk (α := α) Go.Proofs.Tryd.prog (envOf (draymanref01_Fit_C) draymanref01_Fit_q draymanref01_Fit_inl 1000 draymanref01_Fit_ann false (draymanref01_Fit_loops) (fun _ => none)) 6 (draymanref01_Fit_sp (draymanref01_Fit)) := by intro ds k; kernel_rfl

theorem draymanref01_Fit_ok {α : Type} : (draymanref01_Fit_spec : FunSpec α).ok Go.Proofs.Tryd.prog :=
  FunSpec.ok_of (sp := draymanref01_Fit_spec) (C := draymanref01_Fit_C) (q := draymanref01_Fit_q) (inl := draymanref01_Fit_inl) (N := 1000) (ann := draymanref01_Fit_ann) (fr := false) (D := 6) (l := (draymanref01_Fit_loops)) (hk := (fun _ => none)) okNil lokNil noHooks (draymanref01_Fit_ev)

end
end Go.Rv.Tryd

set_option linter.unusedVariables false
set_option maxRecDepth 100000
set_option maxHeartbeats 4000000
namespace Go.Rv.Tryd
open Go Go.Rv Go.RowKit
noncomputable section

-- drayman/draymanref12.Fit

abbrev draymanref12_Fit_T (α : Type) : Type := Z0 → (Bool → Option α) → Option α

noncomputable def draymanref12_Fit_g {α : Type} (draymanref02_Fit : draymanref02_Fit_T α) (draymanref01_Fit : draymanref01_Fit_T α) (x1 : ByteArray × Int × Int × Int × Int × Int × Unit) (k : Bool → Option α) : Option α :=
  (draymanref02_Fit x1.1 fun r2 =>
    (cond (!(!r2))
      (draymanref01_Fit x1.2.1 fun r3 =>
        (cond (!(!r3))
          (draymanref01_Fit x1.2.2.1 fun r4 =>
            (cond (!(!r4))
              (draymanref01_Fit x1.2.2.2.1 fun r5 =>
                (cond (!(!r5))
                  (draymanref01_Fit x1.2.2.2.2.1 fun r6 =>
                    (cond (!(!r6))
                      (draymanref01_Fit x1.2.2.2.2.2.1 fun r7 =>
                        (cond (!r7)
                          (k false)
                          (k ((IntKind.i64.wrap ((IntKind.i64.wrap ((IntKind.i64.wrap (x1.2.1 + x1.2.2.1)) + x1.2.2.2.1)) + x1.2.2.2.2.1)) == x1.2.2.2.2.2.1))))
                      (k false)))
                  (k false)))
              (k false)))
          (k false)))
      (k false)))

noncomputable def draymanref12_Fit {α : Type} : draymanref12_Fit_T α := draymanref12_Fit_g draymanref02_Fit draymanref01_Fit

noncomputable def draymanref12_Fit_sp {α : Type} (draymanref12_Fit : draymanref12_Fit_T α) : FunSpec α := ⟨21, [.agg [.str, .int .i64, .int .i64, .int .i64, .int .i64, .int .i64]], [], fun ds k => draymanref12_Fit (hdS ds, hdI ds.tail, hdI ds.tail.tail, hdI ds.tail.tail.tail, hdI ds.tail.tail.tail.tail, hdI ds.tail.tail.tail.tail.tail, ()) (fun r1 => k (enc dep (.bool) [.b r1]).1 [])⟩

noncomputable def draymanref12_Fit_spec {α : Type} : FunSpec α := draymanref12_Fit_sp draymanref12_Fit

noncomputable def draymanref12_Fit_C {α : Type} (draymanref02_Fit : draymanref02_Fit_T α) (draymanref01_Fit : draymanref01_Fit_T α) : List (FunSpec α) := [draymanref02_Fit_sp draymanref02_Fit, draymanref01_Fit_sp draymanref01_Fit]

noncomputable def draymanref12_Fit_q : FuncId → Bool := fun f => Nat.beq f 53 || Nat.beq f 59

noncomputable def draymanref12_Fit_inl : FuncId → Bool := fun f => false

noncomputable def draymanref12_Fit_ann : FuncId → AnnT := fun f p => ⟨[], [], [], [], 0, [], [], none⟩

noncomputable def draymanref12_Fit_loops {α : Type} (draymanref02_Fit : draymanref02_Fit_T α) (draymanref01_Fit : draymanref01_Fit_T α) : List (LoopSpec α) := []

theorem draymanref12_Fit_ev {α : Type} (draymanref02_Fit : draymanref02_Fit_T α) (draymanref01_Fit : draymanref01_Fit_T α) : EvOk (α := α) Go.Proofs.Tryd.prog (envOf (draymanref12_Fit_C draymanref02_Fit draymanref01_Fit) draymanref12_Fit_q draymanref12_Fit_inl 1000 draymanref12_Fit_ann false (draymanref12_Fit_loops draymanref02_Fit draymanref01_Fit) (fun _ => none)) 6 (draymanref12_Fit_sp (draymanref12_Fit_g draymanref02_Fit draymanref01_Fit)) := by intro ds k; kernel_rfl

theorem draymanref12_Fit_ok {α : Type} : (draymanref12_Fit_spec : FunSpec α).ok Go.Proofs.Tryd.prog :=
  FunSpec.ok_of (sp := draymanref12_Fit_spec) (C := draymanref12_Fit_C draymanref02_Fit draymanref01_Fit) (q := draymanref12_Fit_q) (inl := draymanref12_Fit_inl) (N := 1000) (ann := draymanref12_Fit_ann) (fr := false) (D := 6) (l := (draymanref12_Fit_loops draymanref02_Fit draymanref01_Fit)) (hk := (fun _ => none)) (okCons draymanref02_Fit_ok (okCons draymanref01_Fit_ok okNil)) lokNil noHooks (draymanref12_Fit_ev draymanref02_Fit draymanref01_Fit)

end
end Go.Rv.Tryd

set_option linter.unusedVariables false
set_option maxRecDepth 100000
set_option maxHeartbeats 4000000
namespace Go.Rv.Tryd
open Go Go.Rv Go.RowKit
noncomputable section

-- drayman/draymanref12.Restock

abbrev draymanref12_Restock_T (α : Type) : Type := Z0 → Int → (Z0 → Int → Option α) → Option α

noncomputable def draymanref12_Restock_g {α : Type} (draymanref12_Fit : draymanref12_Fit_T α) (x1 : ByteArray × Int × Int × Int × Int × Int × Unit) (n2 : Int) (k : Z0 → Int → Option α) : Option α :=
  (draymanref12_Fit x1 fun r3 =>
    (cond (!r3)
      (k ((⟨#[]⟩ : ByteArray), 0, 0, 0, 0, 0, ()) 12)
      (cond (!(decide (n2 < 1)))
        (cond (decide (n2 > 1099511627776))
          (k ((⟨#[]⟩ : ByteArray), 0, 0, 0, 0, 0, ()) 11)
          (cond (decide (n2 > (IntKind.i64.wrap (1099511627776 - x1.2.2.2.2.2.1))))
            (k ((⟨#[]⟩ : ByteArray), 0, 0, 0, 0, 0, ()) 5)
            (k (x1.1, (IntKind.i64.wrap (x1.2.1 + n2)), x1.2.2.1, x1.2.2.2.1, x1.2.2.2.2.1, (IntKind.i64.wrap (x1.2.2.2.2.2.1 + n2)), ()) 0)))
        (k ((⟨#[]⟩ : ByteArray), 0, 0, 0, 0, 0, ()) 11))))

noncomputable def draymanref12_Restock {α : Type} : draymanref12_Restock_T α := draymanref12_Restock_g draymanref12_Fit

noncomputable def draymanref12_Restock_sp {α : Type} (draymanref12_Restock : draymanref12_Restock_T α) : FunSpec α := ⟨13, [.agg [.str, .int .i64, .int .i64, .int .i64, .int .i64, .int .i64], .int .i64], [], fun ds k => draymanref12_Restock (hdS ds, hdI ds.tail, hdI ds.tail.tail, hdI ds.tail.tail.tail, hdI ds.tail.tail.tail.tail, hdI ds.tail.tail.tail.tail.tail, ()) (hdI ds.tail.tail.tail.tail.tail.tail) (fun r1 r2 => k (enc dep (.tup [.agg [.str, .int .i64, .int .i64, .int .i64, .int .i64, .int .i64], .int .i64]) [.s r1.1, .i r1.2.1, .i r1.2.2.1, .i r1.2.2.2.1, .i r1.2.2.2.2.1, .i r1.2.2.2.2.2.1, .i r2]).1 [])⟩

noncomputable def draymanref12_Restock_spec {α : Type} : FunSpec α := draymanref12_Restock_sp draymanref12_Restock

noncomputable def draymanref12_Restock_C {α : Type} (draymanref12_Fit : draymanref12_Fit_T α) : List (FunSpec α) := [draymanref12_Fit_sp draymanref12_Fit]

noncomputable def draymanref12_Restock_q : FuncId → Bool := fun f => Nat.beq f 21

noncomputable def draymanref12_Restock_inl : FuncId → Bool := fun f => false

noncomputable def draymanref12_Restock_ann : FuncId → AnnT := fun f p => ⟨[], [], [], [], 0, [], [], none⟩

noncomputable def draymanref12_Restock_loops {α : Type} (draymanref12_Fit : draymanref12_Fit_T α) : List (LoopSpec α) := []

theorem draymanref12_Restock_ev {α : Type} (draymanref12_Fit : draymanref12_Fit_T α) : EvOk (α := α) Go.Proofs.Tryd.prog (envOf (draymanref12_Restock_C draymanref12_Fit) draymanref12_Restock_q draymanref12_Restock_inl 1000 draymanref12_Restock_ann false (draymanref12_Restock_loops draymanref12_Fit) (fun _ => none)) 6 (draymanref12_Restock_sp (draymanref12_Restock_g draymanref12_Fit)) := by intro ds k; kernel_rfl

theorem draymanref12_Restock_ok {α : Type} : (draymanref12_Restock_spec : FunSpec α).ok Go.Proofs.Tryd.prog :=
  FunSpec.ok_of (sp := draymanref12_Restock_spec) (C := draymanref12_Restock_C draymanref12_Fit) (q := draymanref12_Restock_q) (inl := draymanref12_Restock_inl) (N := 1000) (ann := draymanref12_Restock_ann) (fr := false) (D := 6) (l := (draymanref12_Restock_loops draymanref12_Fit)) (hk := (fun _ => none)) (okCons draymanref12_Fit_ok okNil) lokNil noHooks (draymanref12_Restock_ev draymanref12_Fit)

end
end Go.Rv.Tryd

set_option linter.unusedVariables false
set_option maxRecDepth 100000
set_option maxHeartbeats 4000000
namespace Go.Rv.Tryd
open Go Go.Rv Go.RowKit
noncomputable section

-- drayman/stock.Adjust

abbrev stock_Adjust_T (α : Type) : Type := Z0 → Int → (Z0 → Int → Option α) → Option α

noncomputable def stock_Adjust_g {α : Type} (stock_Fit : stock_Fit_T α) (stock_put : stock_put_T α) (x1 : ByteArray × Int × Int × Int × Int × Int × Unit) (x2 : Int) (k : Z0 → Int → Option α) : Option α :=
  (stock_Fit x1 fun r3 =>
    (cond (!r3)
      (k ((⟨#[]⟩ : ByteArray), 0, 0, 0, 0, 0, ()) 12)
      (cond (!(x2 == 0))
        (cond (!(decide (x2 < (-1099511627776))))
          (cond (decide (x2 > 1099511627776))
            (k ((⟨#[]⟩ : ByteArray), 0, 0, 0, 0, 0, ()) 11)
            (stock_put x1 x2 fun r4 r5 =>
              (k r4 r5)))
          (k ((⟨#[]⟩ : ByteArray), 0, 0, 0, 0, 0, ()) 11))
        (k ((⟨#[]⟩ : ByteArray), 0, 0, 0, 0, 0, ()) 11))))

noncomputable def stock_Adjust {α : Type} : stock_Adjust_T α := stock_Adjust_g stock_Fit stock_put

noncomputable def stock_Adjust_sp {α : Type} (stock_Adjust : stock_Adjust_T α) : FunSpec α := ⟨14, [.agg [.str, .int .i64, .int .i64, .int .i64, .int .i64, .int .i64], .int .i64], [], fun ds k => stock_Adjust (hdS ds, hdI ds.tail, hdI ds.tail.tail, hdI ds.tail.tail.tail, hdI ds.tail.tail.tail.tail, hdI ds.tail.tail.tail.tail.tail, ()) (hdI ds.tail.tail.tail.tail.tail.tail) (fun r1 r2 => k (enc dep (.tup [.agg [.str, .int .i64, .int .i64, .int .i64, .int .i64, .int .i64], .int .i64]) [.s r1.1, .i r1.2.1, .i r1.2.2.1, .i r1.2.2.2.1, .i r1.2.2.2.2.1, .i r1.2.2.2.2.2.1, .i r2]).1 [])⟩

noncomputable def stock_Adjust_spec {α : Type} : FunSpec α := stock_Adjust_sp stock_Adjust

noncomputable def stock_Adjust_C {α : Type} (stock_Fit : stock_Fit_T α) (stock_put : stock_put_T α) : List (FunSpec α) := [stock_Fit_sp stock_Fit, stock_put_sp stock_put]

noncomputable def stock_Adjust_q : FuncId → Bool := fun f => Nat.beq f 20 || Nat.beq f 51

noncomputable def stock_Adjust_inl : FuncId → Bool := fun f => false

noncomputable def stock_Adjust_ann : FuncId → AnnT := fun f p => ⟨[], [], [], [], 0, [], [], none⟩

noncomputable def stock_Adjust_loops {α : Type} (stock_Fit : stock_Fit_T α) (stock_put : stock_put_T α) : List (LoopSpec α) := []

theorem stock_Adjust_ev {α : Type} (stock_Fit : stock_Fit_T α) (stock_put : stock_put_T α) : EvOk (α := α) Go.Proofs.Tryd.prog (envOf (stock_Adjust_C stock_Fit stock_put) stock_Adjust_q stock_Adjust_inl 1000 stock_Adjust_ann false (stock_Adjust_loops stock_Fit stock_put) (fun _ => none)) 6 (stock_Adjust_sp (stock_Adjust_g stock_Fit stock_put)) := by intro ds k; kernel_rfl

theorem stock_Adjust_ok {α : Type} : (stock_Adjust_spec : FunSpec α).ok Go.Proofs.Tryd.prog :=
  FunSpec.ok_of (sp := stock_Adjust_spec) (C := stock_Adjust_C stock_Fit stock_put) (q := stock_Adjust_q) (inl := stock_Adjust_inl) (N := 1000) (ann := stock_Adjust_ann) (fr := false) (D := 6) (l := (stock_Adjust_loops stock_Fit stock_put)) (hk := (fun _ => none)) (okCons stock_Fit_ok (okCons stock_put_ok okNil)) lokNil noHooks (stock_Adjust_ev stock_Fit stock_put)

end
end Go.Rv.Tryd

set_option linter.unusedVariables false
set_option maxRecDepth 100000
set_option maxHeartbeats 4000000
namespace Go.Rv.Tryd
open Go Go.Rv Go.RowKit
noncomputable section

-- drayman/draymanref12.Adjust

abbrev draymanref12_Adjust_T (α : Type) : Type := Z0 → Int → (Z0 → Int → Option α) → Option α

noncomputable def draymanref12_Adjust_g {α : Type} (draymanref12_Fit : draymanref12_Fit_T α) (x1 : ByteArray × Int × Int × Int × Int × Int × Unit) (x2 : Int) (k : Z0 → Int → Option α) : Option α :=
  (draymanref12_Fit x1 fun r3 =>
    (cond (!r3)
      (k ((⟨#[]⟩ : ByteArray), 0, 0, 0, 0, 0, ()) 12)
      (cond (!(x2 == 0))
        (cond (!(decide (x2 < (-1099511627776))))
          (cond (decide (x2 > 1099511627776))
            (k ((⟨#[]⟩ : ByteArray), 0, 0, 0, 0, 0, ()) 11)
            (cond (decide ((IntKind.i64.wrap (x1.2.1 + x2)) < 0))
              (k ((⟨#[]⟩ : ByteArray), 0, 0, 0, 0, 0, ()) 6)
              (cond (decide ((IntKind.i64.wrap (x1.2.2.2.2.2.1 + x2)) > 1099511627776))
                (k ((⟨#[]⟩ : ByteArray), 0, 0, 0, 0, 0, ()) 5)
                (k (x1.1, (IntKind.i64.wrap (x1.2.1 + x2)), x1.2.2.1, x1.2.2.2.1, x1.2.2.2.2.1, (IntKind.i64.wrap (x1.2.2.2.2.2.1 + x2)), ()) 0))))
          (k ((⟨#[]⟩ : ByteArray), 0, 0, 0, 0, 0, ()) 11))
        (k ((⟨#[]⟩ : ByteArray), 0, 0, 0, 0, 0, ()) 11))))

noncomputable def draymanref12_Adjust {α : Type} : draymanref12_Adjust_T α := draymanref12_Adjust_g draymanref12_Fit

noncomputable def draymanref12_Adjust_sp {α : Type} (draymanref12_Adjust : draymanref12_Adjust_T α) : FunSpec α := ⟨15, [.agg [.str, .int .i64, .int .i64, .int .i64, .int .i64, .int .i64], .int .i64], [], fun ds k => draymanref12_Adjust (hdS ds, hdI ds.tail, hdI ds.tail.tail, hdI ds.tail.tail.tail, hdI ds.tail.tail.tail.tail, hdI ds.tail.tail.tail.tail.tail, ()) (hdI ds.tail.tail.tail.tail.tail.tail) (fun r1 r2 => k (enc dep (.tup [.agg [.str, .int .i64, .int .i64, .int .i64, .int .i64, .int .i64], .int .i64]) [.s r1.1, .i r1.2.1, .i r1.2.2.1, .i r1.2.2.2.1, .i r1.2.2.2.2.1, .i r1.2.2.2.2.2.1, .i r2]).1 [])⟩

noncomputable def draymanref12_Adjust_spec {α : Type} : FunSpec α := draymanref12_Adjust_sp draymanref12_Adjust

noncomputable def draymanref12_Adjust_C {α : Type} (draymanref12_Fit : draymanref12_Fit_T α) : List (FunSpec α) := [draymanref12_Fit_sp draymanref12_Fit]

noncomputable def draymanref12_Adjust_q : FuncId → Bool := fun f => Nat.beq f 21

noncomputable def draymanref12_Adjust_inl : FuncId → Bool := fun f => false

noncomputable def draymanref12_Adjust_ann : FuncId → AnnT := fun f p => ⟨[], [], [], [], 0, [], [], none⟩

noncomputable def draymanref12_Adjust_loops {α : Type} (draymanref12_Fit : draymanref12_Fit_T α) : List (LoopSpec α) := []

theorem draymanref12_Adjust_ev {α : Type} (draymanref12_Fit : draymanref12_Fit_T α) : EvOk (α := α) Go.Proofs.Tryd.prog (envOf (draymanref12_Adjust_C draymanref12_Fit) draymanref12_Adjust_q draymanref12_Adjust_inl 1000 draymanref12_Adjust_ann false (draymanref12_Adjust_loops draymanref12_Fit) (fun _ => none)) 6 (draymanref12_Adjust_sp (draymanref12_Adjust_g draymanref12_Fit)) := by intro ds k; kernel_rfl

theorem draymanref12_Adjust_ok {α : Type} : (draymanref12_Adjust_spec : FunSpec α).ok Go.Proofs.Tryd.prog :=
  FunSpec.ok_of (sp := draymanref12_Adjust_spec) (C := draymanref12_Adjust_C draymanref12_Fit) (q := draymanref12_Adjust_q) (inl := draymanref12_Adjust_inl) (N := 1000) (ann := draymanref12_Adjust_ann) (fr := false) (D := 6) (l := (draymanref12_Adjust_loops draymanref12_Fit)) (hk := (fun _ => none)) (okCons draymanref12_Fit_ok okNil) lokNil noHooks (draymanref12_Adjust_ev draymanref12_Fit)

end
end Go.Rv.Tryd

set_option linter.unusedVariables false
set_option maxRecDepth 100000
set_option maxHeartbeats 4000000
namespace Go.Rv.Tryd
open Go Go.Rv Go.RowKit
noncomputable section

-- drayman/draymanref12.New

abbrev draymanref12_New_T (α : Type) : Type := ByteArray → (Z0 → Int → Option α) → Option α

noncomputable def draymanref12_New_g {α : Type} (draymanref02_Fit : draymanref02_Fit_T α) (sku1 : ByteArray) (k : Z0 → Int → Option α) : Option α :=
  (draymanref02_Fit sku1 fun r2 =>
    (cond (!r2)
      (k ((⟨#[]⟩ : ByteArray), 0, 0, 0, 0, 0, ()) 7)
      (k (sku1, 0, 0, 0, 0, 0, ()) 0)))

noncomputable def draymanref12_New {α : Type} : draymanref12_New_T α := draymanref12_New_g draymanref02_Fit

noncomputable def draymanref12_New_sp {α : Type} (draymanref12_New : draymanref12_New_T α) : FunSpec α := ⟨17, [.str], [], fun ds k => draymanref12_New (hdS ds) (fun r1 r2 => k (enc dep (.tup [.agg [.str, .int .i64, .int .i64, .int .i64, .int .i64, .int .i64], .int .i64]) [.s r1.1, .i r1.2.1, .i r1.2.2.1, .i r1.2.2.2.1, .i r1.2.2.2.2.1, .i r1.2.2.2.2.2.1, .i r2]).1 [])⟩

noncomputable def draymanref12_New_spec {α : Type} : FunSpec α := draymanref12_New_sp draymanref12_New

noncomputable def draymanref12_New_C {α : Type} (draymanref02_Fit : draymanref02_Fit_T α) : List (FunSpec α) := [draymanref02_Fit_sp draymanref02_Fit]

noncomputable def draymanref12_New_q : FuncId → Bool := fun f => Nat.beq f 53

noncomputable def draymanref12_New_inl : FuncId → Bool := fun f => false

noncomputable def draymanref12_New_ann : FuncId → AnnT := fun f p => ⟨[], [], [], [], 0, [], [], none⟩

noncomputable def draymanref12_New_loops {α : Type} (draymanref02_Fit : draymanref02_Fit_T α) : List (LoopSpec α) := []

theorem draymanref12_New_ev {α : Type} (draymanref02_Fit : draymanref02_Fit_T α) : EvOk (α := α) Go.Proofs.Tryd.prog (envOf (draymanref12_New_C draymanref02_Fit) draymanref12_New_q draymanref12_New_inl 1000 draymanref12_New_ann false (draymanref12_New_loops draymanref02_Fit) (fun _ => none)) 6 (draymanref12_New_sp (draymanref12_New_g draymanref02_Fit)) := by intro ds k; kernel_rfl

theorem draymanref12_New_ok {α : Type} : (draymanref12_New_spec : FunSpec α).ok Go.Proofs.Tryd.prog :=
  FunSpec.ok_of (sp := draymanref12_New_spec) (C := draymanref12_New_C draymanref02_Fit) (q := draymanref12_New_q) (inl := draymanref12_New_inl) (N := 1000) (ann := draymanref12_New_ann) (fr := false) (D := 6) (l := (draymanref12_New_loops draymanref02_Fit)) (hk := (fun _ => none)) (okCons draymanref02_Fit_ok okNil) lokNil noHooks (draymanref12_New_ev draymanref02_Fit)

end
end Go.Rv.Tryd

set_option linter.unusedVariables false
set_option maxRecDepth 100000
set_option maxHeartbeats 4000000
namespace Go.Rv.Tryd
open Go Go.Rv Go.RowKit
noncomputable section

-- drayman/draymanlaw12.StockPuts

abbrev draymanlaw12_StockPuts_T (α : Type) : Type := Z0 → Int → ByteArray → (Bool → Option α) → Option α

noncomputable def draymanlaw12_StockPuts_g {α : Type} (draymanlaw12_awake : draymanlaw12_awake_T α) (stock_Restock : stock_Restock_T α) (draymanref12_Restock : draymanref12_Restock_T α) (stock_Adjust : stock_Adjust_T α) (draymanref12_Adjust : draymanref12_Adjust_T α) (stock_New : stock_New_T α) (draymanref12_New : draymanref12_New_T α) (x1 : ByteArray × Int × Int × Int × Int × Int × Unit) (x2 : Int) (x3 : ByteArray) (k : Bool → Option α) : Option α :=
  (cond (!(decide ((x1.1.size : Int) > 60)))
    (cond (decide ((x3.size : Int) > 60))
      (draymanlaw12_awake fun r4 =>
        (k r4))
      (stock_Restock x1 x2 fun r5 r6 =>
        (draymanref12_Restock x1 x2 fun r7 r8 =>
          (stock_Adjust x1 x2 fun r9 r10 =>
            (draymanref12_Adjust x1 x2 fun r11 r12 =>
              (stock_New x3 fun r13 r14 =>
                (draymanref12_New x3 fun r15 r16 =>
                  (cond ((r5.1.toList == r7.1.toList) && ((r5.2.1 == r7.2.1) && ((r5.2.2.1 == r7.2.2.1) && ((r5.2.2.2.1 == r7.2.2.2.1) && ((r5.2.2.2.2.1 == r7.2.2.2.2.1) && ((r5.2.2.2.2.2.1 == r7.2.2.2.2.2.1) && true))))))
                    (cond (r6 == r8)
                      (cond ((r9.1.toList == r11.1.toList) && ((r9.2.1 == r11.2.1) && ((r9.2.2.1 == r11.2.2.1) && ((r9.2.2.2.1 == r11.2.2.2.1) && ((r9.2.2.2.2.1 == r11.2.2.2.2.1) && ((r9.2.2.2.2.2.1 == r11.2.2.2.2.2.1) && true))))))
                        (cond (r10 == r12)
                          (cond ((r13.1.toList == r15.1.toList) && ((r13.2.1 == r15.2.1) && ((r13.2.2.1 == r15.2.2.1) && ((r13.2.2.2.1 == r15.2.2.2.1) && ((r13.2.2.2.2.1 == r15.2.2.2.2.1) && ((r13.2.2.2.2.2.1 == r15.2.2.2.2.2.1) && true))))))
                            (cond (r14 == r16)
                              (draymanlaw12_awake fun r17 =>
                                (k r17))
                              (k false))
                            (k false))
                          (k false))
                        (k false))
                      (k false))
                    (k false)))))))))
    (draymanlaw12_awake fun r18 =>
      (k r18)))

noncomputable def draymanlaw12_StockPuts {α : Type} : draymanlaw12_StockPuts_T α := draymanlaw12_StockPuts_g draymanlaw12_awake stock_Restock draymanref12_Restock stock_Adjust draymanref12_Adjust stock_New draymanref12_New

noncomputable def draymanlaw12_StockPuts_sp {α : Type} (draymanlaw12_StockPuts : draymanlaw12_StockPuts_T α) : FunSpec α := ⟨3, [.agg [.str, .int .i64, .int .i64, .int .i64, .int .i64, .int .i64], .int .i64, .str], [], fun ds k => draymanlaw12_StockPuts (hdS ds, hdI ds.tail, hdI ds.tail.tail, hdI ds.tail.tail.tail, hdI ds.tail.tail.tail.tail, hdI ds.tail.tail.tail.tail.tail, ()) (hdI ds.tail.tail.tail.tail.tail.tail) (hdS ds.tail.tail.tail.tail.tail.tail.tail) (fun r1 => k (enc dep (.bool) [.b r1]).1 [])⟩

noncomputable def draymanlaw12_StockPuts_spec {α : Type} : FunSpec α := draymanlaw12_StockPuts_sp draymanlaw12_StockPuts

noncomputable def draymanlaw12_StockPuts_C {α : Type} (draymanlaw12_awake : draymanlaw12_awake_T α) (stock_Restock : stock_Restock_T α) (draymanref12_Restock : draymanref12_Restock_T α) (stock_Adjust : stock_Adjust_T α) (draymanref12_Adjust : draymanref12_Adjust_T α) (stock_New : stock_New_T α) (draymanref12_New : draymanref12_New_T α) : List (FunSpec α) := [draymanlaw12_awake_sp draymanlaw12_awake, stock_Restock_sp stock_Restock, draymanref12_Restock_sp draymanref12_Restock, stock_Adjust_sp stock_Adjust, draymanref12_Adjust_sp draymanref12_Adjust, stock_New_sp stock_New, draymanref12_New_sp draymanref12_New]

noncomputable def draymanlaw12_StockPuts_q : FuncId → Bool := fun f => Nat.beq f 11 || Nat.beq f 12 || Nat.beq f 13 || Nat.beq f 14 || Nat.beq f 15 || Nat.beq f 16 || Nat.beq f 17

noncomputable def draymanlaw12_StockPuts_inl : FuncId → Bool := fun f => false

noncomputable def draymanlaw12_StockPuts_ann : FuncId → AnnT := fun f p => ⟨[], [], [], [], 0, [], [], none⟩

noncomputable def draymanlaw12_StockPuts_loops {α : Type} (draymanlaw12_awake : draymanlaw12_awake_T α) (stock_Restock : stock_Restock_T α) (draymanref12_Restock : draymanref12_Restock_T α) (stock_Adjust : stock_Adjust_T α) (draymanref12_Adjust : draymanref12_Adjust_T α) (stock_New : stock_New_T α) (draymanref12_New : draymanref12_New_T α) : List (LoopSpec α) := []

theorem draymanlaw12_StockPuts_ev {α : Type} (draymanlaw12_awake : draymanlaw12_awake_T α) (stock_Restock : stock_Restock_T α) (draymanref12_Restock : draymanref12_Restock_T α) (stock_Adjust : stock_Adjust_T α) (draymanref12_Adjust : draymanref12_Adjust_T α) (stock_New : stock_New_T α) (draymanref12_New : draymanref12_New_T α) : EvOk (α := α) Go.Proofs.Tryd.prog (envOf (draymanlaw12_StockPuts_C draymanlaw12_awake stock_Restock draymanref12_Restock stock_Adjust draymanref12_Adjust stock_New draymanref12_New) draymanlaw12_StockPuts_q draymanlaw12_StockPuts_inl 1000 draymanlaw12_StockPuts_ann false (draymanlaw12_StockPuts_loops draymanlaw12_awake stock_Restock draymanref12_Restock stock_Adjust draymanref12_Adjust stock_New draymanref12_New) (fun _ => none)) 6 (draymanlaw12_StockPuts_sp (draymanlaw12_StockPuts_g draymanlaw12_awake stock_Restock draymanref12_Restock stock_Adjust draymanref12_Adjust stock_New draymanref12_New)) := by intro ds k; kernel_rfl

theorem draymanlaw12_StockPuts_ok {α : Type} : (draymanlaw12_StockPuts_spec : FunSpec α).ok Go.Proofs.Tryd.prog :=
  FunSpec.ok_of (sp := draymanlaw12_StockPuts_spec) (C := draymanlaw12_StockPuts_C draymanlaw12_awake stock_Restock draymanref12_Restock stock_Adjust draymanref12_Adjust stock_New draymanref12_New) (q := draymanlaw12_StockPuts_q) (inl := draymanlaw12_StockPuts_inl) (N := 1000) (ann := draymanlaw12_StockPuts_ann) (fr := false) (D := 6) (l := (draymanlaw12_StockPuts_loops draymanlaw12_awake stock_Restock draymanref12_Restock stock_Adjust draymanref12_Adjust stock_New draymanref12_New)) (hk := (fun _ => none)) (okCons draymanlaw12_awake_ok (okCons stock_Restock_ok (okCons draymanref12_Restock_ok (okCons stock_Adjust_ok (okCons draymanref12_Adjust_ok (okCons stock_New_ok (okCons draymanref12_New_ok okNil))))))) lokNil noHooks (draymanlaw12_StockPuts_ev draymanlaw12_awake stock_Restock draymanref12_Restock stock_Adjust draymanref12_Adjust stock_New draymanref12_New)

end
end Go.Rv.Tryd

set_option linter.unusedVariables false
set_option maxRecDepth 100000
set_option maxHeartbeats 4000000
namespace Go.Rv.Tryd
open Go Go.Rv Go.RowKit
noncomputable section

-- drayman/draymanref12.Move

abbrev draymanref12_Move_T (α : Type) : Type := Z0 → Int → Int → (Z0 → Int → Option α) → Option α

noncomputable def draymanref12_Move_g {α : Type} (draymanref12_Fit : draymanref12_Fit_T α) (x1 : ByteArray × Int × Int × Int × Int × Int × Unit) (x2 : Int) (x3 : Int) (k : Z0 → Int → Option α) : Option α :=
  (draymanref12_Fit x1 fun r4 =>
    (cond (!r4)
      (k ((⟨#[]⟩ : ByteArray), 0, 0, 0, 0, 0, ()) 12)
      (cond (!(decide (x3 < 1)))
        (cond (decide (x3 > 1048576))
          (k ((⟨#[]⟩ : ByteArray), 0, 0, 0, 0, 0, ()) 11)
          (joinD
            (fun ds => (fun (x5 : Int) (x6 : Int) (x7 : Int) (x8 : ByteArray × Int × Int × Int × Int × Int × Unit) (x9 : ByteArray × Int × Int × Int × Int × Int × Unit) =>
              (cond (decide (x7 < x6))
                (k ((⟨#[]⟩ : ByteArray), 0, 0, 0, 0, 0, ()) 6)
                (cond (x5 == 1)
                  (k (x8.1, (IntKind.i64.wrap (x8.2.1 - x6)), (IntKind.i64.wrap (x8.2.2.1 + x6)), x8.2.2.2.1, x8.2.2.2.2.1, x8.2.2.2.2.2.1, ()) 0)
                  (cond (x5 == 2)
                    (k (x8.1, (IntKind.i64.wrap (x8.2.1 + x6)), (IntKind.i64.wrap (x8.2.2.1 - x6)), x8.2.2.2.1, x8.2.2.2.2.1, x8.2.2.2.2.2.1, ()) 0)
                    (cond (x5 == 3)
                      (k (x8.1, x8.2.1, (IntKind.i64.wrap (x8.2.2.1 - x6)), (IntKind.i64.wrap (x8.2.2.2.1 + x6)), x8.2.2.2.2.1, x8.2.2.2.2.2.1, ()) 0)
                      (cond (x5 == 4)
                        (k (x8.1, x8.2.1, (IntKind.i64.wrap (x8.2.2.1 + x6)), (IntKind.i64.wrap (x8.2.2.2.1 - x6)), x8.2.2.2.2.1, x8.2.2.2.2.2.1, ()) 0)
                        (k (x8.1, x8.2.1, x8.2.2.1, (IntKind.i64.wrap (x8.2.2.2.1 - x6)), (IntKind.i64.wrap (x8.2.2.2.2.1 + x6)), x8.2.2.2.2.2.1, ()) 0)))))))
              (hdI ds) (hdI ds.tail) (hdI ds.tail.tail) (hdS ds.tail.tail.tail, hdI ds.tail.tail.tail.tail, hdI ds.tail.tail.tail.tail.tail, hdI ds.tail.tail.tail.tail.tail.tail, hdI ds.tail.tail.tail.tail.tail.tail.tail, hdI ds.tail.tail.tail.tail.tail.tail.tail.tail, ()) (hdS ds.tail.tail.tail.tail.tail.tail.tail.tail.tail, hdI ds.tail.tail.tail.tail.tail.tail.tail.tail.tail.tail, hdI ds.tail.tail.tail.tail.tail.tail.tail.tail.tail.tail.tail, hdI ds.tail.tail.tail.tail.tail.tail.tail.tail.tail.tail.tail.tail, hdI ds.tail.tail.tail.tail.tail.tail.tail.tail.tail.tail.tail.tail.tail, hdI ds.tail.tail.tail.tail.tail.tail.tail.tail.tail.tail.tail.tail.tail.tail, ()))
            (fun j10 =>
              (cond (x2 == 1)
                (j10 [.i x2, .i x3, .i x1.2.1, .s x1.1, .i x1.2.1, .i x1.2.2.1, .i x1.2.2.2.1, .i x1.2.2.2.2.1, .i x1.2.2.2.2.2.1, .s (((⟨#[]⟩ : ByteArray), 0, 0, 0, 0, 0, ()).1), .i (((⟨#[]⟩ : ByteArray), 0, 0, 0, 0, 0, ()).2.1), .i (((⟨#[]⟩ : ByteArray), 0, 0, 0, 0, 0, ()).2.2.1), .i (((⟨#[]⟩ : ByteArray), 0, 0, 0, 0, 0, ()).2.2.2.1), .i (((⟨#[]⟩ : ByteArray), 0, 0, 0, 0, 0, ()).2.2.2.2.1), .i (((⟨#[]⟩ : ByteArray), 0, 0, 0, 0, 0, ()).2.2.2.2.2.1)])
                (cond (x2 == 2)
                  (cond (x2 == 2)
                    (j10 [.i x2, .i x3, .i x1.2.2.1, .s x1.1, .i x1.2.1, .i x1.2.2.1, .i x1.2.2.2.1, .i x1.2.2.2.2.1, .i x1.2.2.2.2.2.1, .s (((⟨#[]⟩ : ByteArray), 0, 0, 0, 0, 0, ()).1), .i (((⟨#[]⟩ : ByteArray), 0, 0, 0, 0, 0, ()).2.1), .i (((⟨#[]⟩ : ByteArray), 0, 0, 0, 0, 0, ()).2.2.1), .i (((⟨#[]⟩ : ByteArray), 0, 0, 0, 0, 0, ()).2.2.2.1), .i (((⟨#[]⟩ : ByteArray), 0, 0, 0, 0, 0, ()).2.2.2.2.1), .i (((⟨#[]⟩ : ByteArray), 0, 0, 0, 0, 0, ()).2.2.2.2.2.1)])
                    (j10 [.i x2, .i x3, .i x1.2.2.2.1, .s x1.1, .i x1.2.1, .i x1.2.2.1, .i x1.2.2.2.1, .i x1.2.2.2.2.1, .i x1.2.2.2.2.2.1, .s (((⟨#[]⟩ : ByteArray), 0, 0, 0, 0, 0, ()).1), .i (((⟨#[]⟩ : ByteArray), 0, 0, 0, 0, 0, ()).2.1), .i (((⟨#[]⟩ : ByteArray), 0, 0, 0, 0, 0, ()).2.2.1), .i (((⟨#[]⟩ : ByteArray), 0, 0, 0, 0, 0, ()).2.2.2.1), .i (((⟨#[]⟩ : ByteArray), 0, 0, 0, 0, 0, ()).2.2.2.2.1), .i (((⟨#[]⟩ : ByteArray), 0, 0, 0, 0, 0, ()).2.2.2.2.2.1)]))
                  (cond (x2 == 3)
                    (j10 [.i x2, .i x3, .i x1.2.2.1, .s x1.1, .i x1.2.1, .i x1.2.2.1, .i x1.2.2.2.1, .i x1.2.2.2.2.1, .i x1.2.2.2.2.2.1, .s (((⟨#[]⟩ : ByteArray), 0, 0, 0, 0, 0, ()).1), .i (((⟨#[]⟩ : ByteArray), 0, 0, 0, 0, 0, ()).2.1), .i (((⟨#[]⟩ : ByteArray), 0, 0, 0, 0, 0, ()).2.2.1), .i (((⟨#[]⟩ : ByteArray), 0, 0, 0, 0, 0, ()).2.2.2.1), .i (((⟨#[]⟩ : ByteArray), 0, 0, 0, 0, 0, ()).2.2.2.2.1), .i (((⟨#[]⟩ : ByteArray), 0, 0, 0, 0, 0, ()).2.2.2.2.2.1)])
                    (j10 [.i x2, .i x3, .i x1.2.2.2.1, .s x1.1, .i x1.2.1, .i x1.2.2.1, .i x1.2.2.2.1, .i x1.2.2.2.2.1, .i x1.2.2.2.2.2.1, .s (((⟨#[]⟩ : ByteArray), 0, 0, 0, 0, 0, ()).1), .i (((⟨#[]⟩ : ByteArray), 0, 0, 0, 0, 0, ()).2.1), .i (((⟨#[]⟩ : ByteArray), 0, 0, 0, 0, 0, ()).2.2.1), .i (((⟨#[]⟩ : ByteArray), 0, 0, 0, 0, 0, ()).2.2.2.1), .i (((⟨#[]⟩ : ByteArray), 0, 0, 0, 0, 0, ()).2.2.2.2.1), .i (((⟨#[]⟩ : ByteArray), 0, 0, 0, 0, 0, ()).2.2.2.2.2.1)])))))))
        (k ((⟨#[]⟩ : ByteArray), 0, 0, 0, 0, 0, ()) 11))))

noncomputable def draymanref12_Move {α : Type} : draymanref12_Move_T α := draymanref12_Move_g draymanref12_Fit

noncomputable def draymanref12_Move_sp {α : Type} (draymanref12_Move : draymanref12_Move_T α) : FunSpec α := ⟨19, [.agg [.str, .int .i64, .int .i64, .int .i64, .int .i64, .int .i64], .int .i64, .int .i64], [], fun ds k => draymanref12_Move (hdS ds, hdI ds.tail, hdI ds.tail.tail, hdI ds.tail.tail.tail, hdI ds.tail.tail.tail.tail, hdI ds.tail.tail.tail.tail.tail, ()) (hdI ds.tail.tail.tail.tail.tail.tail) (hdI ds.tail.tail.tail.tail.tail.tail.tail) (fun r1 r2 => k (enc dep (.tup [.agg [.str, .int .i64, .int .i64, .int .i64, .int .i64, .int .i64], .int .i64]) [.s r1.1, .i r1.2.1, .i r1.2.2.1, .i r1.2.2.2.1, .i r1.2.2.2.2.1, .i r1.2.2.2.2.2.1, .i r2]).1 [])⟩

noncomputable def draymanref12_Move_spec {α : Type} : FunSpec α := draymanref12_Move_sp draymanref12_Move

noncomputable def draymanref12_Move_C {α : Type} (draymanref12_Fit : draymanref12_Fit_T α) : List (FunSpec α) := [draymanref12_Fit_sp draymanref12_Fit]

noncomputable def draymanref12_Move_q : FuncId → Bool := fun f => Nat.beq f 21

noncomputable def draymanref12_Move_inl : FuncId → Bool := fun f => false

noncomputable def draymanref12_Move_ann : FuncId → AnnT := fun f p => if f = 19 then (if p = [true, true, true, true] then ⟨[1, 2, 3, 6, 8], [], [], [], 0, [], [], some ([.dead, .int .i64, .int .i64, .ref 0 0, .dead, .dead, .ref 1 0, .dead, .int .i64, .dead, .dead, .dead, .dead, .dead, .dead, .dead, .dead, .dead, .dead, .dead, .dead, .dead, .dead, .dead, .dead, .dead, .dead, .dead, .dead, .dead, .dead, .dead, .dead, .dead, .dead, .dead, .dead, .dead, .dead, .dead, .dead, .dead, .dead, .dead, .dead, .dead, .dead, .dead, .dead, .dead, .dead, .dead, .dead, .dead, .dead, .dead, .dead, .dead, .dead, .dead, .dead, .dead, .dead, .dead, .dead, .dead, .dead, .dead, .dead, .dead, .dead, .dead, .dead, .dead, .dead, .dead, .dead, .dead, .dead, .dead, .dead, .dead, .dead, .dead, .dead, .dead, .dead, .dead, .dead, .dead, .dead, .dead, .dead, .dead, .dead, .dead], [], [.box [.str, .int .i64, .int .i64, .int .i64, .int .i64, .int .i64], .box [.str, .int .i64, .int .i64, .int .i64, .int .i64, .int .i64]])⟩ else ⟨[], [], [], [], 0, [], [], none⟩) else ⟨[], [], [], [], 0, [], [], none⟩

noncomputable def draymanref12_Move_loops {α : Type} (draymanref12_Fit : draymanref12_Fit_T α) : List (LoopSpec α) := []

theorem draymanref12_Move_ev {α : Type} (draymanref12_Fit : draymanref12_Fit_T α) : EvOk (α := α) Go.Proofs.Tryd.prog (envOf (draymanref12_Move_C draymanref12_Fit) draymanref12_Move_q draymanref12_Move_inl 1000 draymanref12_Move_ann false (draymanref12_Move_loops draymanref12_Fit) (fun _ => none)) 6 (draymanref12_Move_sp (draymanref12_Move_g draymanref12_Fit)) := by intro ds k; kernel_rfl

theorem draymanref12_Move_ok {α : Type} : (draymanref12_Move_spec : FunSpec α).ok Go.Proofs.Tryd.prog :=
  FunSpec.ok_of (sp := draymanref12_Move_spec) (C := draymanref12_Move_C draymanref12_Fit) (q := draymanref12_Move_q) (inl := draymanref12_Move_inl) (N := 1000) (ann := draymanref12_Move_ann) (fr := false) (D := 6) (l := (draymanref12_Move_loops draymanref12_Fit)) (hk := (fun _ => none)) (okCons draymanref12_Fit_ok okNil) lokNil noHooks (draymanref12_Move_ev draymanref12_Fit)

end
end Go.Rv.Tryd

set_option linter.unusedVariables false
set_option maxRecDepth 100000
set_option maxHeartbeats 4000000
namespace Go.Rv.Tryd
open Go Go.Rv Go.RowKit
noncomputable section

-- drayman/stock.Release

abbrev stock_Release_T (α : Type) : Type := Z0 → Int → (Z0 → Int → Option α) → Option α

noncomputable def stock_Release_g {α : Type} (stock_Fit : stock_Fit_T α) (x1 : ByteArray × Int × Int × Int × Int × Int × Unit) (n2 : Int) (k : Z0 → Int → Option α) : Option α :=
  (stock_Fit x1 fun r3 =>
    (cond (!r3)
      (k ((⟨#[]⟩ : ByteArray), 0, 0, 0, 0, 0, ()) 12)
      (cond (!(decide (n2 < 1)))
        (cond (decide (n2 > 1048576))
          (k ((⟨#[]⟩ : ByteArray), 0, 0, 0, 0, 0, ()) 11)
          (cond (decide (x1.2.2.1 < n2))
            (k ((⟨#[]⟩ : ByteArray), 0, 0, 0, 0, 0, ()) 6)
            (k (x1.1, (IntKind.i64.wrap (x1.2.1 + n2)), (IntKind.i64.wrap (x1.2.2.1 - n2)), x1.2.2.2.1, x1.2.2.2.2.1, x1.2.2.2.2.2.1, ()) 0)))
        (k ((⟨#[]⟩ : ByteArray), 0, 0, 0, 0, 0, ()) 11))))

noncomputable def stock_Release {α : Type} : stock_Release_T α := stock_Release_g stock_Fit

noncomputable def stock_Release_sp {α : Type} (stock_Release : stock_Release_T α) : FunSpec α := ⟨54, [.agg [.str, .int .i64, .int .i64, .int .i64, .int .i64, .int .i64], .int .i64], [], fun ds k => stock_Release (hdS ds, hdI ds.tail, hdI ds.tail.tail, hdI ds.tail.tail.tail, hdI ds.tail.tail.tail.tail, hdI ds.tail.tail.tail.tail.tail, ()) (hdI ds.tail.tail.tail.tail.tail.tail) (fun r1 r2 => k (enc dep (.tup [.agg [.str, .int .i64, .int .i64, .int .i64, .int .i64, .int .i64], .int .i64]) [.s r1.1, .i r1.2.1, .i r1.2.2.1, .i r1.2.2.2.1, .i r1.2.2.2.2.1, .i r1.2.2.2.2.2.1, .i r2]).1 [])⟩

noncomputable def stock_Release_spec {α : Type} : FunSpec α := stock_Release_sp stock_Release

noncomputable def stock_Release_C {α : Type} (stock_Fit : stock_Fit_T α) : List (FunSpec α) := [stock_Fit_sp stock_Fit]

noncomputable def stock_Release_q : FuncId → Bool := fun f => Nat.beq f 20

noncomputable def stock_Release_inl : FuncId → Bool := fun f => Nat.beq f 88 || Nat.beq f 95

noncomputable def stock_Release_ann : FuncId → AnnT := fun f p => ⟨[], [], [], [], 0, [], [], none⟩

noncomputable def stock_Release_loops {α : Type} (stock_Fit : stock_Fit_T α) : List (LoopSpec α) := []

theorem stock_Release_ev {α : Type} (stock_Fit : stock_Fit_T α) : EvOk (α := α) Go.Proofs.Tryd.prog (envOf (stock_Release_C stock_Fit) stock_Release_q stock_Release_inl 1000 stock_Release_ann false (stock_Release_loops stock_Fit) (fun _ => none)) 6 (stock_Release_sp (stock_Release_g stock_Fit)) := by intro ds k; kernel_rfl

theorem stock_Release_ok {α : Type} : (stock_Release_spec : FunSpec α).ok Go.Proofs.Tryd.prog :=
  FunSpec.ok_of (sp := stock_Release_spec) (C := stock_Release_C stock_Fit) (q := stock_Release_q) (inl := stock_Release_inl) (N := 1000) (ann := stock_Release_ann) (fr := false) (D := 6) (l := (stock_Release_loops stock_Fit)) (hk := (fun _ => none)) (okCons stock_Fit_ok okNil) lokNil noHooks (stock_Release_ev stock_Fit)

end
end Go.Rv.Tryd

set_option linter.unusedVariables false
set_option maxRecDepth 100000
set_option maxHeartbeats 4000000
namespace Go.Rv.Tryd
open Go Go.Rv Go.RowKit
noncomputable section

-- drayman/stock.Keep

abbrev stock_Keep_T (α : Type) : Type := Z0 → Int → (Z0 → Int → Option α) → Option α

noncomputable def stock_Keep_g {α : Type} (stock_Fit : stock_Fit_T α) (x1 : ByteArray × Int × Int × Int × Int × Int × Unit) (n2 : Int) (k : Z0 → Int → Option α) : Option α :=
  (stock_Fit x1 fun r3 =>
    (cond (!r3)
      (k ((⟨#[]⟩ : ByteArray), 0, 0, 0, 0, 0, ()) 12)
      (cond (!(decide (n2 < 1)))
        (cond (decide (n2 > 1048576))
          (k ((⟨#[]⟩ : ByteArray), 0, 0, 0, 0, 0, ()) 11)
          (cond (decide (x1.2.2.1 < n2))
            (k ((⟨#[]⟩ : ByteArray), 0, 0, 0, 0, 0, ()) 6)
            (k (x1.1, x1.2.1, (IntKind.i64.wrap (x1.2.2.1 - n2)), (IntKind.i64.wrap (x1.2.2.2.1 + n2)), x1.2.2.2.2.1, x1.2.2.2.2.2.1, ()) 0)))
        (k ((⟨#[]⟩ : ByteArray), 0, 0, 0, 0, 0, ()) 11))))

noncomputable def stock_Keep {α : Type} : stock_Keep_T α := stock_Keep_g stock_Fit

noncomputable def stock_Keep_sp {α : Type} (stock_Keep : stock_Keep_T α) : FunSpec α := ⟨55, [.agg [.str, .int .i64, .int .i64, .int .i64, .int .i64, .int .i64], .int .i64], [], fun ds k => stock_Keep (hdS ds, hdI ds.tail, hdI ds.tail.tail, hdI ds.tail.tail.tail, hdI ds.tail.tail.tail.tail, hdI ds.tail.tail.tail.tail.tail, ()) (hdI ds.tail.tail.tail.tail.tail.tail) (fun r1 r2 => k (enc dep (.tup [.agg [.str, .int .i64, .int .i64, .int .i64, .int .i64, .int .i64], .int .i64]) [.s r1.1, .i r1.2.1, .i r1.2.2.1, .i r1.2.2.2.1, .i r1.2.2.2.2.1, .i r1.2.2.2.2.2.1, .i r2]).1 [])⟩

noncomputable def stock_Keep_spec {α : Type} : FunSpec α := stock_Keep_sp stock_Keep

noncomputable def stock_Keep_C {α : Type} (stock_Fit : stock_Fit_T α) : List (FunSpec α) := [stock_Fit_sp stock_Fit]

noncomputable def stock_Keep_q : FuncId → Bool := fun f => Nat.beq f 20

noncomputable def stock_Keep_inl : FuncId → Bool := fun f => Nat.beq f 88 || Nat.beq f 96

noncomputable def stock_Keep_ann : FuncId → AnnT := fun f p => ⟨[], [], [], [], 0, [], [], none⟩

noncomputable def stock_Keep_loops {α : Type} (stock_Fit : stock_Fit_T α) : List (LoopSpec α) := []

theorem stock_Keep_ev {α : Type} (stock_Fit : stock_Fit_T α) : EvOk (α := α) Go.Proofs.Tryd.prog (envOf (stock_Keep_C stock_Fit) stock_Keep_q stock_Keep_inl 1000 stock_Keep_ann false (stock_Keep_loops stock_Fit) (fun _ => none)) 6 (stock_Keep_sp (stock_Keep_g stock_Fit)) := by intro ds k; kernel_rfl

theorem stock_Keep_ok {α : Type} : (stock_Keep_spec : FunSpec α).ok Go.Proofs.Tryd.prog :=
  FunSpec.ok_of (sp := stock_Keep_spec) (C := stock_Keep_C stock_Fit) (q := stock_Keep_q) (inl := stock_Keep_inl) (N := 1000) (ann := stock_Keep_ann) (fr := false) (D := 6) (l := (stock_Keep_loops stock_Fit)) (hk := (fun _ => none)) (okCons stock_Fit_ok okNil) lokNil noHooks (stock_Keep_ev stock_Fit)

end
end Go.Rv.Tryd

set_option linter.unusedVariables false
set_option maxRecDepth 100000
set_option maxHeartbeats 4000000
namespace Go.Rv.Tryd
open Go Go.Rv Go.RowKit
noncomputable section

-- drayman/stock.Unkeep

abbrev stock_Unkeep_T (α : Type) : Type := Z0 → Int → (Z0 → Int → Option α) → Option α

noncomputable def stock_Unkeep_g {α : Type} (stock_Fit : stock_Fit_T α) (x1 : ByteArray × Int × Int × Int × Int × Int × Unit) (n2 : Int) (k : Z0 → Int → Option α) : Option α :=
  (stock_Fit x1 fun r3 =>
    (cond (!r3)
      (k ((⟨#[]⟩ : ByteArray), 0, 0, 0, 0, 0, ()) 12)
      (cond (!(decide (n2 < 1)))
        (cond (decide (n2 > 1048576))
          (k ((⟨#[]⟩ : ByteArray), 0, 0, 0, 0, 0, ()) 11)
          (cond (decide (x1.2.2.2.1 < n2))
            (k ((⟨#[]⟩ : ByteArray), 0, 0, 0, 0, 0, ()) 6)
            (k (x1.1, x1.2.1, (IntKind.i64.wrap (x1.2.2.1 + n2)), (IntKind.i64.wrap (x1.2.2.2.1 - n2)), x1.2.2.2.2.1, x1.2.2.2.2.2.1, ()) 0)))
        (k ((⟨#[]⟩ : ByteArray), 0, 0, 0, 0, 0, ()) 11))))

noncomputable def stock_Unkeep {α : Type} : stock_Unkeep_T α := stock_Unkeep_g stock_Fit

noncomputable def stock_Unkeep_sp {α : Type} (stock_Unkeep : stock_Unkeep_T α) : FunSpec α := ⟨56, [.agg [.str, .int .i64, .int .i64, .int .i64, .int .i64, .int .i64], .int .i64], [], fun ds k => stock_Unkeep (hdS ds, hdI ds.tail, hdI ds.tail.tail, hdI ds.tail.tail.tail, hdI ds.tail.tail.tail.tail, hdI ds.tail.tail.tail.tail.tail, ()) (hdI ds.tail.tail.tail.tail.tail.tail) (fun r1 r2 => k (enc dep (.tup [.agg [.str, .int .i64, .int .i64, .int .i64, .int .i64, .int .i64], .int .i64]) [.s r1.1, .i r1.2.1, .i r1.2.2.1, .i r1.2.2.2.1, .i r1.2.2.2.2.1, .i r1.2.2.2.2.2.1, .i r2]).1 [])⟩

noncomputable def stock_Unkeep_spec {α : Type} : FunSpec α := stock_Unkeep_sp stock_Unkeep

noncomputable def stock_Unkeep_C {α : Type} (stock_Fit : stock_Fit_T α) : List (FunSpec α) := [stock_Fit_sp stock_Fit]

noncomputable def stock_Unkeep_q : FuncId → Bool := fun f => Nat.beq f 20

noncomputable def stock_Unkeep_inl : FuncId → Bool := fun f => Nat.beq f 88 || Nat.beq f 97

noncomputable def stock_Unkeep_ann : FuncId → AnnT := fun f p => ⟨[], [], [], [], 0, [], [], none⟩

noncomputable def stock_Unkeep_loops {α : Type} (stock_Fit : stock_Fit_T α) : List (LoopSpec α) := []

theorem stock_Unkeep_ev {α : Type} (stock_Fit : stock_Fit_T α) : EvOk (α := α) Go.Proofs.Tryd.prog (envOf (stock_Unkeep_C stock_Fit) stock_Unkeep_q stock_Unkeep_inl 1000 stock_Unkeep_ann false (stock_Unkeep_loops stock_Fit) (fun _ => none)) 6 (stock_Unkeep_sp (stock_Unkeep_g stock_Fit)) := by intro ds k; kernel_rfl

theorem stock_Unkeep_ok {α : Type} : (stock_Unkeep_spec : FunSpec α).ok Go.Proofs.Tryd.prog :=
  FunSpec.ok_of (sp := stock_Unkeep_spec) (C := stock_Unkeep_C stock_Fit) (q := stock_Unkeep_q) (inl := stock_Unkeep_inl) (N := 1000) (ann := stock_Unkeep_ann) (fr := false) (D := 6) (l := (stock_Unkeep_loops stock_Fit)) (hk := (fun _ => none)) (okCons stock_Fit_ok okNil) lokNil noHooks (stock_Unkeep_ev stock_Fit)

end
end Go.Rv.Tryd
