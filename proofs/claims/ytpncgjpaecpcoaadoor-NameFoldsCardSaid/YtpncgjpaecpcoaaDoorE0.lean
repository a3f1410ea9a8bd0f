/- What the functions of the program compute, each with the proof that its code computes it. Written by a program (rvp2.py). -/
import Derived.Test.YtpncgjpaecpcoaaDoorProg
import Derived.Test.YtpncgjpaecpcoaaDoorRvP
import Derived.Test.YtpncgjpaecpcoaaDoorFx
import Derived.Test.YtpncgjpaecpcoaaDoorUtf8
import Derived.Test.YtpncgjpaecpcoaaDoorHooks

set_option linter.unusedVariables false
set_option maxRecDepth 100000
set_option maxHeartbeats 4000000
namespace Go.Rv.Tryd
open Go Go.Rv Go.RowKit
noncomputable section

-- drayman/name.Count

abbrev name_Count_T (α : Type) : Type := ByteArray → (Int → Option α) → Option α

noncomputable def name_Count_g {α : Type} (unicode_utf8_ValidString : unicode_utf8_ValidString_T α) (unicode_utf8_RuneCountInString : unicode_utf8_RuneCountInString_T α) (s1 : ByteArray) (k : Int → Option α) : Option α :=
  (unicode_utf8_ValidString s1 fun r2 =>
    (cond (!r2)
      (k (-1))
      (unicode_utf8_RuneCountInString s1 fun r3 =>
        (k r3))))

noncomputable def name_Count {α : Type} : name_Count_T α := name_Count_g unicode_utf8_ValidString unicode_utf8_RuneCountInString

noncomputable def name_Count_sp {α : Type} (name_Count : name_Count_T α) : FunSpec α := ⟨11, [.str], [], fun ds k => name_Count (hdS ds) (fun r1 => k (enc dep (.int .i64) [.i r1]).1 [])⟩

noncomputable def name_Count_spec {α : Type} : FunSpec α := name_Count_sp name_Count

noncomputable def name_Count_C {α : Type} (unicode_utf8_ValidString : unicode_utf8_ValidString_T α) (unicode_utf8_RuneCountInString : unicode_utf8_RuneCountInString_T α) : List (FunSpec α) := [unicode_utf8_ValidString_sp unicode_utf8_ValidString, unicode_utf8_RuneCountInString_sp unicode_utf8_RuneCountInString]

noncomputable def name_Count_q : FuncId → Bool := fun f => Nat.beq f 21 || Nat.beq f 22

noncomputable def name_Count_inl : FuncId → Bool := fun f => false

noncomputable def name_Count_ann : FuncId → AnnT := fun f p => ⟨[], [], [], [], 0, [], []⟩

noncomputable def name_Count_loops {α : Type} (unicode_utf8_ValidString : unicode_utf8_ValidString_T α) (unicode_utf8_RuneCountInString : unicode_utf8_RuneCountInString_T α) : List (LoopSpec α) := []

theorem name_Count_ev {α : Type} (unicode_utf8_ValidString : unicode_utf8_ValidString_T α) (unicode_utf8_RuneCountInString : unicode_utf8_RuneCountInString_T α) : EvOk (α := α) Go.Proofs.Tryd.prog (envOf (name_Count_C unicode_utf8_ValidString unicode_utf8_RuneCountInString) name_Count_q name_Count_inl 1000 name_Count_ann false (name_Count_loops unicode_utf8_ValidString unicode_utf8_RuneCountInString) (fun _ => none)) 6 (name_Count_sp (name_Count_g unicode_utf8_ValidString unicode_utf8_RuneCountInString)) := by intro ds k; kernel_rfl

theorem name_Count_ok {α : Type} : (name_Count_spec : FunSpec α).ok Go.Proofs.Tryd.prog :=
  FunSpec.ok_of (sp := name_Count_spec) (C := name_Count_C unicode_utf8_ValidString unicode_utf8_RuneCountInString) (q := name_Count_q) (inl := name_Count_inl) (N := 1000) (ann := name_Count_ann) (fr := false) (D := 6) (l := (name_Count_loops unicode_utf8_ValidString unicode_utf8_RuneCountInString)) (hk := (fun _ => none)) (okCons unicode_utf8_ValidString_ok (okCons unicode_utf8_RuneCountInString_ok okNil)) lokNil noHooks (name_Count_ev unicode_utf8_ValidString unicode_utf8_RuneCountInString)

end
end Go.Rv.Tryd

set_option linter.unusedVariables false
set_option maxRecDepth 100000
set_option maxHeartbeats 4000000
namespace Go.Rv.Tryd
open Go Go.Rv Go.RowKit
noncomputable section

-- drayman/name.small

abbrev name_small_T (α : Type) : Type := Int → (Int → Option α) → Option α

noncomputable def name_small {α : Type} (r1 : Int) (k : Int → Option α) : Option α :=
  (cond (decide ((65 : Int) ≤ r1))
    (cond (decide (r1 ≤ 90))
      (cond (decide (r1 ≤ 90))
        (k (IntKind.i32.wrap (r1 + 32)))
        (k r1))
      (cond (decide ((192 : Int) ≤ r1))
        (cond (decide (r1 ≤ 222))
          (cond (r1 != 215)
            (k (IntKind.i32.wrap (r1 + 32)))
            (k r1))
          (k r1))
        (k r1)))
    (cond (decide ((192 : Int) ≤ r1))
      (cond (decide (r1 ≤ 222))
        (cond (r1 != 215)
          (k (IntKind.i32.wrap (r1 + 32)))
          (k r1))
        (k r1))
      (k r1)))

noncomputable def name_small_sp {α : Type} (name_small : name_small_T α) : FunSpec α := ⟨24, [.int .i32], [], fun ds k => name_small (hdI ds) (fun r1 => k (enc dep (.int .i32) [.i r1]).1 [])⟩

noncomputable def name_small_spec {α : Type} : FunSpec α := name_small_sp name_small

noncomputable def name_small_C {α : Type} : List (FunSpec α) := []

noncomputable def name_small_q : FuncId → Bool := fun f => false

noncomputable def name_small_inl : FuncId → Bool := fun f => false

noncomputable def name_small_ann : FuncId → AnnT := fun f p => ⟨[], [], [], [], 0, [], []⟩

noncomputable def name_small_loops {α : Type} : List (LoopSpec α) := []

theorem name_small_ev {α : Type} : EvOk (α := α) Go.Proofs.Tryd.prog (envOf (name_small_C) name_small_q name_small_inl 1000 name_small_ann false (name_small_loops) (fun _ => none)) 6 (name_small_sp (name_small)) := by intro ds k; kernel_rfl

theorem name_small_ok {α : Type} : (name_small_spec : FunSpec α).ok Go.Proofs.Tryd.prog :=
  FunSpec.ok_of (sp := name_small_spec) (C := name_small_C) (q := name_small_q) (inl := name_small_inl) (N := 1000) (ann := name_small_ann) (fr := false) (D := 6) (l := (name_small_loops)) (hk := (fun _ => none)) okNil lokNil noHooks (name_small_ev)

end
end Go.Rv.Tryd

set_option linter.unusedVariables false
set_option maxRecDepth 100000
set_option maxHeartbeats 4000000
namespace Go.Rv.Tryd
open Go Go.Rv Go.RowKit
noncomputable section

-- drayman/name.Rune

abbrev name_Rune_T (α : Type) : Type := Int → (Bool → Option α) → Option α

noncomputable def name_Rune {α : Type} (r1 : Int) (k : Bool → Option α) : Option α :=
  (cond (decide ((97 : Int) ≤ r1))
    (cond (decide (r1 ≤ 122))
      (cond (decide (r1 ≤ 122))
        (k true)
        (cond (decide ((223 : Int) ≤ r1))
          (cond (decide (r1 ≤ 255))
            (k (r1 != 247))
            (k false))
          (k false)))
      (cond (decide ((48 : Int) ≤ r1))
        (cond (decide (r1 ≤ 57))
          (cond (decide (r1 ≤ 57))
            (k true)
            (cond (decide ((223 : Int) ≤ r1))
              (cond (decide (r1 ≤ 255))
                (k (r1 != 247))
                (k false))
              (k false)))
          (cond (r1 == 45)
            (k true)
            (cond (decide ((223 : Int) ≤ r1))
              (cond (decide (r1 ≤ 255))
                (k (r1 != 247))
                (k false))
              (k false))))
        (cond (r1 == 45)
          (k true)
          (cond (decide ((223 : Int) ≤ r1))
            (cond (decide (r1 ≤ 255))
              (k (r1 != 247))
              (k false))
            (k false)))))
    (cond (decide ((48 : Int) ≤ r1))
      (cond (decide (r1 ≤ 57))
        (cond (decide (r1 ≤ 57))
          (k true)
          (cond (decide ((223 : Int) ≤ r1))
            (cond (decide (r1 ≤ 255))
              (k (r1 != 247))
              (k false))
            (k false)))
        (cond (r1 == 45)
          (k true)
          (cond (decide ((223 : Int) ≤ r1))
            (cond (decide (r1 ≤ 255))
              (k (r1 != 247))
              (k false))
            (k false))))
      (cond (r1 == 45)
        (k true)
        (cond (decide ((223 : Int) ≤ r1))
          (cond (decide (r1 ≤ 255))
            (k (r1 != 247))
            (k false))
          (k false)))))

noncomputable def name_Rune_sp {α : Type} (name_Rune : name_Rune_T α) : FunSpec α := ⟨9, [.int .i32], [], fun ds k => name_Rune (hdI ds) (fun r1 => k (enc dep (.bool) [.b r1]).1 [])⟩

noncomputable def name_Rune_spec {α : Type} : FunSpec α := name_Rune_sp name_Rune

noncomputable def name_Rune_C {α : Type} : List (FunSpec α) := []

noncomputable def name_Rune_q : FuncId → Bool := fun f => false

noncomputable def name_Rune_inl : FuncId → Bool := fun f => false

noncomputable def name_Rune_ann : FuncId → AnnT := fun f p => ⟨[], [], [], [], 0, [], []⟩

noncomputable def name_Rune_loops {α : Type} : List (LoopSpec α) := []

theorem name_Rune_ev {α : Type} : EvOk (α := α) Go.Proofs.Tryd.prog (envOf (name_Rune_C) name_Rune_q name_Rune_inl 1000 name_Rune_ann false (name_Rune_loops) (fun _ => none)) 6 (name_Rune_sp (name_Rune)) := by intro ds k; kernel_rfl

theorem name_Rune_ok {α : Type} : (name_Rune_spec : FunSpec α).ok Go.Proofs.Tryd.prog :=
  FunSpec.ok_of (sp := name_Rune_spec) (C := name_Rune_C) (q := name_Rune_q) (inl := name_Rune_inl) (N := 1000) (ann := name_Rune_ann) (fr := false) (D := 6) (l := (name_Rune_loops)) (hk := (fun _ => none)) okNil lokNil noHooks (name_Rune_ev)

end
end Go.Rv.Tryd

set_option linter.unusedVariables false
set_option maxRecDepth 100000
set_option maxHeartbeats 4000000
namespace Go.Rv.Tryd
open Go Go.Rv Go.RowKit
noncomputable section

-- drayman/name.Fit

abbrev name_Fit_T (α : Type) : Type := ByteArray → (Bool → Option α) → Option α

noncomputable def name_Fit_l0_step {α : Type} (name_Count : name_Count_T α) (name_Rune : name_Rune_T α) (kr : (Bool) → (ByteArray) → (Int) → Option α) (k0 : (ByteArray) → (Int) → Option α) (rec : (ByteArray) → (Int) → Option α) (s3 : ByteArray) (p4 : Int) : Option α :=
  (cond (Nat.blt p4.toNat s3.size)
    (name_Rune (((Utf8.decode s3 p4.toNat).1 : Nat) : Int) fun r5 =>
      (cond (!(!r5))
        (cond ((p4.toNat : Int) == 0)
          (cond ((((Utf8.decode s3 p4.toNat).1 : Nat) : Int) == 45)
            (kr false s3 (((p4.toNat + (Utf8.decode s3 p4.toNat).2) : Nat) : Int))
            (rec s3 (((p4.toNat + (Utf8.decode s3 p4.toNat).2) : Nat) : Int)))
          (rec s3 (((p4.toNat + (Utf8.decode s3 p4.toNat).2) : Nat) : Int)))
        (kr false s3 (((p4.toNat + (Utf8.decode s3 p4.toNat).2) : Nat) : Int))))
    (k0 s3 (p4.toNat : Int)))

noncomputable def name_Fit_l0_run {α : Type} (name_Count : name_Count_T α) (name_Rune : name_Rune_T α) (kr : (Bool) → (ByteArray) → (Int) → Option α) (k0 : (ByteArray) → (Int) → Option α) : Nat → (ByteArray) → (Int) → Option α
  | 0, _, _ => none
  | n + 1, s3, p4 => name_Fit_l0_step name_Count name_Rune kr k0 (fun s3 p4 => name_Fit_l0_run name_Count name_Rune kr k0 n s3 p4) s3 p4

noncomputable def name_Fit_g {α : Type} (name_Count : name_Count_T α) (name_Rune : name_Rune_T α) (s1 : ByteArray) (k : Bool → Option α) : Option α :=
  (name_Count s1 fun r2 =>
    (cond (!(decide (r2 < 1)))
      (cond (decide (r2 > 12))
        (k false)
        (name_Fit_l0_run name_Count name_Rune
          (fun x6 s7 p8 =>
            (k x6))
          (fun s9 p10 =>
            (k true))
          1000 s1 0))
      (k false)))

noncomputable def name_Fit {α : Type} : name_Fit_T α := name_Fit_g name_Count name_Rune

noncomputable def name_Fit_sp {α : Type} (name_Fit : name_Fit_T α) : FunSpec α := ⟨13, [.str], [], fun ds k => name_Fit (hdS ds) (fun r1 => k (enc dep (.bool) [.b r1]).1 [])⟩

noncomputable def name_Fit_spec {α : Type} : FunSpec α := name_Fit_sp name_Fit

noncomputable def name_Fit_C {α : Type} (name_Count : name_Count_T α) (name_Rune : name_Rune_T α) : List (FunSpec α) := [name_Count_sp name_Count, name_Rune_sp name_Rune]

noncomputable def name_Fit_q : FuncId → Bool := fun f => Nat.beq f 9 || Nat.beq f 11

noncomputable def name_Fit_inl : FuncId → Bool := fun f => false

noncomputable def name_Fit_ann : FuncId → AnnT := fun f p => if f = 13 then (if p = [true, false, true, true, true] then ⟨[15], [], [], [2], 0, [], []⟩ else ⟨[], [], [], [], 0, [], []⟩) else ⟨[], [], [], [], 0, [], []⟩

noncomputable def name_Fit_l0_t : List Sh := [.dead, .dead, .dead, .dead, .dead, .dead, .dead, .dead, .dead, .dead, .dead, .dead, .dead, .dead, .dead, .ref 0 0, .dead, .dead, .dead, .dead, .dead, .dead, .dead, .dead, .dead, .dead, .dead, .dead, .dead, .dead, .dead]
noncomputable def name_Fit_l0_s : List (List Sh) := []
noncomputable def name_Fit_l0_h : List BSh := [.it]

noncomputable def name_Fit_l0_spec {α : Type} (name_Count : name_Count_T α) (name_Rune : name_Rune_T α) : LoopSpec α := ⟨6, 13, [true, false, true, true, true], name_Fit_l0_t, name_Fit_l0_s, name_Fit_l0_h, fun ds k => name_Fit_l0_run name_Count name_Rune (fun y1 y2 y3 => k .ret (encSt [.dead, .dead, .bool, .dead, .dead, .dead, .dead, .dead, .dead, .dead, .dead, .dead, .dead, .dead, .dead, .dead, .dead, .dead, .dead, .dead, .dead, .dead, .dead, .dead, .dead, .dead, .dead, .dead, .dead, .dead, .dead] [] [.it] [.b y1, .s y2, .i y3])) (fun y1 y2 => k (.exit 0) (encSt [.dead, .dead, .dead, .dead, .dead, .dead, .dead, .dead, .dead, .dead, .dead, .dead, .dead, .dead, .dead, .dead, .dead, .dead, .dead, .dead, .dead, .dead, .dead, .dead, .dead, .dead, .dead, .dead, .dead, .dead, .dead] [] [.it] [.s y1, .i y2])) 1000 (hdS ds) (hdI ds.tail)⟩

noncomputable def name_Fit_loops {α : Type} (name_Count : name_Count_T α) (name_Rune : name_Rune_T α) : List (LoopSpec α) := [name_Fit_l0_spec name_Count name_Rune]

noncomputable def name_Fit_l0_ev {α : Type} (name_Count : name_Count_T α) (name_Rune : name_Rune_T α) (n : Nat) (st : St) (k : X → St → Option α) : Option α := loopN (evCode Go.Proofs.Tryd.prog (callD Go.Proofs.Tryd.prog (envOf (name_Fit_C name_Count name_Rune) name_Fit_q name_Fit_inl 1000 name_Fit_ann false (name_Fit_loops name_Count name_Rune) (fun _ => none)) 6) (((envOf (name_Fit_C name_Count name_Rune) name_Fit_q name_Fit_inl 1000 name_Fit_ann false (name_Fit_loops name_Count name_Rune) (fun _ => none)) : Env α).L 6 13) 1000 (name_Fit_ann 13) (false :: [true, false, true, true, true]) (loopC Go.Proofs.Tryd.prog 13 [true, false, true, true, true])) ((name_Fit_ann 13 [true, false, true, true, true]).head 1) ((name_Fit_ann 13 [true, false, true, true, true]).leave 1) n st k

theorem name_Fit_l0_eq {α : Type} (name_Count : name_Count_T α) (name_Rune : name_Rune_T α) : ∀ (n : Nat) (s3 : ByteArray) (p4 : Int) (k : X → St → Option α), name_Fit_l0_ev name_Count name_Rune n (encSt name_Fit_l0_t name_Fit_l0_s name_Fit_l0_h [.s s3, .i p4]) k = name_Fit_l0_run name_Count name_Rune (fun y1 y2 y3 => k .ret (encSt [.dead, .dead, .bool, .dead, .dead, .dead, .dead, .dead, .dead, .dead, .dead, .dead, .dead, .dead, .dead, .dead, .dead, .dead, .dead, .dead, .dead, .dead, .dead, .dead, .dead, .dead, .dead, .dead, .dead, .dead, .dead] [] [.it] [.b y1, .s y2, .i y3])) (fun y1 y2 => k (.exit 0) (encSt [.dead, .dead, .dead, .dead, .dead, .dead, .dead, .dead, .dead, .dead, .dead, .dead, .dead, .dead, .dead, .dead, .dead, .dead, .dead, .dead, .dead, .dead, .dead, .dead, .dead, .dead, .dead, .dead, .dead, .dead, .dead] [] [.it] [.s y1, .i y2])) n s3 p4 := by
  intro n
  induction n with
  | zero => intros; kernel_rfl
  | succ n ih =>
    intro s3 p4 k
    have e : (fun (s3 : ByteArray) (p4 : Int) => name_Fit_l0_ev name_Count name_Rune n (encSt name_Fit_l0_t name_Fit_l0_s name_Fit_l0_h [.s s3, .i p4]) k) = (fun (s3 : ByteArray) (p4 : Int) => name_Fit_l0_run name_Count name_Rune (fun y1 y2 y3 => k .ret (encSt [.dead, .dead, .bool, .dead, .dead, .dead, .dead, .dead, .dead, .dead, .dead, .dead, .dead, .dead, .dead, .dead, .dead, .dead, .dead, .dead, .dead, .dead, .dead, .dead, .dead, .dead, .dead, .dead, .dead, .dead, .dead] [] [.it] [.b y1, .s y2, .i y3])) (fun y1 y2 => k (.exit 0) (encSt [.dead, .dead, .dead, .dead, .dead, .dead, .dead, .dead, .dead, .dead, .dead, .dead, .dead, .dead, .dead, .dead, .dead, .dead, .dead, .dead, .dead, .dead, .dead, .dead, .dead, .dead, .dead, .dead, .dead, .dead, .dead] [] [.it] [.s y1, .i y2])) n s3 p4) := by
      funext s3 p4
      exact ih s3 p4 k
    have h1 : name_Fit_l0_ev name_Count name_Rune (n + 1) (encSt name_Fit_l0_t name_Fit_l0_s name_Fit_l0_h [.s s3, .i p4]) k = name_Fit_l0_step name_Count name_Rune (fun y1 y2 y3 => k .ret (encSt [.dead, .dead, .bool, .dead, .dead, .dead, .dead, .dead, .dead, .dead, .dead, .dead, .dead, .dead, .dead, .dead, .dead, .dead, .dead, .dead, .dead, .dead, .dead, .dead, .dead, .dead, .dead, .dead, .dead, .dead, .dead] [] [.it] [.b y1, .s y2, .i y3])) (fun y1 y2 => k (.exit 0) (encSt [.dead, .dead, .dead, .dead, .dead, .dead, .dead, .dead, .dead, .dead, .dead, .dead, .dead, .dead, .dead, .dead, .dead, .dead, .dead, .dead, .dead, .dead, .dead, .dead, .dead, .dead, .dead, .dead, .dead, .dead, .dead] [] [.it] [.s y1, .i y2])) (fun (s3 : ByteArray) (p4 : Int) => name_Fit_l0_ev name_Count name_Rune n (encSt name_Fit_l0_t name_Fit_l0_s name_Fit_l0_h [.s s3, .i p4]) k) s3 p4 := by kernel_rfl
    have h2 := congrArg (fun r => name_Fit_l0_step name_Count name_Rune (fun y1 y2 y3 => k .ret (encSt [.dead, .dead, .bool, .dead, .dead, .dead, .dead, .dead, .dead, .dead, .dead, .dead, .dead, .dead, .dead, .dead, .dead, .dead, .dead, .dead, .dead, .dead, .dead, .dead, .dead, .dead, .dead, .dead, .dead, .dead, .dead] [] [.it] [.b y1, .s y2, .i y3])) (fun y1 y2 => k (.exit 0) (encSt [.dead, .dead, .dead, .dead, .dead, .dead, .dead, .dead, .dead, .dead, .dead, .dead, .dead, .dead, .dead, .dead, .dead, .dead, .dead, .dead, .dead, .dead, .dead, .dead, .dead, .dead, .dead, .dead, .dead, .dead, .dead] [] [.it] [.s y1, .i y2])) r s3 p4) e
    have h3 : name_Fit_l0_step name_Count name_Rune (fun y1 y2 y3 => k .ret (encSt [.dead, .dead, .bool, .dead, .dead, .dead, .dead, .dead, .dead, .dead, .dead, .dead, .dead, .dead, .dead, .dead, .dead, .dead, .dead, .dead, .dead, .dead, .dead, .dead, .dead, .dead, .dead, .dead, .dead, .dead, .dead] [] [.it] [.b y1, .s y2, .i y3])) (fun y1 y2 => k (.exit 0) (encSt [.dead, .dead, .dead, .dead, .dead, .dead, .dead, .dead, .dead, .dead, .dead, .dead, .dead, .dead, .dead, .dead, .dead, .dead, .dead, .dead, .dead, .dead, .dead, .dead, .dead, .dead, .dead, .dead, .dead, .dead, .dead] [] [.it] [.s y1, .i y2])) (fun (s3 : ByteArray) (p4 : Int) => name_Fit_l0_run name_Count name_Rune (fun y1 y2 y3 => k .ret (encSt [.dead, .dead, .bool, .dead, .dead, .dead, .dead, .dead, .dead, .dead, .dead, .dead, .dead, .dead, .dead, .dead, .dead, .dead, .dead, .dead, .dead, .dead, .dead, .dead, .dead, .dead, .dead, .dead, .dead, .dead, .dead] [] [.it] [.b y1, .s y2, .i y3])) (fun y1 y2 => k (.exit 0) (encSt [.dead, .dead, .dead, .dead, .dead, .dead, .dead, .dead, .dead, .dead, .dead, .dead, .dead, .dead, .dead, .dead, .dead, .dead, .dead, .dead, .dead, .dead, .dead, .dead, .dead, .dead, .dead, .dead, .dead, .dead, .dead] [] [.it] [.s y1, .i y2])) n s3 p4) s3 p4 = name_Fit_l0_run name_Count name_Rune (fun y1 y2 y3 => k .ret (encSt [.dead, .dead, .bool, .dead, .dead, .dead, .dead, .dead, .dead, .dead, .dead, .dead, .dead, .dead, .dead, .dead, .dead, .dead, .dead, .dead, .dead, .dead, .dead, .dead, .dead, .dead, .dead, .dead, .dead, .dead, .dead] [] [.it] [.b y1, .s y2, .i y3])) (fun y1 y2 => k (.exit 0) (encSt [.dead, .dead, .dead, .dead, .dead, .dead, .dead, .dead, .dead, .dead, .dead, .dead, .dead, .dead, .dead, .dead, .dead, .dead, .dead, .dead, .dead, .dead, .dead, .dead, .dead, .dead, .dead, .dead, .dead, .dead, .dead] [] [.it] [.s y1, .i y2])) (n + 1) s3 p4 := by kernel_rfl
    exact h1.trans (h2.trans h3)

theorem name_Fit_l0_ok {α : Type} (name_Count : name_Count_T α) (name_Rune : name_Rune_T α) : (name_Fit_l0_spec name_Count name_Rune : LoopSpec α).ok Go.Proofs.Tryd.prog (envOf (name_Fit_C name_Count name_Rune) name_Fit_q name_Fit_inl 1000 name_Fit_ann false (name_Fit_loops name_Count name_Rune) (fun _ => none)) := by
  intro ds k
  have h1 : name_Fit_l0_ev name_Count name_Rune 1000 (encSt name_Fit_l0_t name_Fit_l0_s name_Fit_l0_h ds) k = name_Fit_l0_ev name_Count name_Rune 1000 (encSt name_Fit_l0_t name_Fit_l0_s name_Fit_l0_h [.s (hdS ds), .i (hdI ds.tail)]) k := by kernel_rfl
  have h2 := name_Fit_l0_eq name_Count name_Rune 1000 (hdS ds) (hdI ds.tail) k
  exact h1.trans h2

theorem name_Fit_ev {α : Type} (name_Count : name_Count_T α) (name_Rune : name_Rune_T α) : EvOk (α := α) Go.Proofs.Tryd.prog (envOf (name_Fit_C name_Count name_Rune) name_Fit_q name_Fit_inl 1000 name_Fit_ann false (name_Fit_loops name_Count name_Rune) (fun _ => none)) 6 (name_Fit_sp (name_Fit_g name_Count name_Rune)) := by intro ds k; kernel_rfl

theorem name_Fit_ok {α : Type} : (name_Fit_spec : FunSpec α).ok Go.Proofs.Tryd.prog :=
  FunSpec.ok_of (sp := name_Fit_spec) (C := name_Fit_C name_Count name_Rune) (q := name_Fit_q) (inl := name_Fit_inl) (N := 1000) (ann := name_Fit_ann) (fr := false) (D := 6) (l := (name_Fit_loops name_Count name_Rune)) (hk := (fun _ => none)) (okCons name_Count_ok (okCons name_Rune_ok okNil)) (lokCons (name_Fit_l0_ok name_Count name_Rune) lokNil) noHooks (name_Fit_ev name_Count name_Rune)

end
end Go.Rv.Tryd

set_option linter.unusedVariables false
set_option maxRecDepth 100000
set_option maxHeartbeats 4000000
namespace Go.Rv.Tryd
open Go Go.Rv Go.RowKit
noncomputable section

-- drayman/name.Fold

abbrev name_Fold_T (α : Type) : Type := ByteArray → (ByteArray → Int → Option α) → Option α

noncomputable def name_Fold_l0_step {α : Type} (name_Count : name_Count_T α) (name_small : name_small_T α) (name_Fit : name_Fit_T α) (k0 : (ByteArray) → (ByteArray) → (Int) → Option α) (rec : (ByteArray) → (ByteArray) → (Int) → Option α) (b3 : ByteArray) (s4 : ByteArray) (p5 : Int) : Option α :=
  (cond (Nat.blt p5.toNat s4.size)
    (name_small (((Utf8.decode s4 p5.toNat).1 : Nat) : Int) fun r6 =>
      (cond (decide ((IntKind.u32.wrap r6) ≤ 127))
        (cond ((bytesOk 1 (fun _ => ((IntKind.u8.wrap r6), ()))) && (decide ((b3.size + 1) * 1 ≤ 140737488355328)))
          (rec (b3 ++ (bytesT 1 (fun _ => ((IntKind.u8.wrap r6), ())))) s4 (((p5.toNat + (Utf8.decode s4 p5.toNat).2) : Nat) : Int))
          none)
        (cond (decide ((IntKind.u32.wrap r6) ≤ 2047))
          (cond ((bytesOk 2 (tSel [((iOr .u8 192 (IntKind.u8.wrap (Int.fdiv r6 (2 ^ (min 6 IntKind.i32.bits))))), ()), ((iOr .u8 128 (iAnd .u8 (IntKind.u8.wrap r6) 63)), ())] (0, ()))) && (decide ((b3.size + 2) * 1 ≤ 140737488355328)))
            (rec (b3 ++ (bytesT 2 (tSel [((iOr .u8 192 (IntKind.u8.wrap (Int.fdiv r6 (2 ^ (min 6 IntKind.i32.bits))))), ()), ((iOr .u8 128 (iAnd .u8 (IntKind.u8.wrap r6) 63)), ())] (0, ())))) s4 (((p5.toNat + (Utf8.decode s4 p5.toNat).2) : Nat) : Int))
            none)
          (cond (decide ((IntKind.u32.wrap r6) < 55296))
            (cond (decide ((IntKind.u32.wrap r6) < 55296))
              (cond ((bytesOk 3 (tSel [((iOr .u8 224 (IntKind.u8.wrap (Int.fdiv r6 (2 ^ (min 12 IntKind.i32.bits))))), ()), ((iOr .u8 128 (iAnd .u8 (IntKind.u8.wrap (Int.fdiv r6 (2 ^ (min 6 IntKind.i32.bits)))) 63)), ()), ((iOr .u8 128 (iAnd .u8 (IntKind.u8.wrap r6) 63)), ())] (0, ()))) && (decide ((b3.size + 3) * 1 ≤ 140737488355328)))
                (rec (b3 ++ (bytesT 3 (tSel [((iOr .u8 224 (IntKind.u8.wrap (Int.fdiv r6 (2 ^ (min 12 IntKind.i32.bits))))), ()), ((iOr .u8 128 (iAnd .u8 (IntKind.u8.wrap (Int.fdiv r6 (2 ^ (min 6 IntKind.i32.bits)))) 63)), ()), ((iOr .u8 128 (iAnd .u8 (IntKind.u8.wrap r6) 63)), ())] (0, ())))) s4 (((p5.toNat + (Utf8.decode s4 p5.toNat).2) : Nat) : Int))
                none)
              (cond (decide ((IntKind.u32.wrap r6) > 65535))
                (cond (decide ((IntKind.u32.wrap r6) ≤ 1114111))
                  (cond ((bytesOk 4 (tSel [((iOr .u8 240 (IntKind.u8.wrap (Int.fdiv r6 (2 ^ (min 18 IntKind.i32.bits))))), ()), ((iOr .u8 128 (iAnd .u8 (IntKind.u8.wrap (Int.fdiv r6 (2 ^ (min 12 IntKind.i32.bits)))) 63)), ()), ((iOr .u8 128 (iAnd .u8 (IntKind.u8.wrap (Int.fdiv r6 (2 ^ (min 6 IntKind.i32.bits)))) 63)), ()), ((iOr .u8 128 (iAnd .u8 (IntKind.u8.wrap r6) 63)), ())] (0, ()))) && (decide ((b3.size + 4) * 1 ≤ 140737488355328)))
                    (rec (b3 ++ (bytesT 4 (tSel [((iOr .u8 240 (IntKind.u8.wrap (Int.fdiv r6 (2 ^ (min 18 IntKind.i32.bits))))), ()), ((iOr .u8 128 (iAnd .u8 (IntKind.u8.wrap (Int.fdiv r6 (2 ^ (min 12 IntKind.i32.bits)))) 63)), ()), ((iOr .u8 128 (iAnd .u8 (IntKind.u8.wrap (Int.fdiv r6 (2 ^ (min 6 IntKind.i32.bits)))) 63)), ()), ((iOr .u8 128 (iAnd .u8 (IntKind.u8.wrap r6) 63)), ())] (0, ())))) s4 (((p5.toNat + (Utf8.decode s4 p5.toNat).2) : Nat) : Int))
                    none)
                  (cond ((bytesOk 3 (tSel [(239, ()), (191, ()), (189, ())] (0, ()))) && (decide ((b3.size + 3) * 1 ≤ 140737488355328)))
                    (rec (b3 ++ (bytesT 3 (tSel [(239, ()), (191, ()), (189, ())] (0, ())))) s4 (((p5.toNat + (Utf8.decode s4 p5.toNat).2) : Nat) : Int))
                    none))
                (cond ((bytesOk 3 (tSel [(239, ()), (191, ()), (189, ())] (0, ()))) && (decide ((b3.size + 3) * 1 ≤ 140737488355328)))
                  (rec (b3 ++ (bytesT 3 (tSel [(239, ()), (191, ()), (189, ())] (0, ())))) s4 (((p5.toNat + (Utf8.decode s4 p5.toNat).2) : Nat) : Int))
                  none)))
            (cond (decide ((57343 : Int) < (IntKind.u32.wrap r6)))
              (cond (decide ((IntKind.u32.wrap r6) ≤ 65535))
                (cond ((bytesOk 3 (tSel [((iOr .u8 224 (IntKind.u8.wrap (Int.fdiv r6 (2 ^ (min 12 IntKind.i32.bits))))), ()), ((iOr .u8 128 (iAnd .u8 (IntKind.u8.wrap (Int.fdiv r6 (2 ^ (min 6 IntKind.i32.bits)))) 63)), ()), ((iOr .u8 128 (iAnd .u8 (IntKind.u8.wrap r6) 63)), ())] (0, ()))) && (decide ((b3.size + 3) * 1 ≤ 140737488355328)))
                  (rec (b3 ++ (bytesT 3 (tSel [((iOr .u8 224 (IntKind.u8.wrap (Int.fdiv r6 (2 ^ (min 12 IntKind.i32.bits))))), ()), ((iOr .u8 128 (iAnd .u8 (IntKind.u8.wrap (Int.fdiv r6 (2 ^ (min 6 IntKind.i32.bits)))) 63)), ()), ((iOr .u8 128 (iAnd .u8 (IntKind.u8.wrap r6) 63)), ())] (0, ())))) s4 (((p5.toNat + (Utf8.decode s4 p5.toNat).2) : Nat) : Int))
                  none)
                (cond (decide ((IntKind.u32.wrap r6) > 65535))
                  (cond (decide ((IntKind.u32.wrap r6) ≤ 1114111))
                    (cond ((bytesOk 4 (tSel [((iOr .u8 240 (IntKind.u8.wrap (Int.fdiv r6 (2 ^ (min 18 IntKind.i32.bits))))), ()), ((iOr .u8 128 (iAnd .u8 (IntKind.u8.wrap (Int.fdiv r6 (2 ^ (min 12 IntKind.i32.bits)))) 63)), ()), ((iOr .u8 128 (iAnd .u8 (IntKind.u8.wrap (Int.fdiv r6 (2 ^ (min 6 IntKind.i32.bits)))) 63)), ()), ((iOr .u8 128 (iAnd .u8 (IntKind.u8.wrap r6) 63)), ())] (0, ()))) && (decide ((b3.size + 4) * 1 ≤ 140737488355328)))
                      (rec (b3 ++ (bytesT 4 (tSel [((iOr .u8 240 (IntKind.u8.wrap (Int.fdiv r6 (2 ^ (min 18 IntKind.i32.bits))))), ()), ((iOr .u8 128 (iAnd .u8 (IntKind.u8.wrap (Int.fdiv r6 (2 ^ (min 12 IntKind.i32.bits)))) 63)), ()), ((iOr .u8 128 (iAnd .u8 (IntKind.u8.wrap (Int.fdiv r6 (2 ^ (min 6 IntKind.i32.bits)))) 63)), ()), ((iOr .u8 128 (iAnd .u8 (IntKind.u8.wrap r6) 63)), ())] (0, ())))) s4 (((p5.toNat + (Utf8.decode s4 p5.toNat).2) : Nat) : Int))
                      none)
                    (cond ((bytesOk 3 (tSel [(239, ()), (191, ()), (189, ())] (0, ()))) && (decide ((b3.size + 3) * 1 ≤ 140737488355328)))
                      (rec (b3 ++ (bytesT 3 (tSel [(239, ()), (191, ()), (189, ())] (0, ())))) s4 (((p5.toNat + (Utf8.decode s4 p5.toNat).2) : Nat) : Int))
                      none))
                  (cond ((bytesOk 3 (tSel [(239, ()), (191, ()), (189, ())] (0, ()))) && (decide ((b3.size + 3) * 1 ≤ 140737488355328)))
                    (rec (b3 ++ (bytesT 3 (tSel [(239, ()), (191, ()), (189, ())] (0, ())))) s4 (((p5.toNat + (Utf8.decode s4 p5.toNat).2) : Nat) : Int))
                    none)))
              (cond (decide ((IntKind.u32.wrap r6) > 65535))
                (cond (decide ((IntKind.u32.wrap r6) ≤ 1114111))
                  (cond ((bytesOk 4 (tSel [((iOr .u8 240 (IntKind.u8.wrap (Int.fdiv r6 (2 ^ (min 18 IntKind.i32.bits))))), ()), ((iOr .u8 128 (iAnd .u8 (IntKind.u8.wrap (Int.fdiv r6 (2 ^ (min 12 IntKind.i32.bits)))) 63)), ()), ((iOr .u8 128 (iAnd .u8 (IntKind.u8.wrap (Int.fdiv r6 (2 ^ (min 6 IntKind.i32.bits)))) 63)), ()), ((iOr .u8 128 (iAnd .u8 (IntKind.u8.wrap r6) 63)), ())] (0, ()))) && (decide ((b3.size + 4) * 1 ≤ 140737488355328)))
                    (rec (b3 ++ (bytesT 4 (tSel [((iOr .u8 240 (IntKind.u8.wrap (Int.fdiv r6 (2 ^ (min 18 IntKind.i32.bits))))), ()), ((iOr .u8 128 (iAnd .u8 (IntKind.u8.wrap (Int.fdiv r6 (2 ^ (min 12 IntKind.i32.bits)))) 63)), ()), ((iOr .u8 128 (iAnd .u8 (IntKind.u8.wrap (Int.fdiv r6 (2 ^ (min 6 IntKind.i32.bits)))) 63)), ()), ((iOr .u8 128 (iAnd .u8 (IntKind.u8.wrap r6) 63)), ())] (0, ())))) s4 (((p5.toNat + (Utf8.decode s4 p5.toNat).2) : Nat) : Int))
                    none)
                  (cond ((bytesOk 3 (tSel [(239, ()), (191, ()), (189, ())] (0, ()))) && (decide ((b3.size + 3) * 1 ≤ 140737488355328)))
                    (rec (b3 ++ (bytesT 3 (tSel [(239, ()), (191, ()), (189, ())] (0, ())))) s4 (((p5.toNat + (Utf8.decode s4 p5.toNat).2) : Nat) : Int))
                    none))
                (cond ((bytesOk 3 (tSel [(239, ()), (191, ()), (189, ())] (0, ()))) && (decide ((b3.size + 3) * 1 ≤ 140737488355328)))
                  (rec (b3 ++ (bytesT 3 (tSel [(239, ()), (191, ()), (189, ())] (0, ())))) s4 (((p5.toNat + (Utf8.decode s4 p5.toNat).2) : Nat) : Int))
                  none)))))))
    (k0 b3 s4 (p5.toNat : Int)))

noncomputable def name_Fold_l0_run {α : Type} (name_Count : name_Count_T α) (name_small : name_small_T α) (name_Fit : name_Fit_T α) (k0 : (ByteArray) → (ByteArray) → (Int) → Option α) : Nat → (ByteArray) → (ByteArray) → (Int) → Option α
  | 0, _, _, _ => none
  | n + 1, b3, s4, p5 => name_Fold_l0_step name_Count name_small name_Fit k0 (fun b3 s4 p5 => name_Fold_l0_run name_Count name_small name_Fit k0 n b3 s4 p5) b3 s4 p5

noncomputable def name_Fold_g {α : Type} (name_Count : name_Count_T α) (name_small : name_small_T α) (name_Fit : name_Fit_T α) (s1 : ByteArray) (k : ByteArray → Int → Option α) : Option α :=
  (name_Count s1 fun r2 =>
    (cond (decide (r2 < 0))
      (k (⟨#[]⟩ : ByteArray) 7)
      (name_Fold_l0_run name_Count name_small name_Fit
        (fun b7 s8 p9 =>
          (name_Fit b7 fun r10 =>
            (cond (!r10)
              (k (⟨#[]⟩ : ByteArray) 7)
              (k b7 0))))
        1000 (⟨#[]⟩ : ByteArray) s1 0)))

noncomputable def name_Fold {α : Type} : name_Fold_T α := name_Fold_g name_Count name_small name_Fit

noncomputable def name_Fold_sp {α : Type} (name_Fold : name_Fold_T α) : FunSpec α := ⟨15, [.str], [], fun ds k => name_Fold (hdS ds) (fun r1 r2 => k (enc dep (.tup [.str, .int .i64]) [.s r1, .i r2]).1 [])⟩

noncomputable def name_Fold_spec {α : Type} : FunSpec α := name_Fold_sp name_Fold

noncomputable def name_Fold_C {α : Type} (name_Count : name_Count_T α) (name_small : name_small_T α) (name_Fit : name_Fit_T α) : List (FunSpec α) := [name_Count_sp name_Count, name_small_sp name_small, name_Fit_sp name_Fit]

noncomputable def name_Fold_q : FuncId → Bool := fun f => Nat.beq f 11 || Nat.beq f 13 || Nat.beq f 24

noncomputable def name_Fold_inl : FuncId → Bool := fun f => Nat.beq f 23 || Nat.beq f 30 || Nat.beq f 33

noncomputable def name_Fold_ann : FuncId → AnnT := fun f p => if f = 15 then (if p = [true, false, true, true, true] then ⟨[4, 11], [1], [4], [2, 3], 0, [], []⟩ else ⟨[], [], [], [], 0, [], []⟩) else ⟨[], [], [], [], 0, [], []⟩

noncomputable def name_Fold_l0_t : List Sh := [.dead, .dead, .dead, .dead, .ref 0 0, .dead, .dead, .dead, .dead, .dead, .dead, .ref 2 0, .dead, .dead, .dead, .dead, .dead, .dead, .dead, .dead, .dead, .dead]
noncomputable def name_Fold_l0_s : List (List Sh) := []
noncomputable def name_Fold_l0_h : List BSh := [.sb 43 (.own 1), .bs 5, .it]

noncomputable def name_Fold_l0_spec {α : Type} (name_Count : name_Count_T α) (name_small : name_small_T α) (name_Fit : name_Fit_T α) : LoopSpec α := ⟨6, 15, [true, false, true, true, true], name_Fold_l0_t, name_Fold_l0_s, name_Fold_l0_h, fun ds k => name_Fold_l0_run name_Count name_small name_Fit (fun y1 y2 y3 => k (.exit 0) (encSt [.dead, .dead, .dead, .dead, .ref 0 0, .dead, .dead, .dead, .dead, .dead, .dead, .dead, .dead, .dead, .dead, .dead, .dead, .dead, .dead, .dead, .dead, .dead] [] [.sb 43 (.own 1), .bs 5, .it] [.s y1, .s y2, .i y3])) 1000 (hdS ds) (hdS ds.tail) (hdI ds.tail.tail)⟩

noncomputable def name_Fold_loops {α : Type} (name_Count : name_Count_T α) (name_small : name_small_T α) (name_Fit : name_Fit_T α) : List (LoopSpec α) := [name_Fold_l0_spec name_Count name_small name_Fit]

noncomputable def name_Fold_l0_ev {α : Type} (name_Count : name_Count_T α) (name_small : name_small_T α) (name_Fit : name_Fit_T α) (n : Nat) (st : St) (k : X → St → Option α) : Option α := loopN (evCode Go.Proofs.Tryd.prog (callD Go.Proofs.Tryd.prog (envOf (name_Fold_C name_Count name_small name_Fit) name_Fold_q name_Fold_inl 1000 name_Fold_ann false (name_Fold_loops name_Count name_small name_Fit) hooks) 6) (((envOf (name_Fold_C name_Count name_small name_Fit) name_Fold_q name_Fold_inl 1000 name_Fold_ann false (name_Fold_loops name_Count name_small name_Fit) hooks) : Env α).L 6 15) 1000 (name_Fold_ann 15) (false :: [true, false, true, true, true]) (loopC Go.Proofs.Tryd.prog 15 [true, false, true, true, true])) ((name_Fold_ann 15 [true, false, true, true, true]).head 3) ((name_Fold_ann 15 [true, false, true, true, true]).leave 3) n st k

theorem name_Fold_l0_eq {α : Type} (name_Count : name_Count_T α) (name_small : name_small_T α) (name_Fit : name_Fit_T α) : ∀ (n : Nat) (b3 : ByteArray) (s4 : ByteArray) (p5 : Int) (k : X → St → Option α), name_Fold_l0_ev name_Count name_small name_Fit n (encSt name_Fold_l0_t name_Fold_l0_s name_Fold_l0_h [.s b3, .s s4, .i p5]) k = name_Fold_l0_run name_Count name_small name_Fit (fun y1 y2 y3 => k (.exit 0) (encSt [.dead, .dead, .dead, .dead, .ref 0 0, .dead, .dead, .dead, .dead, .dead, .dead, .dead, .dead, .dead, .dead, .dead, .dead, .dead, .dead, .dead, .dead, .dead] [] [.sb 43 (.own 1), .bs 5, .it] [.s y1, .s y2, .i y3])) n b3 s4 p5 := by
  intro n
  induction n with
  | zero => intros; kernel_rfl
  | succ n ih =>
    intro b3 s4 p5 k
    have e : (fun (b3 : ByteArray) (s4 : ByteArray) (p5 : Int) => name_Fold_l0_ev name_Count name_small name_Fit n (encSt name_Fold_l0_t name_Fold_l0_s name_Fold_l0_h [.s b3, .s s4, .i p5]) k) = (fun (b3 : ByteArray) (s4 : ByteArray) (p5 : Int) => name_Fold_l0_run name_Count name_small name_Fit (fun y1 y2 y3 => k (.exit 0) (encSt [.dead, .dead, .dead, .dead, .ref 0 0, .dead, .dead, .dead, .dead, .dead, .dead, .dead, .dead, .dead, .dead, .dead, .dead, .dead, .dead, .dead, .dead, .dead] [] [.sb 43 (.own 1), .bs 5, .it] [.s y1, .s y2, .i y3])) n b3 s4 p5) := by
      funext b3 s4 p5
      exact ih b3 s4 p5 k
    have h1 : name_Fold_l0_ev name_Count name_small name_Fit (n + 1) (encSt name_Fold_l0_t name_Fold_l0_s name_Fold_l0_h [.s b3, .s s4, .i p5]) k = name_Fold_l0_step name_Count name_small name_Fit (fun y1 y2 y3 => k (.exit 0) (encSt [.dead, .dead, .dead, .dead, .ref 0 0, .dead, .dead, .dead, .dead, .dead, .dead, .dead, .dead, .dead, .dead, .dead, .dead, .dead, .dead, .dead, .dead, .dead] [] [.sb 43 (.own 1), .bs 5, .it] [.s y1, .s y2, .i y3])) (fun (b3 : ByteArray) (s4 : ByteArray) (p5 : Int) => name_Fold_l0_ev name_Count name_small name_Fit n (encSt name_Fold_l0_t name_Fold_l0_s name_Fold_l0_h [.s b3, .s s4, .i p5]) k) b3 s4 p5 := by kernel_rfl
    have h2 := congrArg (fun r => name_Fold_l0_step name_Count name_small name_Fit (fun y1 y2 y3 => k (.exit 0) (encSt [.dead, .dead, .dead, .dead, .ref 0 0, .dead, .dead, .dead, .dead, .dead, .dead, .dead, .dead, .dead, .dead, .dead, .dead, .dead, .dead, .dead, .dead, .dead] [] [.sb 43 (.own 1), .bs 5, .it] [.s y1, .s y2, .i y3])) r b3 s4 p5) e
    have h3 : name_Fold_l0_step name_Count name_small name_Fit (fun y1 y2 y3 => k (.exit 0) (encSt [.dead, .dead, .dead, .dead, .ref 0 0, .dead, .dead, .dead, .dead, .dead, .dead, .dead, .dead, .dead, .dead, .dead, .dead, .dead, .dead, .dead, .dead, .dead] [] [.sb 43 (.own 1), .bs 5, .it] [.s y1, .s y2, .i y3])) (fun (b3 : ByteArray) (s4 : ByteArray) (p5 : Int) => name_Fold_l0_run name_Count name_small name_Fit (fun y1 y2 y3 => k (.exit 0) (encSt [.dead, .dead, .dead, .dead, .ref 0 0, .dead, .dead, .dead, .dead, .dead, .dead, .dead, .dead, .dead, .dead, .dead, .dead, .dead, .dead, .dead, .dead, .dead] [] [.sb 43 (.own 1), .bs 5, .it] [.s y1, .s y2, .i y3])) n b3 s4 p5) b3 s4 p5 = name_Fold_l0_run name_Count name_small name_Fit (fun y1 y2 y3 => k (.exit 0) (encSt [.dead, .dead, .dead, .dead, .ref 0 0, .dead, .dead, .dead, .dead, .dead, .dead, .dead, .dead, .dead, .dead, .dead, .dead, .dead, .dead, .dead, .dead, .dead] [] [.sb 43 (.own 1), .bs 5, .it] [.s y1, .s y2, .i y3])) (n + 1) b3 s4 p5 := by kernel_rfl
    exact h1.trans (h2.trans h3)

theorem name_Fold_l0_ok {α : Type} (name_Count : name_Count_T α) (name_small : name_small_T α) (name_Fit : name_Fit_T α) : (name_Fold_l0_spec name_Count name_small name_Fit : LoopSpec α).ok Go.Proofs.Tryd.prog (envOf (name_Fold_C name_Count name_small name_Fit) name_Fold_q name_Fold_inl 1000 name_Fold_ann false (name_Fold_loops name_Count name_small name_Fit) hooks) := by
  intro ds k
  have h1 : name_Fold_l0_ev name_Count name_small name_Fit 1000 (encSt name_Fold_l0_t name_Fold_l0_s name_Fold_l0_h ds) k = name_Fold_l0_ev name_Count name_small name_Fit 1000 (encSt name_Fold_l0_t name_Fold_l0_s name_Fold_l0_h [.s (hdS ds), .s (hdS ds.tail), .i (hdI ds.tail.tail)]) k := by kernel_rfl
  have h2 := name_Fold_l0_eq name_Count name_small name_Fit 1000 (hdS ds) (hdS ds.tail) (hdI ds.tail.tail) k
  exact h1.trans h2

theorem name_Fold_ev {α : Type} (name_Count : name_Count_T α) (name_small : name_small_T α) (name_Fit : name_Fit_T α) : EvOk (α := α) Go.Proofs.Tryd.prog (envOf (name_Fold_C name_Count name_small name_Fit) name_Fold_q name_Fold_inl 1000 name_Fold_ann false (name_Fold_loops name_Count name_small name_Fit) hooks) 6 (name_Fold_sp (name_Fold_g name_Count name_small name_Fit)) := by intro ds k; kernel_rfl

theorem name_Fold_ok {α : Type} : (name_Fold_spec : FunSpec α).ok Go.Proofs.Tryd.prog :=
  FunSpec.ok_of (sp := name_Fold_spec) (C := name_Fold_C name_Count name_small name_Fit) (q := name_Fold_q) (inl := name_Fold_inl) (N := 1000) (ann := name_Fold_ann) (fr := false) (D := 6) (l := (name_Fold_loops name_Count name_small name_Fit)) (hk := hooks) (okCons name_Count_ok (okCons name_small_ok (okCons name_Fit_ok okNil))) (lokCons (name_Fold_l0_ok name_Count name_small name_Fit) lokNil) hooks_ok (name_Fold_ev name_Count name_small name_Fit)

end
end Go.Rv.Tryd

set_option linter.unusedVariables false
set_option maxRecDepth 100000
set_option maxHeartbeats 4000000
namespace Go.Rv.Tryd
open Go Go.Rv Go.RowKit
noncomputable section

-- drayman/name.Find

abbrev name_Find_T (α : Type) : Type := (Seq (ByteArray × Unit)) → ByteArray → (Int → Bool → Option α) → Option α

noncomputable def name_Find_l0_step {α : Type} (kr : (Int) → (Bool) → Option α) (k0 : (Seq (ByteArray × Unit)) → Option α) (rec : (Seq (ByteArray × Unit)) → (ByteArray) → (Seq (ByteArray × Unit)) → (Int) → (Int) → Option α) (l3 : Seq (ByteArray × Unit)) (s4 : ByteArray) (x5 : Seq (ByteArray × Unit)) (x6 : Int) (x7 : Int) : Option α :=
  (cond (decide (x7 < x6))
    (cond ((decide ((0 : Int) ≤ x7)) && (decide (x7 < (x5.n : Int))))
      (cond (!(Op.bytesLess (x5.g x7.toNat).1.toList s4.toList))
        (kr x7 ((x5.g x7.toNat).1.toList == s4.toList))
        (rec l3 s4 x5 x6 (IntKind.i64.wrap (x7 + 1))))
      none)
    (k0 l3))

noncomputable def name_Find_l0_run {α : Type} (kr : (Int) → (Bool) → Option α) (k0 : (Seq (ByteArray × Unit)) → Option α) : Nat → (Seq (ByteArray × Unit)) → (ByteArray) → (Seq (ByteArray × Unit)) → (Int) → (Int) → Option α
  | 0, _, _, _, _, _ => none
  | n + 1, l3, s4, x5, x6, x7 => name_Find_l0_step kr k0 (fun l3 s4 x5 x6 x7 => name_Find_l0_run kr k0 n l3 s4 x5 x6 x7) l3 s4 x5 x6 x7

noncomputable def name_Find {α : Type} (l1 : Seq (ByteArray × Unit)) (s2 : ByteArray) (k : Int → Bool → Option α) : Option α :=
  (name_Find_l0_run
    (fun x8 x9 =>
      (k x8 x9))
    (fun x10 =>
      (k (x10.n : Int) false))
    1000 l1 s2 l1 (l1.n : Int) 0)

noncomputable def name_Find_sp {α : Type} (name_Find : name_Find_T α) : FunSpec α := ⟨17, [.sl (.str (.nil)), .str], [], fun ds k => name_Find (hdQ (.str (.nil)) ds) (hdS ds.tail) (fun r1 r2 => k (enc dep (.tup [.int .i64, .bool]) [.i r1, .b r2]).1 [])⟩

noncomputable def name_Find_spec {α : Type} : FunSpec α := name_Find_sp name_Find

noncomputable def name_Find_C {α : Type} : List (FunSpec α) := []

noncomputable def name_Find_q : FuncId → Bool := fun f => false

noncomputable def name_Find_inl : FuncId → Bool := fun f => false

noncomputable def name_Find_ann : FuncId → AnnT := fun f p => if f = 17 then (if p = [true, false, true] then ⟨[0, 1, 8, 9, 10], [], [0], [4, 5], 0, [], []⟩ else ⟨[], [], [], [], 0, [], []⟩) else ⟨[], [], [], [], 0, [], []⟩

noncomputable def name_Find_l0_t : List Sh := [.sl (.str (.nil)), .str, .dead, .dead, .dead, .dead, .dead, .dead, .sl (.str (.nil)), .int .i64, .int .i64, .dead, .dead, .dead, .dead, .dead, .dead, .dead, .dead, .dead, .dead, .dead, .dead, .dead, .dead]
noncomputable def name_Find_l0_s : List (List Sh) := []
noncomputable def name_Find_l0_h : List BSh := []

noncomputable def name_Find_l0_spec {α : Type} : LoopSpec α := ⟨6, 17, [true, false, true], name_Find_l0_t, name_Find_l0_s, name_Find_l0_h, fun ds k => name_Find_l0_run (fun y1 y2 => k .ret (encSt [.dead, .dead, .dead, .dead, .int .i64, .bool, .dead, .dead, .dead, .dead, .dead, .dead, .dead, .dead, .dead, .dead, .dead, .dead, .dead, .dead, .dead, .dead, .dead, .dead, .dead] [] [] [.i y1, .b y2])) (fun y1 => k (.exit 0) (encSt [.sl (.str (.nil)), .dead, .dead, .dead, .dead, .dead, .dead, .dead, .dead, .dead, .dead, .dead, .dead, .dead, .dead, .dead, .dead, .dead, .dead, .dead, .dead, .dead, .dead, .dead, .dead] [] [] [.q (.str (.nil)) y1])) 1000 (hdQ (.str (.nil)) ds) (hdS ds.tail) (hdQ (.str (.nil)) ds.tail.tail) (hdI ds.tail.tail.tail) (hdI ds.tail.tail.tail.tail)⟩

noncomputable def name_Find_loops {α : Type} : List (LoopSpec α) := [name_Find_l0_spec]

noncomputable def name_Find_l0_ev {α : Type} (n : Nat) (st : St) (k : X → St → Option α) : Option α := loopN (evCode Go.Proofs.Tryd.prog (callD Go.Proofs.Tryd.prog (envOf (name_Find_C) name_Find_q name_Find_inl 1000 name_Find_ann false (name_Find_loops) (fun _ => none)) 6) (((envOf (name_Find_C) name_Find_q name_Find_inl 1000 name_Find_ann false (name_Find_loops) (fun _ => none)) : Env α).L 6 17) 1000 (name_Find_ann 17) (false :: [true, false, true]) (loopC Go.Proofs.Tryd.prog 17 [true, false, true])) ((name_Find_ann 17 [true, false, true]).head 0) ((name_Find_ann 17 [true, false, true]).leave 0) n st k

theorem name_Find_l0_eq {α : Type} : ∀ (n : Nat) (l3 : Seq (ByteArray × Unit)) (s4 : ByteArray) (x5 : Seq (ByteArray × Unit)) (x6 : Int) (x7 : Int) (k : X → St → Option α), name_Find_l0_ev n (encSt name_Find_l0_t name_Find_l0_s name_Find_l0_h [.q (.str (.nil)) l3, .s s4, .q (.str (.nil)) x5, .i x6, .i x7]) k = name_Find_l0_run (fun y1 y2 => k .ret (encSt [.dead, .dead, .dead, .dead, .int .i64, .bool, .dead, .dead, .dead, .dead, .dead, .dead, .dead, .dead, .dead, .dead, .dead, .dead, .dead, .dead, .dead, .dead, .dead, .dead, .dead] [] [] [.i y1, .b y2])) (fun y1 => k (.exit 0) (encSt [.sl (.str (.nil)), .dead, .dead, .dead, .dead, .dead, .dead, .dead, .dead, .dead, .dead, .dead, .dead, .dead, .dead, .dead, .dead, .dead, .dead, .dead, .dead, .dead, .dead, .dead, .dead] [] [] [.q (.str (.nil)) y1])) n l3 s4 x5 x6 x7 := by
  intro n
  induction n with
  | zero => intros; kernel_rfl
  | succ n ih =>
    intro l3 s4 x5 x6 x7 k
    have e : (fun (l3 : Seq (ByteArray × Unit)) (s4 : ByteArray) (x5 : Seq (ByteArray × Unit)) (x6 : Int) (x7 : Int) => name_Find_l0_ev n (encSt name_Find_l0_t name_Find_l0_s name_Find_l0_h [.q (.str (.nil)) l3, .s s4, .q (.str (.nil)) x5, .i x6, .i x7]) k) = (fun (l3 : Seq (ByteArray × Unit)) (s4 : ByteArray) (x5 : Seq (ByteArray × Unit)) (x6 : Int) (x7 : Int) => name_Find_l0_run (fun y1 y2 => k .ret (encSt [.dead, .dead, .dead, .dead, .int .i64, .bool, .dead, .dead, .dead, .dead, .dead, .dead, .dead, .dead, .dead, .dead, .dead, .dead, .dead, .dead, .dead, .dead, .dead, .dead, .dead] [] [] [.i y1, .b y2])) (fun y1 => k (.exit 0) (encSt [.sl (.str (.nil)), .dead, .dead, .dead, .dead, .dead, .dead, .dead, .dead, .dead, .dead, .dead, .dead, .dead, .dead, .dead, .dead, .dead, .dead, .dead, .dead, .dead, .dead, .dead, .dead] [] [] [.q (.str (.nil)) y1])) n l3 s4 x5 x6 x7) := by
      funext l3 s4 x5 x6 x7
      exact ih l3 s4 x5 x6 x7 k
    have h1 : name_Find_l0_ev (n + 1) (encSt name_Find_l0_t name_Find_l0_s name_Find_l0_h [.q (.str (.nil)) l3, .s s4, .q (.str (.nil)) x5, .i x6, .i x7]) k = name_Find_l0_step (fun y1 y2 => k .ret (encSt [.dead, .dead, .dead, .dead, .int .i64, .bool, .dead, .dead, .dead, .dead, .dead, .dead, .dead, .dead, .dead, .dead, .dead, .dead, .dead, .dead, .dead, .dead, .dead, .dead, .dead] [] [] [.i y1, .b y2])) (fun y1 => k (.exit 0) (encSt [.sl (.str (.nil)), .dead, .dead, .dead, .dead, .dead, .dead, .dead, .dead, .dead, .dead, .dead, .dead, .dead, .dead, .dead, .dead, .dead, .dead, .dead, .dead, .dead, .dead, .dead, .dead] [] [] [.q (.str (.nil)) y1])) (fun (l3 : Seq (ByteArray × Unit)) (s4 : ByteArray) (x5 : Seq (ByteArray × Unit)) (x6 : Int) (x7 : Int) => name_Find_l0_ev n (encSt name_Find_l0_t name_Find_l0_s name_Find_l0_h [.q (.str (.nil)) l3, .s s4, .q (.str (.nil)) x5, .i x6, .i x7]) k) l3 s4 x5 x6 x7 := by kernel_rfl
    have h2 := congrArg (fun r => name_Find_l0_step (fun y1 y2 => k .ret (encSt [.dead, .dead, .dead, .dead, .int .i64, .bool, .dead, .dead, .dead, .dead, .dead, .dead, .dead, .dead, .dead, .dead, .dead, .dead, .dead, .dead, .dead, .dead, .dead, .dead, .dead] [] [] [.i y1, .b y2])) (fun y1 => k (.exit 0) (encSt [.sl (.str (.nil)), .dead, .dead, .dead, .dead, .dead, .dead, .dead, .dead, .dead, .dead, .dead, .dead, .dead, .dead, .dead, .dead, .dead, .dead, .dead, .dead, .dead, .dead, .dead, .dead] [] [] [.q (.str (.nil)) y1])) r l3 s4 x5 x6 x7) e
    have h3 : name_Find_l0_step (fun y1 y2 => k .ret (encSt [.dead, .dead, .dead, .dead, .int .i64, .bool, .dead, .dead, .dead, .dead, .dead, .dead, .dead, .dead, .dead, .dead, .dead, .dead, .dead, .dead, .dead, .dead, .dead, .dead, .dead] [] [] [.i y1, .b y2])) (fun y1 => k (.exit 0) (encSt [.sl (.str (.nil)), .dead, .dead, .dead, .dead, .dead, .dead, .dead, .dead, .dead, .dead, .dead, .dead, .dead, .dead, .dead, .dead, .dead, .dead, .dead, .dead, .dead, .dead, .dead, .dead] [] [] [.q (.str (.nil)) y1])) (fun (l3 : Seq (ByteArray × Unit)) (s4 : ByteArray) (x5 : Seq (ByteArray × Unit)) (x6 : Int) (x7 : Int) => name_Find_l0_run (fun y1 y2 => k .ret (encSt [.dead, .dead, .dead, .dead, .int .i64, .bool, .dead, .dead, .dead, .dead, .dead, .dead, .dead, .dead, .dead, .dead, .dead, .dead, .dead, .dead, .dead, .dead, .dead, .dead, .dead] [] [] [.i y1, .b y2])) (fun y1 => k (.exit 0) (encSt [.sl (.str (.nil)), .dead, .dead, .dead, .dead, .dead, .dead, .dead, .dead, .dead, .dead, .dead, .dead, .dead, .dead, .dead, .dead, .dead, .dead, .dead, .dead, .dead, .dead, .dead, .dead] [] [] [.q (.str (.nil)) y1])) n l3 s4 x5 x6 x7) l3 s4 x5 x6 x7 = name_Find_l0_run (fun y1 y2 => k .ret (encSt [.dead, .dead, .dead, .dead, .int .i64, .bool, .dead, .dead, .dead, .dead, .dead, .dead, .dead, .dead, .dead, .dead, .dead, .dead, .dead, .dead, .dead, .dead, .dead, .dead, .dead] [] [] [.i y1, .b y2])) (fun y1 => k (.exit 0) (encSt [.sl (.str (.nil)), .dead, .dead, .dead, .dead, .dead, .dead, .dead, .dead, .dead, .dead, .dead, .dead, .dead, .dead, .dead, .dead, .dead, .dead, .dead, .dead, .dead, .dead, .dead, .dead] [] [] [.q (.str (.nil)) y1])) (n + 1) l3 s4 x5 x6 x7 := by kernel_rfl
    exact h1.trans (h2.trans h3)

theorem name_Find_l0_ok {α : Type} : (name_Find_l0_spec : LoopSpec α).ok Go.Proofs.Tryd.prog (envOf (name_Find_C) name_Find_q name_Find_inl 1000 name_Find_ann false (name_Find_loops) (fun _ => none)) := by
  intro ds k
  have h1 : name_Find_l0_ev 1000 (encSt name_Find_l0_t name_Find_l0_s name_Find_l0_h ds) k = name_Find_l0_ev 1000 (encSt name_Find_l0_t name_Find_l0_s name_Find_l0_h [.q (.str (.nil)) (hdQ (.str (.nil)) ds), .s (hdS ds.tail), .q (.str (.nil)) (hdQ (.str (.nil)) ds.tail.tail), .i (hdI ds.tail.tail.tail), .i (hdI ds.tail.tail.tail.tail)]) k := by kernel_rfl
  have h2 := name_Find_l0_eq 1000 (hdQ (.str (.nil)) ds) (hdS ds.tail) (hdQ (.str (.nil)) ds.tail.tail) (hdI ds.tail.tail.tail) (hdI ds.tail.tail.tail.tail) k
  exact h1.trans h2

theorem name_Find_ev {α : Type} : EvOk (α := α) Go.Proofs.Tryd.prog (envOf (name_Find_C) name_Find_q name_Find_inl 1000 name_Find_ann false (name_Find_loops) (fun _ => none)) 6 (name_Find_sp (name_Find)) := by intro ds k; kernel_rfl

theorem name_Find_ok {α : Type} : (name_Find_spec : FunSpec α).ok Go.Proofs.Tryd.prog :=
  FunSpec.ok_of (sp := name_Find_spec) (C := name_Find_C) (q := name_Find_q) (inl := name_Find_inl) (N := 1000) (ann := name_Find_ann) (fr := false) (D := 6) (l := (name_Find_loops)) (hk := (fun _ => none)) okNil (lokCons (name_Find_l0_ok) lokNil) noHooks (name_Find_ev)

end
end Go.Rv.Tryd

set_option linter.unusedVariables false
set_option maxRecDepth 100000
set_option maxHeartbeats 4000000
namespace Go.Rv.Tryd
open Go Go.Rv Go.RowKit
noncomputable section

-- drayman/draymanlaw02.awake

abbrev draymanlaw02_awake_T (α : Type) : Type := (Bool → Option α) → Option α

noncomputable def draymanlaw02_awake_g {α : Type} (name_Fold : name_Fold_T α) (name_Find : name_Find_T α) (name_Count : name_Count_T α) (name_Fit : name_Fit_T α) (name_Rune : name_Rune_T α) (k : Bool → Option α) : Option α :=
  (name_Fold (⟨#[195, 132, 98]⟩ : ByteArray) fun r1 r2 =>
    (name_Fold (⟨#[45, 97]⟩ : ByteArray) fun r3 r4 =>
      (name_Find (⟨false, 2, (tSel [((⟨#[97]⟩ : ByteArray), ()), ((⟨#[99]⟩ : ByteArray), ())] (ByteArray.empty, ()))⟩ : Seq (ByteArray × Unit)) (⟨#[98]⟩ : ByteArray) fun r5 r6 =>
        (cond (r1.toList == (⟨#[195, 164, 98]⟩ : ByteArray).toList)
          (cond (r2 == 0)
            (name_Count (⟨#[195, 164, 98]⟩ : ByteArray) fun r7 =>
              (cond (r7 == 2)
                (name_Fit (⟨#[45, 97]⟩ : ByteArray) fun r8 =>
                  (cond (!r8)
                    (cond (r4 == 7)
                      (name_Rune 45 fun r9 =>
                        (cond r9
                          (cond (r5 == 1)
                            (cond (!r6)
                              (name_Fit (⟨#[195, 164, 98]⟩ : ByteArray) fun r10 =>
                                (k r10))
                              (k false))
                            (k false))
                          (k false)))
                      (k false))
                    (k false)))
                (k false)))
            (k false))
          (k false)))))

noncomputable def draymanlaw02_awake {α : Type} : draymanlaw02_awake_T α := draymanlaw02_awake_g name_Fold name_Find name_Count name_Fit name_Rune

noncomputable def draymanlaw02_awake_sp {α : Type} (draymanlaw02_awake : draymanlaw02_awake_T α) : FunSpec α := ⟨8, [], [], fun ds k => draymanlaw02_awake  (fun r1 => k (enc dep (.bool) [.b r1]).1 [])⟩

noncomputable def draymanlaw02_awake_spec {α : Type} : FunSpec α := draymanlaw02_awake_sp draymanlaw02_awake

noncomputable def draymanlaw02_awake_C {α : Type} (name_Fold : name_Fold_T α) (name_Find : name_Find_T α) (name_Count : name_Count_T α) (name_Fit : name_Fit_T α) (name_Rune : name_Rune_T α) : List (FunSpec α) := [name_Fold_sp name_Fold, name_Find_sp name_Find, name_Count_sp name_Count, name_Fit_sp name_Fit, name_Rune_sp name_Rune]

noncomputable def draymanlaw02_awake_q : FuncId → Bool := fun f => Nat.beq f 9 || Nat.beq f 11 || Nat.beq f 13 || Nat.beq f 15 || Nat.beq f 17

noncomputable def draymanlaw02_awake_inl : FuncId → Bool := fun f => false

noncomputable def draymanlaw02_awake_ann : FuncId → AnnT := fun f p => ⟨[], [], [], [], 0, [], []⟩

noncomputable def draymanlaw02_awake_loops {α : Type} (name_Fold : name_Fold_T α) (name_Find : name_Find_T α) (name_Count : name_Count_T α) (name_Fit : name_Fit_T α) (name_Rune : name_Rune_T α) : List (LoopSpec α) := []

theorem draymanlaw02_awake_ev {α : Type} (name_Fold : name_Fold_T α) (name_Find : name_Find_T α) (name_Count : name_Count_T α) (name_Fit : name_Fit_T α) (name_Rune : name_Rune_T α) : EvOk (α := α) Go.Proofs.Tryd.prog (envOf (draymanlaw02_awake_C name_Fold name_Find name_Count name_Fit name_Rune) draymanlaw02_awake_q draymanlaw02_awake_inl 1000 draymanlaw02_awake_ann false (draymanlaw02_awake_loops name_Fold name_Find name_Count name_Fit name_Rune) (fun _ => none)) 6 (draymanlaw02_awake_sp (draymanlaw02_awake_g name_Fold name_Find name_Count name_Fit name_Rune)) := by intro ds k; kernel_rfl

theorem draymanlaw02_awake_ok {α : Type} : (draymanlaw02_awake_spec : FunSpec α).ok Go.Proofs.Tryd.prog :=
  FunSpec.ok_of (sp := draymanlaw02_awake_spec) (C := draymanlaw02_awake_C name_Fold name_Find name_Count name_Fit name_Rune) (q := draymanlaw02_awake_q) (inl := draymanlaw02_awake_inl) (N := 1000) (ann := draymanlaw02_awake_ann) (fr := false) (D := 6) (l := (draymanlaw02_awake_loops name_Fold name_Find name_Count name_Fit name_Rune)) (hk := (fun _ => none)) (okCons name_Fold_ok (okCons name_Find_ok (okCons name_Count_ok (okCons name_Fit_ok (okCons name_Rune_ok okNil))))) lokNil noHooks (draymanlaw02_awake_ev name_Fold name_Find name_Count name_Fit name_Rune)

end
end Go.Rv.Tryd

set_option linter.unusedVariables false
set_option maxRecDepth 100000
set_option maxHeartbeats 4000000
namespace Go.Rv.Tryd
open Go Go.Rv Go.RowKit
noncomputable section

-- drayman/draymanref02.more

abbrev draymanref02_more_T (α : Type) : Type := ByteArray → Int → (Int → Option α) → Option α

noncomputable def draymanref02_more {α : Type} (s1 : ByteArray) (x2 : Int) (k : Int → Option α) : Option α :=
  (cond (!(decide (x2 ≥ (s1.size : Int))))
    (cond ((decide ((0 : Int) ≤ x2)) && (decide (x2 < (s1.size : Int))))
      (cond (!(decide ((byteAt s1 x2) < 128)))
        (cond ((decide ((0 : Int) ≤ x2)) && (decide (x2 < (s1.size : Int))))
          (cond (decide ((byteAt s1 x2) > 191))
            (k (-1))
            (cond ((decide ((0 : Int) ≤ x2)) && (decide (x2 < (s1.size : Int))))
              (k (IntKind.i64.wrap ((IntKind.i64.wrap (byteAt s1 x2)) - 128)))
              none))
          none)
        (k (-1)))
      none)
    (k (-1)))

noncomputable def draymanref02_more_sp {α : Type} (draymanref02_more : draymanref02_more_T α) : FunSpec α := ⟨31, [.str, .int .i64], [], fun ds k => draymanref02_more (hdS ds) (hdI ds.tail) (fun r1 => k (enc dep (.int .i64) [.i r1]).1 [])⟩

noncomputable def draymanref02_more_spec {α : Type} : FunSpec α := draymanref02_more_sp draymanref02_more

noncomputable def draymanref02_more_C {α : Type} : List (FunSpec α) := []

noncomputable def draymanref02_more_q : FuncId → Bool := fun f => false

noncomputable def draymanref02_more_inl : FuncId → Bool := fun f => false

noncomputable def draymanref02_more_ann : FuncId → AnnT := fun f p => ⟨[], [], [], [], 0, [], []⟩

noncomputable def draymanref02_more_loops {α : Type} : List (LoopSpec α) := []

theorem draymanref02_more_ev {α : Type} : EvOk (α := α) Go.Proofs.Tryd.prog (envOf (draymanref02_more_C) draymanref02_more_q draymanref02_more_inl 1000 draymanref02_more_ann false (draymanref02_more_loops) (fun _ => none)) 6 (draymanref02_more_sp (draymanref02_more)) := by intro ds k; kernel_rfl

theorem draymanref02_more_ok {α : Type} : (draymanref02_more_spec : FunSpec α).ok Go.Proofs.Tryd.prog :=
  FunSpec.ok_of (sp := draymanref02_more_spec) (C := draymanref02_more_C) (q := draymanref02_more_q) (inl := draymanref02_more_inl) (N := 1000) (ann := draymanref02_more_ann) (fr := false) (D := 6) (l := (draymanref02_more_loops)) (hk := (fun _ => none)) okNil lokNil noHooks (draymanref02_more_ev)

end
end Go.Rv.Tryd

set_option linter.unusedVariables false
set_option maxRecDepth 100000
set_option maxHeartbeats 4000000
namespace Go.Rv.Tryd
open Go Go.Rv Go.RowKit
noncomputable section

-- drayman/draymanref02.One

abbrev draymanref02_One_T (α : Type) : Type := ByteArray → Int → (Int → Int → Option α) → Option α

noncomputable def draymanref02_One_g {α : Type} (draymanref02_more : draymanref02_more_T α) (x1 : ByteArray) (x2 : Int) (k : Int → Int → Option α) : Option α :=
  (cond ((decide ((0 : Int) ≤ x2)) && (decide (x2 < (x1.size : Int))))
    (draymanref02_more x1 (IntKind.i64.wrap (x2 + 1)) fun r3 =>
      (draymanref02_more x1 (IntKind.i64.wrap (x2 + 2)) fun r4 =>
        (draymanref02_more x1 (IntKind.i64.wrap (x2 + 3)) fun r5 =>
          (cond (decide ((IntKind.i64.wrap (byteAt x1 x2)) < 128))
            (k (IntKind.i64.wrap (byteAt x1 x2)) 1)
            (cond (decide ((IntKind.i64.wrap (byteAt x1 x2)) ≥ 194))
              (cond (decide ((IntKind.i64.wrap (byteAt x1 x2)) ≤ 223))
                (cond (decide (r3 ≥ 0))
                  (k (IntKind.i64.wrap ((IntKind.i64.wrap ((IntKind.i64.wrap ((IntKind.i64.wrap (byteAt x1 x2)) - 192)) * 64)) + r3)) 2)
                  (cond (decide ((IntKind.i64.wrap (byteAt x1 x2)) ≥ 224))
                    (cond (decide ((IntKind.i64.wrap (byteAt x1 x2)) ≤ 239))
                      (cond (decide (r3 ≥ 0))
                        (cond (decide (r4 ≥ 0))
                          (cond (decide ((IntKind.i64.wrap ((IntKind.i64.wrap ((IntKind.i64.wrap ((IntKind.i64.wrap ((IntKind.i64.wrap (byteAt x1 x2)) - 224)) * 4096)) + (IntKind.i64.wrap (r3 * 64)))) + r4)) ≥ 2048))
                            (cond (!(decide ((IntKind.i64.wrap ((IntKind.i64.wrap ((IntKind.i64.wrap ((IntKind.i64.wrap ((IntKind.i64.wrap (byteAt x1 x2)) - 224)) * 4096)) + (IntKind.i64.wrap (r3 * 64)))) + r4)) < 55296)))
                              (cond (decide ((IntKind.i64.wrap ((IntKind.i64.wrap ((IntKind.i64.wrap ((IntKind.i64.wrap ((IntKind.i64.wrap (byteAt x1 x2)) - 224)) * 4096)) + (IntKind.i64.wrap (r3 * 64)))) + r4)) > 57343))
                                (k (IntKind.i64.wrap ((IntKind.i64.wrap ((IntKind.i64.wrap ((IntKind.i64.wrap ((IntKind.i64.wrap (byteAt x1 x2)) - 224)) * 4096)) + (IntKind.i64.wrap (r3 * 64)))) + r4)) 3)
                                (k 0 0))
                              (k (IntKind.i64.wrap ((IntKind.i64.wrap ((IntKind.i64.wrap ((IntKind.i64.wrap ((IntKind.i64.wrap (byteAt x1 x2)) - 224)) * 4096)) + (IntKind.i64.wrap (r3 * 64)))) + r4)) 3))
                            (k 0 0))
                          (cond (decide ((IntKind.i64.wrap (byteAt x1 x2)) ≥ 240))
                            (cond (decide ((IntKind.i64.wrap (byteAt x1 x2)) ≤ 244))
                              (cond (decide (r3 ≥ 0))
                                (cond (decide (r4 ≥ 0))
                                  (cond (decide (r5 ≥ 0))
                                    (cond (decide ((IntKind.i64.wrap ((IntKind.i64.wrap ((IntKind.i64.wrap ((IntKind.i64.wrap ((IntKind.i64.wrap ((IntKind.i64.wrap (byteAt x1 x2)) - 240)) * 262144)) + (IntKind.i64.wrap (r3 * 4096)))) + (IntKind.i64.wrap (r4 * 64)))) + r5)) ≥ 65536))
                                      (cond (decide ((IntKind.i64.wrap ((IntKind.i64.wrap ((IntKind.i64.wrap ((IntKind.i64.wrap ((IntKind.i64.wrap ((IntKind.i64.wrap (byteAt x1 x2)) - 240)) * 262144)) + (IntKind.i64.wrap (r3 * 4096)))) + (IntKind.i64.wrap (r4 * 64)))) + r5)) ≤ 1114111))
                                        (k (IntKind.i64.wrap ((IntKind.i64.wrap ((IntKind.i64.wrap ((IntKind.i64.wrap ((IntKind.i64.wrap ((IntKind.i64.wrap (byteAt x1 x2)) - 240)) * 262144)) + (IntKind.i64.wrap (r3 * 4096)))) + (IntKind.i64.wrap (r4 * 64)))) + r5)) 4)
                                        (k 0 0))
                                      (k 0 0))
                                    (k 0 0))
                                  (k 0 0))
                                (k 0 0))
                              (k 0 0))
                            (k 0 0)))
                        (cond (decide ((IntKind.i64.wrap (byteAt x1 x2)) ≥ 240))
                          (cond (decide ((IntKind.i64.wrap (byteAt x1 x2)) ≤ 244))
                            (cond (decide (r3 ≥ 0))
                              (cond (decide (r4 ≥ 0))
                                (cond (decide (r5 ≥ 0))
                                  (cond (decide ((IntKind.i64.wrap ((IntKind.i64.wrap ((IntKind.i64.wrap ((IntKind.i64.wrap ((IntKind.i64.wrap ((IntKind.i64.wrap (byteAt x1 x2)) - 240)) * 262144)) + (IntKind.i64.wrap (r3 * 4096)))) + (IntKind.i64.wrap (r4 * 64)))) + r5)) ≥ 65536))
                                    (cond (decide ((IntKind.i64.wrap ((IntKind.i64.wrap ((IntKind.i64.wrap ((IntKind.i64.wrap ((IntKind.i64.wrap ((IntKind.i64.wrap (byteAt x1 x2)) - 240)) * 262144)) + (IntKind.i64.wrap (r3 * 4096)))) + (IntKind.i64.wrap (r4 * 64)))) + r5)) ≤ 1114111))
                                      (k (IntKind.i64.wrap ((IntKind.i64.wrap ((IntKind.i64.wrap ((IntKind.i64.wrap ((IntKind.i64.wrap ((IntKind.i64.wrap (byteAt x1 x2)) - 240)) * 262144)) + (IntKind.i64.wrap (r3 * 4096)))) + (IntKind.i64.wrap (r4 * 64)))) + r5)) 4)
                                      (k 0 0))
                                    (k 0 0))
                                  (k 0 0))
                                (k 0 0))
                              (k 0 0))
                            (k 0 0))
                          (k 0 0)))
                      (cond (decide ((IntKind.i64.wrap (byteAt x1 x2)) ≥ 240))
                        (cond (decide ((IntKind.i64.wrap (byteAt x1 x2)) ≤ 244))
                          (cond (decide (r3 ≥ 0))
                            (cond (decide (r4 ≥ 0))
                              (cond (decide (r5 ≥ 0))
                                (cond (decide ((IntKind.i64.wrap ((IntKind.i64.wrap ((IntKind.i64.wrap ((IntKind.i64.wrap ((IntKind.i64.wrap ((IntKind.i64.wrap (byteAt x1 x2)) - 240)) * 262144)) + (IntKind.i64.wrap (r3 * 4096)))) + (IntKind.i64.wrap (r4 * 64)))) + r5)) ≥ 65536))
                                  (cond (decide ((IntKind.i64.wrap ((IntKind.i64.wrap ((IntKind.i64.wrap ((IntKind.i64.wrap ((IntKind.i64.wrap ((IntKind.i64.wrap (byteAt x1 x2)) - 240)) * 262144)) + (IntKind.i64.wrap (r3 * 4096)))) + (IntKind.i64.wrap (r4 * 64)))) + r5)) ≤ 1114111))
                                    (k (IntKind.i64.wrap ((IntKind.i64.wrap ((IntKind.i64.wrap ((IntKind.i64.wrap ((IntKind.i64.wrap ((IntKind.i64.wrap (byteAt x1 x2)) - 240)) * 262144)) + (IntKind.i64.wrap (r3 * 4096)))) + (IntKind.i64.wrap (r4 * 64)))) + r5)) 4)
                                    (k 0 0))
                                  (k 0 0))
                                (k 0 0))
                              (k 0 0))
                            (k 0 0))
                          (k 0 0))
                        (k 0 0)))
                    (cond (decide ((IntKind.i64.wrap (byteAt x1 x2)) ≥ 240))
                      (cond (decide ((IntKind.i64.wrap (byteAt x1 x2)) ≤ 244))
                        (cond (decide (r3 ≥ 0))
                          (cond (decide (r4 ≥ 0))
                            (cond (decide (r5 ≥ 0))
                              (cond (decide ((IntKind.i64.wrap ((IntKind.i64.wrap ((IntKind.i64.wrap ((IntKind.i64.wrap ((IntKind.i64.wrap ((IntKind.i64.wrap (byteAt x1 x2)) - 240)) * 262144)) + (IntKind.i64.wrap (r3 * 4096)))) + (IntKind.i64.wrap (r4 * 64)))) + r5)) ≥ 65536))
                                (cond (decide ((IntKind.i64.wrap ((IntKind.i64.wrap ((IntKind.i64.wrap ((IntKind.i64.wrap ((IntKind.i64.wrap ((IntKind.i64.wrap (byteAt x1 x2)) - 240)) * 262144)) + (IntKind.i64.wrap (r3 * 4096)))) + (IntKind.i64.wrap (r4 * 64)))) + r5)) ≤ 1114111))
                                  (k (IntKind.i64.wrap ((IntKind.i64.wrap ((IntKind.i64.wrap ((IntKind.i64.wrap ((IntKind.i64.wrap ((IntKind.i64.wrap (byteAt x1 x2)) - 240)) * 262144)) + (IntKind.i64.wrap (r3 * 4096)))) + (IntKind.i64.wrap (r4 * 64)))) + r5)) 4)
                                  (k 0 0))
                                (k 0 0))
                              (k 0 0))
                            (k 0 0))
                          (k 0 0))
                        (k 0 0))
                      (k 0 0))))
                (cond (decide ((IntKind.i64.wrap (byteAt x1 x2)) ≥ 224))
                  (cond (decide ((IntKind.i64.wrap (byteAt x1 x2)) ≤ 239))
                    (cond (decide (r3 ≥ 0))
                      (cond (decide (r4 ≥ 0))
                        (cond (decide ((IntKind.i64.wrap ((IntKind.i64.wrap ((IntKind.i64.wrap ((IntKind.i64.wrap ((IntKind.i64.wrap (byteAt x1 x2)) - 224)) * 4096)) + (IntKind.i64.wrap (r3 * 64)))) + r4)) ≥ 2048))
                          (cond (!(decide ((IntKind.i64.wrap ((IntKind.i64.wrap ((IntKind.i64.wrap ((IntKind.i64.wrap ((IntKind.i64.wrap (byteAt x1 x2)) - 224)) * 4096)) + (IntKind.i64.wrap (r3 * 64)))) + r4)) < 55296)))
                            (cond (decide ((IntKind.i64.wrap ((IntKind.i64.wrap ((IntKind.i64.wrap ((IntKind.i64.wrap ((IntKind.i64.wrap (byteAt x1 x2)) - 224)) * 4096)) + (IntKind.i64.wrap (r3 * 64)))) + r4)) > 57343))
                              (k (IntKind.i64.wrap ((IntKind.i64.wrap ((IntKind.i64.wrap ((IntKind.i64.wrap ((IntKind.i64.wrap (byteAt x1 x2)) - 224)) * 4096)) + (IntKind.i64.wrap (r3 * 64)))) + r4)) 3)
                              (k 0 0))
                            (k (IntKind.i64.wrap ((IntKind.i64.wrap ((IntKind.i64.wrap ((IntKind.i64.wrap ((IntKind.i64.wrap (byteAt x1 x2)) - 224)) * 4096)) + (IntKind.i64.wrap (r3 * 64)))) + r4)) 3))
                          (k 0 0))
                        (cond (decide ((IntKind.i64.wrap (byteAt x1 x2)) ≥ 240))
                          (cond (decide ((IntKind.i64.wrap (byteAt x1 x2)) ≤ 244))
                            (cond (decide (r3 ≥ 0))
                              (cond (decide (r4 ≥ 0))
                                (cond (decide (r5 ≥ 0))
                                  (cond (decide ((IntKind.i64.wrap ((IntKind.i64.wrap ((IntKind.i64.wrap ((IntKind.i64.wrap ((IntKind.i64.wrap ((IntKind.i64.wrap (byteAt x1 x2)) - 240)) * 262144)) + (IntKind.i64.wrap (r3 * 4096)))) + (IntKind.i64.wrap (r4 * 64)))) + r5)) ≥ 65536))
                                    (cond (decide ((IntKind.i64.wrap ((IntKind.i64.wrap ((IntKind.i64.wrap ((IntKind.i64.wrap ((IntKind.i64.wrap ((IntKind.i64.wrap (byteAt x1 x2)) - 240)) * 262144)) + (IntKind.i64.wrap (r3 * 4096)))) + (IntKind.i64.wrap (r4 * 64)))) + r5)) ≤ 1114111))
                                      (k (IntKind.i64.wrap ((IntKind.i64.wrap ((IntKind.i64.wrap ((IntKind.i64.wrap ((IntKind.i64.wrap ((IntKind.i64.wrap (byteAt x1 x2)) - 240)) * 262144)) + (IntKind.i64.wrap (r3 * 4096)))) + (IntKind.i64.wrap (r4 * 64)))) + r5)) 4)
                                      (k 0 0))
                                    (k 0 0))
                                  (k 0 0))
                                (k 0 0))
                              (k 0 0))
                            (k 0 0))
                          (k 0 0)))
                      (cond (decide ((IntKind.i64.wrap (byteAt x1 x2)) ≥ 240))
                        (cond (decide ((IntKind.i64.wrap (byteAt x1 x2)) ≤ 244))
                          (cond (decide (r3 ≥ 0))
                            (cond (decide (r4 ≥ 0))
                              (cond (decide (r5 ≥ 0))
                                (cond (decide ((IntKind.i64.wrap ((IntKind.i64.wrap ((IntKind.i64.wrap ((IntKind.i64.wrap ((IntKind.i64.wrap ((IntKind.i64.wrap (byteAt x1 x2)) - 240)) * 262144)) + (IntKind.i64.wrap (r3 * 4096)))) + (IntKind.i64.wrap (r4 * 64)))) + r5)) ≥ 65536))
                                  (cond (decide ((IntKind.i64.wrap ((IntKind.i64.wrap ((IntKind.i64.wrap ((IntKind.i64.wrap ((IntKind.i64.wrap ((IntKind.i64.wrap (byteAt x1 x2)) - 240)) * 262144)) + (IntKind.i64.wrap (r3 * 4096)))) + (IntKind.i64.wrap (r4 * 64)))) + r5)) ≤ 1114111))
                                    (k (IntKind.i64.wrap ((IntKind.i64.wrap ((IntKind.i64.wrap ((IntKind.i64.wrap ((IntKind.i64.wrap ((IntKind.i64.wrap (byteAt x1 x2)) - 240)) * 262144)) + (IntKind.i64.wrap (r3 * 4096)))) + (IntKind.i64.wrap (r4 * 64)))) + r5)) 4)
                                    (k 0 0))
                                  (k 0 0))
                                (k 0 0))
                              (k 0 0))
                            (k 0 0))
                          (k 0 0))
                        (k 0 0)))
                    (cond (decide ((IntKind.i64.wrap (byteAt x1 x2)) ≥ 240))
                      (cond (decide ((IntKind.i64.wrap (byteAt x1 x2)) ≤ 244))
                        (cond (decide (r3 ≥ 0))
                          (cond (decide (r4 ≥ 0))
                            (cond (decide (r5 ≥ 0))
                              (cond (decide ((IntKind.i64.wrap ((IntKind.i64.wrap ((IntKind.i64.wrap ((IntKind.i64.wrap ((IntKind.i64.wrap ((IntKind.i64.wrap (byteAt x1 x2)) - 240)) * 262144)) + (IntKind.i64.wrap (r3 * 4096)))) + (IntKind.i64.wrap (r4 * 64)))) + r5)) ≥ 65536))
                                (cond (decide ((IntKind.i64.wrap ((IntKind.i64.wrap ((IntKind.i64.wrap ((IntKind.i64.wrap ((IntKind.i64.wrap ((IntKind.i64.wrap (byteAt x1 x2)) - 240)) * 262144)) + (IntKind.i64.wrap (r3 * 4096)))) + (IntKind.i64.wrap (r4 * 64)))) + r5)) ≤ 1114111))
                                  (k (IntKind.i64.wrap ((IntKind.i64.wrap ((IntKind.i64.wrap ((IntKind.i64.wrap ((IntKind.i64.wrap ((IntKind.i64.wrap (byteAt x1 x2)) - 240)) * 262144)) + (IntKind.i64.wrap (r3 * 4096)))) + (IntKind.i64.wrap (r4 * 64)))) + r5)) 4)
                                  (k 0 0))
                                (k 0 0))
                              (k 0 0))
                            (k 0 0))
                          (k 0 0))
                        (k 0 0))
                      (k 0 0)))
                  (cond (decide ((IntKind.i64.wrap (byteAt x1 x2)) ≥ 240))
                    (cond (decide ((IntKind.i64.wrap (byteAt x1 x2)) ≤ 244))
                      (cond (decide (r3 ≥ 0))
                        (cond (decide (r4 ≥ 0))
                          (cond (decide (r5 ≥ 0))
                            (cond (decide ((IntKind.i64.wrap ((IntKind.i64.wrap ((IntKind.i64.wrap ((IntKind.i64.wrap ((IntKind.i64.wrap ((IntKind.i64.wrap (byteAt x1 x2)) - 240)) * 262144)) + (IntKind.i64.wrap (r3 * 4096)))) + (IntKind.i64.wrap (r4 * 64)))) + r5)) ≥ 65536))
                              (cond (decide ((IntKind.i64.wrap ((IntKind.i64.wrap ((IntKind.i64.wrap ((IntKind.i64.wrap ((IntKind.i64.wrap ((IntKind.i64.wrap (byteAt x1 x2)) - 240)) * 262144)) + (IntKind.i64.wrap (r3 * 4096)))) + (IntKind.i64.wrap (r4 * 64)))) + r5)) ≤ 1114111))
                                (k (IntKind.i64.wrap ((IntKind.i64.wrap ((IntKind.i64.wrap ((IntKind.i64.wrap ((IntKind.i64.wrap ((IntKind.i64.wrap (byteAt x1 x2)) - 240)) * 262144)) + (IntKind.i64.wrap (r3 * 4096)))) + (IntKind.i64.wrap (r4 * 64)))) + r5)) 4)
                                (k 0 0))
                              (k 0 0))
                            (k 0 0))
                          (k 0 0))
                        (k 0 0))
                      (k 0 0))
                    (k 0 0))))
              (cond (decide ((IntKind.i64.wrap (byteAt x1 x2)) ≥ 224))
                (cond (decide ((IntKind.i64.wrap (byteAt x1 x2)) ≤ 239))
                  (cond (decide (r3 ≥ 0))
                    (cond (decide (r4 ≥ 0))
                      (cond (decide ((IntKind.i64.wrap ((IntKind.i64.wrap ((IntKind.i64.wrap ((IntKind.i64.wrap ((IntKind.i64.wrap (byteAt x1 x2)) - 224)) * 4096)) + (IntKind.i64.wrap (r3 * 64)))) + r4)) ≥ 2048))
                        (cond (!(decide ((IntKind.i64.wrap ((IntKind.i64.wrap ((IntKind.i64.wrap ((IntKind.i64.wrap ((IntKind.i64.wrap (byteAt x1 x2)) - 224)) * 4096)) + (IntKind.i64.wrap (r3 * 64)))) + r4)) < 55296)))
                          (cond (decide ((IntKind.i64.wrap ((IntKind.i64.wrap ((IntKind.i64.wrap ((IntKind.i64.wrap ((IntKind.i64.wrap (byteAt x1 x2)) - 224)) * 4096)) + (IntKind.i64.wrap (r3 * 64)))) + r4)) > 57343))
                            (k (IntKind.i64.wrap ((IntKind.i64.wrap ((IntKind.i64.wrap ((IntKind.i64.wrap ((IntKind.i64.wrap (byteAt x1 x2)) - 224)) * 4096)) + (IntKind.i64.wrap (r3 * 64)))) + r4)) 3)
                            (k 0 0))
                          (k (IntKind.i64.wrap ((IntKind.i64.wrap ((IntKind.i64.wrap ((IntKind.i64.wrap ((IntKind.i64.wrap (byteAt x1 x2)) - 224)) * 4096)) + (IntKind.i64.wrap (r3 * 64)))) + r4)) 3))
                        (k 0 0))
                      (cond (decide ((IntKind.i64.wrap (byteAt x1 x2)) ≥ 240))
                        (cond (decide ((IntKind.i64.wrap (byteAt x1 x2)) ≤ 244))
                          (cond (decide (r3 ≥ 0))
                            (cond (decide (r4 ≥ 0))
                              (cond (decide (r5 ≥ 0))
                                (cond (decide ((IntKind.i64.wrap ((IntKind.i64.wrap ((IntKind.i64.wrap ((IntKind.i64.wrap ((IntKind.i64.wrap ((IntKind.i64.wrap (byteAt x1 x2)) - 240)) * 262144)) + (IntKind.i64.wrap (r3 * 4096)))) + (IntKind.i64.wrap (r4 * 64)))) + r5)) ≥ 65536))
                                  (cond (decide ((IntKind.i64.wrap ((IntKind.i64.wrap ((IntKind.i64.wrap ((IntKind.i64.wrap ((IntKind.i64.wrap ((IntKind.i64.wrap (byteAt x1 x2)) - 240)) * 262144)) + (IntKind.i64.wrap (r3 * 4096)))) + (IntKind.i64.wrap (r4 * 64)))) + r5)) ≤ 1114111))
                                    (k (IntKind.i64.wrap ((IntKind.i64.wrap ((IntKind.i64.wrap ((IntKind.i64.wrap ((IntKind.i64.wrap ((IntKind.i64.wrap (byteAt x1 x2)) - 240)) * 262144)) + (IntKind.i64.wrap (r3 * 4096)))) + (IntKind.i64.wrap (r4 * 64)))) + r5)) 4)
                                    (k 0 0))
                                  (k 0 0))
                                (k 0 0))
                              (k 0 0))
                            (k 0 0))
                          (k 0 0))
                        (k 0 0)))
                    (cond (decide ((IntKind.i64.wrap (byteAt x1 x2)) ≥ 240))
                      (cond (decide ((IntKind.i64.wrap (byteAt x1 x2)) ≤ 244))
                        (cond (decide (r3 ≥ 0))
                          (cond (decide (r4 ≥ 0))
                            (cond (decide (r5 ≥ 0))
                              (cond (decide ((IntKind.i64.wrap ((IntKind.i64.wrap ((IntKind.i64.wrap ((IntKind.i64.wrap ((IntKind.i64.wrap ((IntKind.i64.wrap (byteAt x1 x2)) - 240)) * 262144)) + (IntKind.i64.wrap (r3 * 4096)))) + (IntKind.i64.wrap (r4 * 64)))) + r5)) ≥ 65536))
                                (cond (decide ((IntKind.i64.wrap ((IntKind.i64.wrap ((IntKind.i64.wrap ((IntKind.i64.wrap ((IntKind.i64.wrap ((IntKind.i64.wrap (byteAt x1 x2)) - 240)) * 262144)) + (IntKind.i64.wrap (r3 * 4096)))) + (IntKind.i64.wrap (r4 * 64)))) + r5)) ≤ 1114111))
                                  (k (IntKind.i64.wrap ((IntKind.i64.wrap ((IntKind.i64.wrap ((IntKind.i64.wrap ((IntKind.i64.wrap ((IntKind.i64.wrap (byteAt x1 x2)) - 240)) * 262144)) + (IntKind.i64.wrap (r3 * 4096)))) + (IntKind.i64.wrap (r4 * 64)))) + r5)) 4)
                                  (k 0 0))
                                (k 0 0))
                              (k 0 0))
                            (k 0 0))
                          (k 0 0))
                        (k 0 0))
                      (k 0 0)))
                  (cond (decide ((IntKind.i64.wrap (byteAt x1 x2)) ≥ 240))
                    (cond (decide ((IntKind.i64.wrap (byteAt x1 x2)) ≤ 244))
                      (cond (decide (r3 ≥ 0))
                        (cond (decide (r4 ≥ 0))
                          (cond (decide (r5 ≥ 0))
                            (cond (decide ((IntKind.i64.wrap ((IntKind.i64.wrap ((IntKind.i64.wrap ((IntKind.i64.wrap ((IntKind.i64.wrap ((IntKind.i64.wrap (byteAt x1 x2)) - 240)) * 262144)) + (IntKind.i64.wrap (r3 * 4096)))) + (IntKind.i64.wrap (r4 * 64)))) + r5)) ≥ 65536))
                              (cond (decide ((IntKind.i64.wrap ((IntKind.i64.wrap ((IntKind.i64.wrap ((IntKind.i64.wrap ((IntKind.i64.wrap ((IntKind.i64.wrap (byteAt x1 x2)) - 240)) * 262144)) + (IntKind.i64.wrap (r3 * 4096)))) + (IntKind.i64.wrap (r4 * 64)))) + r5)) ≤ 1114111))
                                (k (IntKind.i64.wrap ((IntKind.i64.wrap ((IntKind.i64.wrap ((IntKind.i64.wrap ((IntKind.i64.wrap ((IntKind.i64.wrap (byteAt x1 x2)) - 240)) * 262144)) + (IntKind.i64.wrap (r3 * 4096)))) + (IntKind.i64.wrap (r4 * 64)))) + r5)) 4)
                                (k 0 0))
                              (k 0 0))
                            (k 0 0))
                          (k 0 0))
                        (k 0 0))
                      (k 0 0))
                    (k 0 0)))
                (cond (decide ((IntKind.i64.wrap (byteAt x1 x2)) ≥ 240))
                  (cond (decide ((IntKind.i64.wrap (byteAt x1 x2)) ≤ 244))
                    (cond (decide (r3 ≥ 0))
                      (cond (decide (r4 ≥ 0))
                        (cond (decide (r5 ≥ 0))
                          (cond (decide ((IntKind.i64.wrap ((IntKind.i64.wrap ((IntKind.i64.wrap ((IntKind.i64.wrap ((IntKind.i64.wrap ((IntKind.i64.wrap (byteAt x1 x2)) - 240)) * 262144)) + (IntKind.i64.wrap (r3 * 4096)))) + (IntKind.i64.wrap (r4 * 64)))) + r5)) ≥ 65536))
                            (cond (decide ((IntKind.i64.wrap ((IntKind.i64.wrap ((IntKind.i64.wrap ((IntKind.i64.wrap ((IntKind.i64.wrap ((IntKind.i64.wrap (byteAt x1 x2)) - 240)) * 262144)) + (IntKind.i64.wrap (r3 * 4096)))) + (IntKind.i64.wrap (r4 * 64)))) + r5)) ≤ 1114111))
                              (k (IntKind.i64.wrap ((IntKind.i64.wrap ((IntKind.i64.wrap ((IntKind.i64.wrap ((IntKind.i64.wrap ((IntKind.i64.wrap (byteAt x1 x2)) - 240)) * 262144)) + (IntKind.i64.wrap (r3 * 4096)))) + (IntKind.i64.wrap (r4 * 64)))) + r5)) 4)
                              (k 0 0))
                            (k 0 0))
                          (k 0 0))
                        (k 0 0))
                      (k 0 0))
                    (k 0 0))
                  (k 0 0))))))))
    none)

noncomputable def draymanref02_One {α : Type} : draymanref02_One_T α := draymanref02_One_g draymanref02_more

noncomputable def draymanref02_One_sp {α : Type} (draymanref02_One : draymanref02_One_T α) : FunSpec α := ⟨27, [.str, .int .i64], [], fun ds k => draymanref02_One (hdS ds) (hdI ds.tail) (fun r1 r2 => k (enc dep (.tup [.int .i64, .int .i64]) [.i r1, .i r2]).1 [])⟩

noncomputable def draymanref02_One_spec {α : Type} : FunSpec α := draymanref02_One_sp draymanref02_One

noncomputable def draymanref02_One_C {α : Type} (draymanref02_more : draymanref02_more_T α) : List (FunSpec α) := [draymanref02_more_sp draymanref02_more]

noncomputable def draymanref02_One_q : FuncId → Bool := fun f => Nat.beq f 31

noncomputable def draymanref02_One_inl : FuncId → Bool := fun f => false

noncomputable def draymanref02_One_ann : FuncId → AnnT := fun f p => ⟨[], [], [], [], 0, [], []⟩

noncomputable def draymanref02_One_loops {α : Type} (draymanref02_more : draymanref02_more_T α) : List (LoopSpec α) := []

theorem draymanref02_One_ev {α : Type} (draymanref02_more : draymanref02_more_T α) : EvOk (α := α) Go.Proofs.Tryd.prog (envOf (draymanref02_One_C draymanref02_more) draymanref02_One_q draymanref02_One_inl 1000 draymanref02_One_ann false (draymanref02_One_loops draymanref02_more) (fun _ => none)) 6 (draymanref02_One_sp (draymanref02_One_g draymanref02_more)) := by intro ds k; kernel_rfl

theorem draymanref02_One_ok {α : Type} : (draymanref02_One_spec : FunSpec α).ok Go.Proofs.Tryd.prog :=
  FunSpec.ok_of (sp := draymanref02_One_spec) (C := draymanref02_One_C draymanref02_more) (q := draymanref02_One_q) (inl := draymanref02_One_inl) (N := 1000) (ann := draymanref02_One_ann) (fr := false) (D := 6) (l := (draymanref02_One_loops draymanref02_more)) (hk := (fun _ => none)) (okCons draymanref02_more_ok okNil) lokNil noHooks (draymanref02_One_ev draymanref02_more)

end
end Go.Rv.Tryd

set_option linter.unusedVariables false
set_option maxRecDepth 100000
set_option maxHeartbeats 4000000
namespace Go.Rv.Tryd
open Go Go.Rv Go.RowKit
noncomputable section

-- drayman/draymanref02.Runes

abbrev draymanref02_Runes_T (α : Type) : Type := ByteArray → ((Seq (Int × Unit)) → Bool → Option α) → Option α

noncomputable def draymanref02_Runes_l0_step {α : Type} (draymanref02_One : draymanref02_One_T α) (kr : (Seq (Int × Unit)) → (Bool) → (Seq (Int × Unit)) → (Seq (Int × Unit)) → Option α) (k0 : (Seq (Int × Unit)) → (Seq (Int × Unit)) → Option α) (rec : (ByteArray) → (Int) → (Seq (Int × Unit)) → (Seq (Int × Unit)) → Option α) (s2 : ByteArray) (i3 : Int) (q4 : Seq (Int × Unit)) (q5 : Seq (Int × Unit)) : Option α :=
  (cond (decide (i3 < (s2.size : Int)))
    (draymanref02_One s2 i3 fun r6 r7 =>
      (cond (r7 == 0)
        (kr (⟨true, 0, (fun _ => (0, ()))⟩ : Seq (Int × Unit)) false q4 q5)
        (cond (decide (((q5.n + 1)) * 8 ≤ 140737488355328))
          (rec s2 (IntKind.i64.wrap (i3 + r7)) q4 (⟨(q5.nl && false), (q5.n + 1), (tApp q5.n q5.g (fun _ => (r6, ())))⟩ : Seq (Int × Unit)))
          none)))
    (k0 q4 q5))

noncomputable def draymanref02_Runes_l0_run {α : Type} (draymanref02_One : draymanref02_One_T α) (kr : (Seq (Int × Unit)) → (Bool) → (Seq (Int × Unit)) → (Seq (Int × Unit)) → Option α) (k0 : (Seq (Int × Unit)) → (Seq (Int × Unit)) → Option α) : Nat → (ByteArray) → (Int) → (Seq (Int × Unit)) → (Seq (Int × Unit)) → Option α
  | 0, _, _, _, _ => none
  | n + 1, s2, i3, q4, q5 => draymanref02_Runes_l0_step draymanref02_One kr k0 (fun s2 i3 q4 q5 => draymanref02_Runes_l0_run draymanref02_One kr k0 n s2 i3 q4 q5) s2 i3 q4 q5

noncomputable def draymanref02_Runes_g {α : Type} (draymanref02_One : draymanref02_One_T α) (s1 : ByteArray) (k : (Seq (Int × Unit)) → Bool → Option α) : Option α :=
  (draymanref02_Runes_l0_run draymanref02_One
    (fun x8 x9 q10 q11 =>
      (k x8 x9))
    (fun q12 q13 =>
      (k q13 true))
    1000 s1 0 (⟨true, 0, (fun _ => (0, ()))⟩ : Seq (Int × Unit)) (⟨true, 0, (fun _ => (0, ()))⟩ : Seq (Int × Unit)))

noncomputable def draymanref02_Runes {α : Type} : draymanref02_Runes_T α := draymanref02_Runes_g draymanref02_One

noncomputable def draymanref02_Runes_sp {α : Type} (draymanref02_Runes : draymanref02_Runes_T α) : FunSpec α := ⟨19, [.str], [], fun ds k => draymanref02_Runes (hdS ds) (fun r1 r2 => k (enc dep (.tup [.sl (.int .i64 (.nil)), .bool]) [.q (.int .i64 (.nil)) r1, .b r2]).1 [])⟩

noncomputable def draymanref02_Runes_spec {α : Type} : FunSpec α := draymanref02_Runes_sp draymanref02_Runes

noncomputable def draymanref02_Runes_C {α : Type} (draymanref02_One : draymanref02_One_T α) : List (FunSpec α) := [draymanref02_One_sp draymanref02_One]

noncomputable def draymanref02_Runes_q : FuncId → Bool := fun f => Nat.beq f 27

noncomputable def draymanref02_Runes_inl : FuncId → Bool := fun f => false

noncomputable def draymanref02_Runes_ann : FuncId → AnnT := fun f p => if f = 19 then (if p = [true, false, true, true] then ⟨[0, 4, 5], [0, 1], [4], [2, 3], 0, [], []⟩ else ⟨[], [], [], [], 0, [], []⟩) else ⟨[], [], [], [], 0, [], []⟩

noncomputable def draymanref02_Runes_l0_t : List Sh := [.str, .dead, .dead, .dead, .own 1, .int .i64, .dead, .dead, .dead, .dead, .dead, .dead, .dead, .dead, .dead, .dead, .dead, .dead, .dead, .dead, .dead, .dead, .dead, .dead, .dead, .dead, .dead, .dead]
noncomputable def draymanref02_Runes_l0_s : List (List Sh) := []
noncomputable def draymanref02_Runes_l0_h : List BSh := [.row true (.int .i64 (.nil)), .row true (.int .i64 (.nil))]

noncomputable def draymanref02_Runes_l0_spec {α : Type} (draymanref02_One : draymanref02_One_T α) : LoopSpec α := ⟨6, 19, [true, false, true, true], draymanref02_Runes_l0_t, draymanref02_Runes_l0_s, draymanref02_Runes_l0_h, fun ds k => draymanref02_Runes_l0_run draymanref02_One (fun y1 y2 y3 y4 => k .ret (encSt [.dead, .dead, .sl (.int .i64 (.nil)), .bool, .dead, .dead, .dead, .dead, .dead, .dead, .dead, .dead, .dead, .dead, .dead, .dead, .dead, .dead, .dead, .dead, .dead, .dead, .dead, .dead, .dead, .dead, .dead, .dead] [] [.row true (.int .i64 (.nil)), .row true (.int .i64 (.nil))] [.q (.int .i64 (.nil)) y1, .b y2, .q (.int .i64 (.nil)) y3, .q (.int .i64 (.nil)) y4])) (fun y1 y2 => k (.exit 0) (encSt [.dead, .dead, .dead, .dead, .own 1, .dead, .dead, .dead, .dead, .dead, .dead, .dead, .dead, .dead, .dead, .dead, .dead, .dead, .dead, .dead, .dead, .dead, .dead, .dead, .dead, .dead, .dead, .dead] [] [.row true (.int .i64 (.nil)), .row true (.int .i64 (.nil))] [.q (.int .i64 (.nil)) y1, .q (.int .i64 (.nil)) y2])) 1000 (hdS ds) (hdI ds.tail) (hdQ (.int .i64 (.nil)) ds.tail.tail) (hdQ (.int .i64 (.nil)) ds.tail.tail.tail)⟩

noncomputable def draymanref02_Runes_loops {α : Type} (draymanref02_One : draymanref02_One_T α) : List (LoopSpec α) := [draymanref02_Runes_l0_spec draymanref02_One]

noncomputable def draymanref02_Runes_l0_ev {α : Type} (draymanref02_One : draymanref02_One_T α) (n : Nat) (st : St) (k : X → St → Option α) : Option α := loopN (evCode Go.Proofs.Tryd.prog (callD Go.Proofs.Tryd.prog (envOf (draymanref02_Runes_C draymanref02_One) draymanref02_Runes_q draymanref02_Runes_inl 1000 draymanref02_Runes_ann true (draymanref02_Runes_loops draymanref02_One) (fun _ => none)) 6) (((envOf (draymanref02_Runes_C draymanref02_One) draymanref02_Runes_q draymanref02_Runes_inl 1000 draymanref02_Runes_ann true (draymanref02_Runes_loops draymanref02_One) (fun _ => none)) : Env α).L 6 19) 1000 (draymanref02_Runes_ann 19) (false :: [true, false, true, true]) (loopC Go.Proofs.Tryd.prog 19 [true, false, true, true])) ((draymanref02_Runes_ann 19 [true, false, true, true]).head 2) ((draymanref02_Runes_ann 19 [true, false, true, true]).leave 2) n st k

theorem draymanref02_Runes_l0_eq {α : Type} (draymanref02_One : draymanref02_One_T α) : ∀ (n : Nat) (s2 : ByteArray) (i3 : Int) (q4 : Seq (Int × Unit)) (q5 : Seq (Int × Unit)) (k : X → St → Option α), draymanref02_Runes_l0_ev draymanref02_One n (encSt draymanref02_Runes_l0_t draymanref02_Runes_l0_s draymanref02_Runes_l0_h [.s s2, .i i3, .q (.int .i64 (.nil)) q4, .q (.int .i64 (.nil)) q5]) k = draymanref02_Runes_l0_run draymanref02_One (fun y1 y2 y3 y4 => k .ret (encSt [.dead, .dead, .sl (.int .i64 (.nil)), .bool, .dead, .dead, .dead, .dead, .dead, .dead, .dead, .dead, .dead, .dead, .dead, .dead, .dead, .dead, .dead, .dead, .dead, .dead, .dead, .dead, .dead, .dead, .dead, .dead] [] [.row true (.int .i64 (.nil)), .row true (.int .i64 (.nil))] [.q (.int .i64 (.nil)) y1, .b y2, .q (.int .i64 (.nil)) y3, .q (.int .i64 (.nil)) y4])) (fun y1 y2 => k (.exit 0) (encSt [.dead, .dead, .dead, .dead, .own 1, .dead, .dead, .dead, .dead, .dead, .dead, .dead, .dead, .dead, .dead, .dead, .dead, .dead, .dead, .dead, .dead, .dead, .dead, .dead, .dead, .dead, .dead, .dead] [] [.row true (.int .i64 (.nil)), .row true (.int .i64 (.nil))] [.q (.int .i64 (.nil)) y1, .q (.int .i64 (.nil)) y2])) n s2 i3 q4 q5 := by
  intro n
  induction n with
  | zero => intros; kernel_rfl
  | succ n ih =>
    intro s2 i3 q4 q5 k
    have e : (fun (s2 : ByteArray) (i3 : Int) (q4 : Seq (Int × Unit)) (q5 : Seq (Int × Unit)) => draymanref02_Runes_l0_ev draymanref02_One n (encSt draymanref02_Runes_l0_t draymanref02_Runes_l0_s draymanref02_Runes_l0_h [.s s2, .i i3, .q (.int .i64 (.nil)) q4, .q (.int .i64 (.nil)) q5]) k) = (fun (s2 : ByteArray) (i3 : Int) (q4 : Seq (Int × Unit)) (q5 : Seq (Int × Unit)) => draymanref02_Runes_l0_run draymanref02_One (fun y1 y2 y3 y4 => k .ret (encSt [.dead, .dead, .sl (.int .i64 (.nil)), .bool, .dead, .dead, .dead, .dead, .dead, .dead, .dead, .dead, .dead, .dead, .dead, .dead, .dead, .dead, .dead, .dead, .dead, .dead, .dead, .dead, .dead, .dead, .dead, .dead] [] [.row true (.int .i64 (.nil)), .row true (.int .i64 (.nil))] [.q (.int .i64 (.nil)) y1, .b y2, .q (.int .i64 (.nil)) y3, .q (.int .i64 (.nil)) y4])) (fun y1 y2 => k (.exit 0) (encSt [.dead, .dead, .dead, .dead, .own 1, .dead, .dead, .dead, .dead, .dead, .dead, .dead, .dead, .dead, .dead, .dead, .dead, .dead, .dead, .dead, .dead, .dead, .dead, .dead, .dead, .dead, .dead, .dead] [] [.row true (.int .i64 (.nil)), .row true (.int .i64 (.nil))] [.q (.int .i64 (.nil)) y1, .q (.int .i64 (.nil)) y2])) n s2 i3 q4 q5) := by
      funext s2 i3 q4 q5
      exact ih s2 i3 q4 q5 k
    have h1 : draymanref02_Runes_l0_ev draymanref02_One (n + 1) (encSt draymanref02_Runes_l0_t draymanref02_Runes_l0_s draymanref02_Runes_l0_h [.s s2, .i i3, .q (.int .i64 (.nil)) q4, .q (.int .i64 (.nil)) q5]) k = draymanref02_Runes_l0_step draymanref02_One (fun y1 y2 y3 y4 => k .ret (encSt [.dead, .dead, .sl (.int .i64 (.nil)), .bool, .dead, .dead, .dead, .dead, .dead, .dead, .dead, .dead, .dead, .dead, .dead, .dead, .dead, .dead, .dead, .dead, .dead, .dead, .dead, .dead, .dead, .dead, .dead, .dead] [] [.row true (.int .i64 (.nil)), .row true (.int .i64 (.nil))] [.q (.int .i64 (.nil)) y1, .b y2, .q (.int .i64 (.nil)) y3, .q (.int .i64 (.nil)) y4])) (fun y1 y2 => k (.exit 0) (encSt [.dead, .dead, .dead, .dead, .own 1, .dead, .dead, .dead, .dead, .dead, .dead, .dead, .dead, .dead, .dead, .dead, .dead, .dead, .dead, .dead, .dead, .dead, .dead, .dead, .dead, .dead, .dead, .dead] [] [.row true (.int .i64 (.nil)), .row true (.int .i64 (.nil))] [.q (.int .i64 (.nil)) y1, .q (.int .i64 (.nil)) y2])) (fun (s2 : ByteArray) (i3 : Int) (q4 : Seq (Int × Unit)) (q5 : Seq (Int × Unit)) => draymanref02_Runes_l0_ev draymanref02_One n (encSt draymanref02_Runes_l0_t draymanref02_Runes_l0_s draymanref02_Runes_l0_h [.s s2, .i i3, .q (.int .i64 (.nil)) q4, .q (.int .i64 (.nil)) q5]) k) s2 i3 q4 q5 := by kernel_rfl
    have h2 := congrArg (fun r => draymanref02_Runes_l0_step draymanref02_One (fun y1 y2 y3 y4 => k .ret (encSt [.dead, .dead, .sl (.int .i64 (.nil)), .bool, .dead, .dead, .dead, .dead, .dead, .dead, .dead, .dead, .dead, .dead, .dead, .dead, .dead, .dead, .dead, .dead, .dead, .dead, .dead, .dead, .dead, .dead, .dead, .dead] [] [.row true (.int .i64 (.nil)), .row true (.int .i64 (.nil))] [.q (.int .i64 (.nil)) y1, .b y2, .q (.int .i64 (.nil)) y3, .q (.int .i64 (.nil)) y4])) (fun y1 y2 => k (.exit 0) (encSt [.dead, .dead, .dead, .dead, .own 1, .dead, .dead, .dead, .dead, .dead, .dead, .dead, .dead, .dead, .dead, .dead, .dead, .dead, .dead, .dead, .dead, .dead, .dead, .dead, .dead, .dead, .dead, .dead] [] [.row true (.int .i64 (.nil)), .row true (.int .i64 (.nil))] [.q (.int .i64 (.nil)) y1, .q (.int .i64 (.nil)) y2])) r s2 i3 q4 q5) e
    have h3 : draymanref02_Runes_l0_step draymanref02_One (fun y1 y2 y3 y4 => k .ret (encSt [.dead, .dead, .sl (.int .i64 (.nil)), .bool, .dead, .dead, .dead, .dead, .dead, .dead, .dead, .dead, .dead, .dead, .dead, .dead, .dead, .dead, .dead, .dead, .dead, .dead, .dead, .dead, .dead, .dead, .dead, .dead] [] [.row true (.int .i64 (.nil)), .row true (.int .i64 (.nil))] [.q (.int .i64 (.nil)) y1, .b y2, .q (.int .i64 (.nil)) y3, .q (.int .i64 (.nil)) y4])) (fun y1 y2 => k (.exit 0) (encSt [.dead, .dead, .dead, .dead, .own 1, .dead, .dead, .dead, .dead, .dead, .dead, .dead, .dead, .dead, .dead, .dead, .dead, .dead, .dead, .dead, .dead, .dead, .dead, .dead, .dead, .dead, .dead, .dead] [] [.row true (.int .i64 (.nil)), .row true (.int .i64 (.nil))] [.q (.int .i64 (.nil)) y1, .q (.int .i64 (.nil)) y2])) (fun (s2 : ByteArray) (i3 : Int) (q4 : Seq (Int × Unit)) (q5 : Seq (Int × Unit)) => draymanref02_Runes_l0_run draymanref02_One (fun y1 y2 y3 y4 => k .ret (encSt [.dead, .dead, .sl (.int .i64 (.nil)), .bool, .dead, .dead, .dead, .dead, .dead, .dead, .dead, .dead, .dead, .dead, .dead, .dead, .dead, .dead, .dead, .dead, .dead, .dead, .dead, .dead, .dead, .dead, .dead, .dead] [] [.row true (.int .i64 (.nil)), .row true (.int .i64 (.nil))] [.q (.int .i64 (.nil)) y1, .b y2, .q (.int .i64 (.nil)) y3, .q (.int .i64 (.nil)) y4])) (fun y1 y2 => k (.exit 0) (encSt [.dead, .dead, .dead, .dead, .own 1, .dead, .dead, .dead, .dead, .dead, .dead, .dead, .dead, .dead, .dead, .dead, .dead, .dead, .dead, .dead, .dead, .dead, .dead, .dead, .dead, .dead, .dead, .dead] [] [.row true (.int .i64 (.nil)), .row true (.int .i64 (.nil))] [.q (.int .i64 (.nil)) y1, .q (.int .i64 (.nil)) y2])) n s2 i3 q4 q5) s2 i3 q4 q5 = draymanref02_Runes_l0_run draymanref02_One (fun y1 y2 y3 y4 => k .ret (encSt [.dead, .dead, .sl (.int .i64 (.nil)), .bool, .dead, .dead, .dead, .dead, .dead, .dead, .dead, .dead, .dead, .dead, .dead, .dead, .dead, .dead, .dead, .dead, .dead, .dead, .dead, .dead, .dead, .dead, .dead, .dead] [] [.row true (.int .i64 (.nil)), .row true (.int .i64 (.nil))] [.q (.int .i64 (.nil)) y1, .b y2, .q (.int .i64 (.nil)) y3, .q (.int .i64 (.nil)) y4])) (fun y1 y2 => k (.exit 0) (encSt [.dead, .dead, .dead, .dead, .own 1, .dead, .dead, .dead, .dead, .dead, .dead, .dead, .dead, .dead, .dead, .dead, .dead, .dead, .dead, .dead, .dead, .dead, .dead, .dead, .dead, .dead, .dead, .dead] [] [.row true (.int .i64 (.nil)), .row true (.int .i64 (.nil))] [.q (.int .i64 (.nil)) y1, .q (.int .i64 (.nil)) y2])) (n + 1) s2 i3 q4 q5 := by kernel_rfl
    exact h1.trans (h2.trans h3)

theorem draymanref02_Runes_l0_ok {α : Type} (draymanref02_One : draymanref02_One_T α) : (draymanref02_Runes_l0_spec draymanref02_One : LoopSpec α).ok Go.Proofs.Tryd.prog (envOf (draymanref02_Runes_C draymanref02_One) draymanref02_Runes_q draymanref02_Runes_inl 1000 draymanref02_Runes_ann true (draymanref02_Runes_loops draymanref02_One) (fun _ => none)) := by
  intro ds k
  have h1 : draymanref02_Runes_l0_ev draymanref02_One 1000 (encSt draymanref02_Runes_l0_t draymanref02_Runes_l0_s draymanref02_Runes_l0_h ds) k = draymanref02_Runes_l0_ev draymanref02_One 1000 (encSt draymanref02_Runes_l0_t draymanref02_Runes_l0_s draymanref02_Runes_l0_h [.s (hdS ds), .i (hdI ds.tail), .q (.int .i64 (.nil)) (hdQ (.int .i64 (.nil)) ds.tail.tail), .q (.int .i64 (.nil)) (hdQ (.int .i64 (.nil)) ds.tail.tail.tail)]) k := by kernel_rfl
  have h2 := draymanref02_Runes_l0_eq draymanref02_One 1000 (hdS ds) (hdI ds.tail) (hdQ (.int .i64 (.nil)) ds.tail.tail) (hdQ (.int .i64 (.nil)) ds.tail.tail.tail) k
  exact h1.trans h2

theorem draymanref02_Runes_ev {α : Type} (draymanref02_One : draymanref02_One_T α) : EvOk (α := α) Go.Proofs.Tryd.prog (envOf (draymanref02_Runes_C draymanref02_One) draymanref02_Runes_q draymanref02_Runes_inl 1000 draymanref02_Runes_ann true (draymanref02_Runes_loops draymanref02_One) (fun _ => none)) 6 (draymanref02_Runes_sp (draymanref02_Runes_g draymanref02_One)) := by intro ds k; kernel_rfl

theorem draymanref02_Runes_ok {α : Type} : (draymanref02_Runes_spec : FunSpec α).ok Go.Proofs.Tryd.prog :=
  FunSpec.ok_of (sp := draymanref02_Runes_spec) (C := draymanref02_Runes_C draymanref02_One) (q := draymanref02_Runes_q) (inl := draymanref02_Runes_inl) (N := 1000) (ann := draymanref02_Runes_ann) (fr := true) (D := 6) (l := (draymanref02_Runes_loops draymanref02_One)) (hk := (fun _ => none)) (okCons draymanref02_One_ok okNil) (lokCons (draymanref02_Runes_l0_ok draymanref02_One) lokNil) noHooks (draymanref02_Runes_ev draymanref02_One)

end
end Go.Rv.Tryd

set_option linter.unusedVariables false
set_option maxRecDepth 100000
set_option maxHeartbeats 4000000
namespace Go.Rv.Tryd
open Go Go.Rv Go.RowKit
noncomputable section

-- drayman/draymanref02.Rune

abbrev draymanref02_Rune_T (α : Type) : Type := Int → (Bool → Option α) → Option α

noncomputable def draymanref02_Rune {α : Type} (n1 : Int) (k : Bool → Option α) : Option α :=
  (cond (decide (n1 ≥ 97))
    (cond (!(decide (n1 ≤ 122)))
      (cond (decide (n1 ≥ 48))
        (cond (!(decide (n1 ≤ 57)))
          (cond (!(n1 == 45))
            (cond (decide (n1 ≥ 223))
              (cond (decide (n1 ≤ 255))
                (k (n1 != 247))
                (k false))
              (k false))
            (k true))
          (k true))
        (cond (!(n1 == 45))
          (cond (decide (n1 ≥ 223))
            (cond (decide (n1 ≤ 255))
              (k (n1 != 247))
              (k false))
            (k false))
          (k true)))
      (k true))
    (cond (decide (n1 ≥ 48))
      (cond (!(decide (n1 ≤ 57)))
        (cond (!(n1 == 45))
          (cond (decide (n1 ≥ 223))
            (cond (decide (n1 ≤ 255))
              (k (n1 != 247))
              (k false))
            (k false))
          (k true))
        (k true))
      (cond (!(n1 == 45))
        (cond (decide (n1 ≥ 223))
          (cond (decide (n1 ≤ 255))
            (k (n1 != 247))
            (k false))
          (k false))
        (k true))))

noncomputable def draymanref02_Rune_sp {α : Type} (draymanref02_Rune : draymanref02_Rune_T α) : FunSpec α := ⟨10, [.int .i64], [], fun ds k => draymanref02_Rune (hdI ds) (fun r1 => k (enc dep (.bool) [.b r1]).1 [])⟩

noncomputable def draymanref02_Rune_spec {α : Type} : FunSpec α := draymanref02_Rune_sp draymanref02_Rune

noncomputable def draymanref02_Rune_C {α : Type} : List (FunSpec α) := []

noncomputable def draymanref02_Rune_q : FuncId → Bool := fun f => false

noncomputable def draymanref02_Rune_inl : FuncId → Bool := fun f => false

noncomputable def draymanref02_Rune_ann : FuncId → AnnT := fun f p => ⟨[], [], [], [], 0, [], []⟩

noncomputable def draymanref02_Rune_loops {α : Type} : List (LoopSpec α) := []

theorem draymanref02_Rune_ev {α : Type} : EvOk (α := α) Go.Proofs.Tryd.prog (envOf (draymanref02_Rune_C) draymanref02_Rune_q draymanref02_Rune_inl 1000 draymanref02_Rune_ann false (draymanref02_Rune_loops) (fun _ => none)) 6 (draymanref02_Rune_sp (draymanref02_Rune)) := by intro ds k; kernel_rfl

theorem draymanref02_Rune_ok {α : Type} : (draymanref02_Rune_spec : FunSpec α).ok Go.Proofs.Tryd.prog :=
  FunSpec.ok_of (sp := draymanref02_Rune_spec) (C := draymanref02_Rune_C) (q := draymanref02_Rune_q) (inl := draymanref02_Rune_inl) (N := 1000) (ann := draymanref02_Rune_ann) (fr := false) (D := 6) (l := (draymanref02_Rune_loops)) (hk := (fun _ => none)) okNil lokNil noHooks (draymanref02_Rune_ev)

end
end Go.Rv.Tryd

set_option linter.unusedVariables false
set_option maxRecDepth 100000
set_option maxHeartbeats 4000000
namespace Go.Rv.Tryd
open Go Go.Rv Go.RowKit
noncomputable section

-- drayman/draymanref02.octets

abbrev draymanref02_octets_T (α : Type) : Type := Int → (ByteArray → Option α) → Option α

noncomputable def draymanref02_octets {α : Type} (n1 : Int) (k : ByteArray → Option α) : Option α :=
  (cond (decide (n1 < 128))
    (k (bytesT 1 (fun _ => ((IntKind.u8.wrap n1), ()))))
    (k (bytesT 2 (tSel [((IntKind.u8.wrap (IntKind.i64.wrap (192 + (IntKind.i64.wrap (Int.tdiv n1 64))))), ()), ((IntKind.u8.wrap (IntKind.i64.wrap (128 + (Int.tmod n1 64)))), ())] (0, ())))))

noncomputable def draymanref02_octets_sp {α : Type} (draymanref02_octets : draymanref02_octets_T α) : FunSpec α := ⟨26, [.int .i64], [], fun ds k => draymanref02_octets (hdI ds) (fun r1 => k (enc dep (.str) [.s r1]).1 [])⟩

noncomputable def draymanref02_octets_spec {α : Type} : FunSpec α := draymanref02_octets_sp draymanref02_octets

noncomputable def draymanref02_octets_C {α : Type} : List (FunSpec α) := []

noncomputable def draymanref02_octets_q : FuncId → Bool := fun f => false

noncomputable def draymanref02_octets_inl : FuncId → Bool := fun f => false

noncomputable def draymanref02_octets_ann : FuncId → AnnT := fun f p => ⟨[], [], [], [], 0, [], []⟩

noncomputable def draymanref02_octets_loops {α : Type} : List (LoopSpec α) := []

theorem draymanref02_octets_ev {α : Type} : EvOk (α := α) Go.Proofs.Tryd.prog (envOf (draymanref02_octets_C) draymanref02_octets_q draymanref02_octets_inl 1000 draymanref02_octets_ann false (draymanref02_octets_loops) (fun _ => none)) 6 (draymanref02_octets_sp (draymanref02_octets)) := by intro ds k; kernel_rfl

theorem draymanref02_octets_ok {α : Type} : (draymanref02_octets_spec : FunSpec α).ok Go.Proofs.Tryd.prog :=
  FunSpec.ok_of (sp := draymanref02_octets_spec) (C := draymanref02_octets_C) (q := draymanref02_octets_q) (inl := draymanref02_octets_inl) (N := 1000) (ann := draymanref02_octets_ann) (fr := false) (D := 6) (l := (draymanref02_octets_loops)) (hk := (fun _ => none)) okNil lokNil noHooks (draymanref02_octets_ev)

end
end Go.Rv.Tryd

set_option linter.unusedVariables false
set_option maxRecDepth 100000
set_option maxHeartbeats 4000000
namespace Go.Rv.Tryd
open Go Go.Rv Go.RowKit
noncomputable section

-- drayman/draymanref02.Fit

abbrev draymanref02_Fit_T (α : Type) : Type := ByteArray → (Bool → Option α) → Option α

noncomputable def draymanref02_Fit_l0_step {α : Type} (draymanref02_Runes : draymanref02_Runes_T α) (draymanref02_Rune : draymanref02_Rune_T α) (kr : (Bool) → Option α) (k0 : Option α) (rec : (Seq (Int × Unit)) → (Int) → Option α) (l4 : Seq (Int × Unit)) (i5 : Int) : Option α :=
  (cond (decide (i5 < (l4.n : Int)))
    (cond ((decide ((0 : Int) ≤ i5)) && (decide (i5 < (l4.n : Int))))
      (draymanref02_Rune ((l4.g i5.toNat).1) fun r6 =>
        (cond (!r6)
          (kr false)
          (rec l4 (IntKind.i64.wrap (i5 + 1)))))
      none)
    (k0))

noncomputable def draymanref02_Fit_l0_run {α : Type} (draymanref02_Runes : draymanref02_Runes_T α) (draymanref02_Rune : draymanref02_Rune_T α) (kr : (Bool) → Option α) (k0 : Option α) : Nat → (Seq (Int × Unit)) → (Int) → Option α
  | 0, _, _ => none
  | n + 1, l4, i5 => draymanref02_Fit_l0_step draymanref02_Runes draymanref02_Rune kr k0 (fun l4 i5 => draymanref02_Fit_l0_run draymanref02_Runes draymanref02_Rune kr k0 n l4 i5) l4 i5

noncomputable def draymanref02_Fit_g {α : Type} (draymanref02_Runes : draymanref02_Runes_T α) (draymanref02_Rune : draymanref02_Rune_T α) (s1 : ByteArray) (k : Bool → Option α) : Option α :=
  (cond (decide ((s1.size : Int) > 48))
    (k false)
    (draymanref02_Runes s1 fun r2 r3 =>
      (cond (!(!r3))
        (cond (!(decide ((r2.n : Int) < 1)))
          (cond (!(decide ((r2.n : Int) > 12)))
            (cond (decide ((0 : Int) < (r2.n : Int)))
              (cond ((r2.g 0).1 == 45)
                (k false)
                (draymanref02_Fit_l0_run draymanref02_Runes draymanref02_Rune
                  (fun x7 =>
                    (k x7))
                  ((k true))
                  1000 r2 0))
              none)
            (k false))
          (k false))
        (k false))))

noncomputable def draymanref02_Fit {α : Type} : draymanref02_Fit_T α := draymanref02_Fit_g draymanref02_Runes draymanref02_Rune

noncomputable def draymanref02_Fit_sp {α : Type} (draymanref02_Fit : draymanref02_Fit_T α) : FunSpec α := ⟨14, [.str], [], fun ds k => draymanref02_Fit (hdS ds) (fun r1 => k (enc dep (.bool) [.b r1]).1 [])⟩

noncomputable def draymanref02_Fit_spec {α : Type} : FunSpec α := draymanref02_Fit_sp draymanref02_Fit

noncomputable def draymanref02_Fit_C {α : Type} (draymanref02_Runes : draymanref02_Runes_T α) (draymanref02_Rune : draymanref02_Rune_T α) : List (FunSpec α) := [draymanref02_Runes_sp draymanref02_Runes, draymanref02_Rune_sp draymanref02_Rune]

noncomputable def draymanref02_Fit_q : FuncId → Bool := fun f => Nat.beq f 10

noncomputable def draymanref02_Fit_inl : FuncId → Bool := fun f => false

noncomputable def draymanref02_Fit_ann : FuncId → AnnT := fun f p => if f = 14 then (if p = [true, false, true, true, true, true] then ⟨[3, 5], [], [], [2], 0, [], []⟩ else ⟨[], [], [], [], 0, [], []⟩) else ⟨[], [], [], [], 0, [], []⟩

noncomputable def draymanref02_Fit_l0_t : List Sh := [.dead, .dead, .dead, .sl (.int .i64 (.nil)), .dead, .int .i64, .dead, .dead, .dead, .dead, .dead, .dead, .dead, .dead, .dead, .dead, .dead, .dead, .dead, .dead, .dead, .dead, .dead, .dead, .dead, .dead, .dead, .dead, .dead, .dead, .dead, .dead, .dead, .dead, .dead, .dead, .dead, .dead, .dead, .dead, .dead, .dead, .dead, .dead]
noncomputable def draymanref02_Fit_l0_s : List (List Sh) := []
noncomputable def draymanref02_Fit_l0_h : List BSh := []

noncomputable def draymanref02_Fit_l0_spec {α : Type} (draymanref02_Runes : draymanref02_Runes_T α) (draymanref02_Rune : draymanref02_Rune_T α) : LoopSpec α := ⟨6, 14, [true, false, true, true, true, true], draymanref02_Fit_l0_t, draymanref02_Fit_l0_s, draymanref02_Fit_l0_h, fun ds k => draymanref02_Fit_l0_run draymanref02_Runes draymanref02_Rune (fun y1 => k .ret (encSt [.dead, .dead, .bool, .dead, .dead, .dead, .dead, .dead, .dead, .dead, .dead, .dead, .dead, .dead, .dead, .dead, .dead, .dead, .dead, .dead, .dead, .dead, .dead, .dead, .dead, .dead, .dead, .dead, .dead, .dead, .dead, .dead, .dead, .dead, .dead, .dead, .dead, .dead, .dead, .dead, .dead, .dead, .dead, .dead] [] [] [.b y1])) (k (.exit 0) (encSt [.dead, .dead, .dead, .dead, .dead, .dead, .dead, .dead, .dead, .dead, .dead, .dead, .dead, .dead, .dead, .dead, .dead, .dead, .dead, .dead, .dead, .dead, .dead, .dead, .dead, .dead, .dead, .dead, .dead, .dead, .dead, .dead, .dead, .dead, .dead, .dead, .dead, .dead, .dead, .dead, .dead, .dead, .dead, .dead] [] [] [])) 1000 (hdQ (.int .i64 (.nil)) ds) (hdI ds.tail)⟩

noncomputable def draymanref02_Fit_loops {α : Type} (draymanref02_Runes : draymanref02_Runes_T α) (draymanref02_Rune : draymanref02_Rune_T α) : List (LoopSpec α) := [draymanref02_Fit_l0_spec draymanref02_Runes draymanref02_Rune]

noncomputable def draymanref02_Fit_l0_ev {α : Type} (draymanref02_Runes : draymanref02_Runes_T α) (draymanref02_Rune : draymanref02_Rune_T α) (n : Nat) (st : St) (k : X → St → Option α) : Option α := loopN (evCode Go.Proofs.Tryd.prog (callD Go.Proofs.Tryd.prog (envOf (draymanref02_Fit_C draymanref02_Runes draymanref02_Rune) draymanref02_Fit_q draymanref02_Fit_inl 1000 draymanref02_Fit_ann false (draymanref02_Fit_loops draymanref02_Runes draymanref02_Rune) (fun _ => none)) 6) (((envOf (draymanref02_Fit_C draymanref02_Runes draymanref02_Rune) draymanref02_Fit_q draymanref02_Fit_inl 1000 draymanref02_Fit_ann false (draymanref02_Fit_loops draymanref02_Runes draymanref02_Rune) (fun _ => none)) : Env α).L 6 14) 1000 (draymanref02_Fit_ann 14) (false :: [true, false, true, true, true, true]) (loopC Go.Proofs.Tryd.prog 14 [true, false, true, true, true, true])) ((draymanref02_Fit_ann 14 [true, false, true, true, true, true]).head 0) ((draymanref02_Fit_ann 14 [true, false, true, true, true, true]).leave 0) n st k

theorem draymanref02_Fit_l0_eq {α : Type} (draymanref02_Runes : draymanref02_Runes_T α) (draymanref02_Rune : draymanref02_Rune_T α) : ∀ (n : Nat) (l4 : Seq (Int × Unit)) (i5 : Int) (k : X → St → Option α), draymanref02_Fit_l0_ev draymanref02_Runes draymanref02_Rune n (encSt draymanref02_Fit_l0_t draymanref02_Fit_l0_s draymanref02_Fit_l0_h [.q (.int .i64 (.nil)) l4, .i i5]) k = draymanref02_Fit_l0_run draymanref02_Runes draymanref02_Rune (fun y1 => k .ret (encSt [.dead, .dead, .bool, .dead, .dead, .dead, .dead, .dead, .dead, .dead, .dead, .dead, .dead, .dead, .dead, .dead, .dead, .dead, .dead, .dead, .dead, .dead, .dead, .dead, .dead, .dead, .dead, .dead, .dead, .dead, .dead, .dead, .dead, .dead, .dead, .dead, .dead, .dead, .dead, .dead, .dead, .dead, .dead, .dead] [] [] [.b y1])) (k (.exit 0) (encSt [.dead, .dead, .dead, .dead, .dead, .dead, .dead, .dead, .dead, .dead, .dead, .dead, .dead, .dead, .dead, .dead, .dead, .dead, .dead, .dead, .dead, .dead, .dead, .dead, .dead, .dead, .dead, .dead, .dead, .dead, .dead, .dead, .dead, .dead, .dead, .dead, .dead, .dead, .dead, .dead, .dead, .dead, .dead, .dead] [] [] [])) n l4 i5 := by
  intro n
  induction n with
  | zero => intros; kernel_rfl
  | succ n ih =>
    intro l4 i5 k
    have e : (fun (l4 : Seq (Int × Unit)) (i5 : Int) => draymanref02_Fit_l0_ev draymanref02_Runes draymanref02_Rune n (encSt draymanref02_Fit_l0_t draymanref02_Fit_l0_s draymanref02_Fit_l0_h [.q (.int .i64 (.nil)) l4, .i i5]) k) = (fun (l4 : Seq (Int × Unit)) (i5 : Int) => draymanref02_Fit_l0_run draymanref02_Runes draymanref02_Rune (fun y1 => k .ret (encSt [.dead, .dead, .bool, .dead, .dead, .dead, .dead, .dead, .dead, .dead, .dead, .dead, .dead, .dead, .dead, .dead, .dead, .dead, .dead, .dead, .dead, .dead, .dead, .dead, .dead, .dead, .dead, .dead, .dead, .dead, .dead, .dead, .dead, .dead, .dead, .dead, .dead, .dead, .dead, .dead, .dead, .dead, .dead, .dead] [] [] [.b y1])) (k (.exit 0) (encSt [.dead, .dead, .dead, .dead, .dead, .dead, .dead, .dead, .dead, .dead, .dead, .dead, .dead, .dead, .dead, .dead, .dead, .dead, .dead, .dead, .dead, .dead, .dead, .dead, .dead, .dead, .dead, .dead, .dead, .dead, .dead, .dead, .dead, .dead, .dead, .dead, .dead, .dead, .dead, .dead, .dead, .dead, .dead, .dead] [] [] [])) n l4 i5) := by
      funext l4 i5
      exact ih l4 i5 k
    have h1 : draymanref02_Fit_l0_ev draymanref02_Runes draymanref02_Rune (n + 1) (encSt draymanref02_Fit_l0_t draymanref02_Fit_l0_s draymanref02_Fit_l0_h [.q (.int .i64 (.nil)) l4, .i i5]) k = draymanref02_Fit_l0_step draymanref02_Runes draymanref02_Rune (fun y1 => k .ret (encSt [.dead, .dead, .bool, .dead, .dead, .dead, .dead, .dead, .dead, .dead, .dead, .dead, .dead, .dead, .dead, .dead, .dead, .dead, .dead, .dead, .dead, .dead, .dead, .dead, .dead, .dead, .dead, .dead, .dead, .dead, .dead, .dead, .dead, .dead, .dead, .dead, .dead, .dead, .dead, .dead, .dead, .dead, .dead, .dead] [] [] [.b y1])) (k (.exit 0) (encSt [.dead, .dead, .dead, .dead, .dead, .dead, .dead, .dead, .dead, .dead, .dead, .dead, .dead, .dead, .dead, .dead, .dead, .dead, .dead, .dead, .dead, .dead, .dead, .dead, .dead, .dead, .dead, .dead, .dead, .dead, .dead, .dead, .dead, .dead, .dead, .dead, .dead, .dead, .dead, .dead, .dead, .dead, .dead, .dead] [] [] [])) (fun (l4 : Seq (Int × Unit)) (i5 : Int) => draymanref02_Fit_l0_ev draymanref02_Runes draymanref02_Rune n (encSt draymanref02_Fit_l0_t draymanref02_Fit_l0_s draymanref02_Fit_l0_h [.q (.int .i64 (.nil)) l4, .i i5]) k) l4 i5 := by kernel_rfl
    have h2 := congrArg (fun r => draymanref02_Fit_l0_step draymanref02_Runes draymanref02_Rune (fun y1 => k .ret (encSt [.dead, .dead, .bool, .dead, .dead, .dead, .dead, .dead, .dead, .dead, .dead, .dead, .dead, .dead, .dead, .dead, .dead, .dead, .dead, .dead, .dead, .dead, .dead, .dead, .dead, .dead, .dead, .dead, .dead, .dead, .dead, .dead, .dead, .dead, .dead, .dead, .dead, .dead, .dead, .dead, .dead, .dead, .dead, .dead] [] [] [.b y1])) (k (.exit 0) (encSt [.dead, .dead, .dead, .dead, .dead, .dead, .dead, .dead, .dead, .dead, .dead, .dead, .dead, .dead, .dead, .dead, .dead, .dead, .dead, .dead, .dead, .dead, .dead, .dead, .dead, .dead, .dead, .dead, .dead, .dead, .dead, .dead, .dead, .dead, .dead, .dead, .dead, .dead, .dead, .dead, .dead, .dead, .dead, .dead] [] [] [])) r l4 i5) e
    have h3 : draymanref02_Fit_l0_step draymanref02_Runes draymanref02_Rune (fun y1 => k .ret (encSt [.dead, .dead, .bool, .dead, .dead, .dead, .dead, .dead, .dead, .dead, .dead, .dead, .dead, .dead, .dead, .dead, .dead, .dead, .dead, .dead, .dead, .dead, .dead, .dead, .dead, .dead, .dead, .dead, .dead, .dead, .dead, .dead, .dead, .dead, .dead, .dead, .dead, .dead, .dead, .dead, .dead, .dead, .dead, .dead] [] [] [.b y1])) (k (.exit 0) (encSt [.dead, .dead, .dead, .dead, .dead, .dead, .dead, .dead, .dead, .dead, .dead, .dead, .dead, .dead, .dead, .dead, .dead, .dead, .dead, .dead, .dead, .dead, .dead, .dead, .dead, .dead, .dead, .dead, .dead, .dead, .dead, .dead, .dead, .dead, .dead, .dead, .dead, .dead, .dead, .dead, .dead, .dead, .dead, .dead] [] [] [])) (fun (l4 : Seq (Int × Unit)) (i5 : Int) => draymanref02_Fit_l0_run draymanref02_Runes draymanref02_Rune (fun y1 => k .ret (encSt [.dead, .dead, .bool, .dead, .dead, .dead, .dead, .dead, .dead, .dead, .dead, .dead, .dead, .dead, .dead, .dead, .dead, .dead, .dead, .dead, .dead, .dead, .dead, .dead, .dead, .dead, .dead, .dead, .dead, .dead, .dead, .dead, .dead, .dead, .dead, .dead, .dead, .dead, .dead, .dead, .dead, .dead, .dead, .dead] [] [] [.b y1])) (k (.exit 0) (encSt [.dead, .dead, .dead, .dead, .dead, .dead, .dead, .dead, .dead, .dead, .dead, .dead, .dead, .dead, .dead, .dead, .dead, .dead, .dead, .dead, .dead, .dead, .dead, .dead, .dead, .dead, .dead, .dead, .dead, .dead, .dead, .dead, .dead, .dead, .dead, .dead, .dead, .dead, .dead, .dead, .dead, .dead, .dead, .dead] [] [] [])) n l4 i5) l4 i5 = draymanref02_Fit_l0_run draymanref02_Runes draymanref02_Rune (fun y1 => k .ret (encSt [.dead, .dead, .bool, .dead, .dead, .dead, .dead, .dead, .dead, .dead, .dead, .dead, .dead, .dead, .dead, .dead, .dead, .dead, .dead, .dead, .dead, .dead, .dead, .dead, .dead, .dead, .dead, .dead, .dead, .dead, .dead, .dead, .dead, .dead, .dead, .dead, .dead, .dead, .dead, .dead, .dead, .dead, .dead, .dead] [] [] [.b y1])) (k (.exit 0) (encSt [.dead, .dead, .dead, .dead, .dead, .dead, .dead, .dead, .dead, .dead, .dead, .dead, .dead, .dead, .dead, .dead, .dead, .dead, .dead, .dead, .dead, .dead, .dead, .dead, .dead, .dead, .dead, .dead, .dead, .dead, .dead, .dead, .dead, .dead, .dead, .dead, .dead, .dead, .dead, .dead, .dead, .dead, .dead, .dead] [] [] [])) (n + 1) l4 i5 := by kernel_rfl
    exact h1.trans (h2.trans h3)

theorem draymanref02_Fit_l0_ok {α : Type} (draymanref02_Runes : draymanref02_Runes_T α) (draymanref02_Rune : draymanref02_Rune_T α) : (draymanref02_Fit_l0_spec draymanref02_Runes draymanref02_Rune : LoopSpec α).ok Go.Proofs.Tryd.prog (envOf (draymanref02_Fit_C draymanref02_Runes draymanref02_Rune) draymanref02_Fit_q draymanref02_Fit_inl 1000 draymanref02_Fit_ann false (draymanref02_Fit_loops draymanref02_Runes draymanref02_Rune) (fun _ => none)) := by
  intro ds k
  have h1 : draymanref02_Fit_l0_ev draymanref02_Runes draymanref02_Rune 1000 (encSt draymanref02_Fit_l0_t draymanref02_Fit_l0_s draymanref02_Fit_l0_h ds) k = draymanref02_Fit_l0_ev draymanref02_Runes draymanref02_Rune 1000 (encSt draymanref02_Fit_l0_t draymanref02_Fit_l0_s draymanref02_Fit_l0_h [.q (.int .i64 (.nil)) (hdQ (.int .i64 (.nil)) ds), .i (hdI ds.tail)]) k := by kernel_rfl
  have h2 := draymanref02_Fit_l0_eq draymanref02_Runes draymanref02_Rune 1000 (hdQ (.int .i64 (.nil)) ds) (hdI ds.tail) k
  exact h1.trans h2

theorem draymanref02_Fit_ev {α : Type} (draymanref02_Runes : draymanref02_Runes_T α) (draymanref02_Rune : draymanref02_Rune_T α) : EvOk (α := α) Go.Proofs.Tryd.prog (envOf (draymanref02_Fit_C draymanref02_Runes draymanref02_Rune) draymanref02_Fit_q draymanref02_Fit_inl 1000 draymanref02_Fit_ann false (draymanref02_Fit_loops draymanref02_Runes draymanref02_Rune) (fun _ => none)) 6 (draymanref02_Fit_sp (draymanref02_Fit_g draymanref02_Runes draymanref02_Rune)) := by intro ds k; kernel_rfl

theorem draymanref02_Fit_ok {α : Type} : (draymanref02_Fit_spec : FunSpec α).ok Go.Proofs.Tryd.prog :=
  FunSpec.ok_of (sp := draymanref02_Fit_spec) (C := draymanref02_Fit_C draymanref02_Runes draymanref02_Rune) (q := draymanref02_Fit_q) (inl := draymanref02_Fit_inl) (N := 1000) (ann := draymanref02_Fit_ann) (fr := false) (D := 6) (l := (draymanref02_Fit_loops draymanref02_Runes draymanref02_Rune)) (hk := (fun _ => none)) (okCons draymanref02_Runes_ok (okCons draymanref02_Rune_ok okNil)) (lokCons (draymanref02_Fit_l0_ok draymanref02_Runes draymanref02_Rune) lokNil) noHooks (draymanref02_Fit_ev draymanref02_Runes draymanref02_Rune)

end
end Go.Rv.Tryd

set_option linter.unusedVariables false
set_option maxRecDepth 100000
set_option maxHeartbeats 4000000
namespace Go.Rv.Tryd
open Go Go.Rv Go.RowKit
noncomputable section

-- drayman/draymanref02.Fold

abbrev draymanref02_Fold_T (α : Type) : Type := ByteArray → (ByteArray → Int → Option α) → Option α

noncomputable def draymanref02_Fold_l0_step {α : Type} (draymanref02_Runes : draymanref02_Runes_T α) (draymanref02_Rune : draymanref02_Rune_T α) (draymanref02_octets : draymanref02_octets_T α) (draymanref02_Fit : draymanref02_Fit_T α) (kr : (ByteArray) → (Int) → Option α) (k0 : (ByteArray) → Option α) (rec : (Seq (Int × Unit)) → (ByteArray) → (Int) → Option α) (l4 : Seq (Int × Unit)) (out5 : ByteArray) (i6 : Int) : Option α :=
  (cond (decide (i6 < (l4.n : Int)))
    (cond ((decide ((0 : Int) ≤ i6)) && (decide (i6 < (l4.n : Int))))
      (cond (decide ((l4.g i6.toNat).1 ≥ 65))
        (cond (!(decide ((l4.g i6.toNat).1 ≤ 90)))
          (cond (decide ((l4.g i6.toNat).1 ≥ 192))
            (cond (decide ((l4.g i6.toNat).1 ≤ 222))
              (cond ((l4.g i6.toNat).1 != 215)
                (draymanref02_Rune (IntKind.i64.wrap ((l4.g i6.toNat).1 + 32)) fun r7 =>
                  (cond (!r7)
                    (kr (⟨#[]⟩ : ByteArray) 7)
                    (draymanref02_octets (IntKind.i64.wrap ((l4.g i6.toNat).1 + 32)) fun r8 =>
                      (cond (decide ((((out5).size + (r8).size : Nat) : Int) ≤ IntKind.i64.max))
                        (rec l4 (out5 ++ r8) (IntKind.i64.wrap (i6 + 1)))
                        none))))
                (draymanref02_Rune ((l4.g i6.toNat).1) fun r9 =>
                  (cond (!r9)
                    (kr (⟨#[]⟩ : ByteArray) 7)
                    (draymanref02_octets ((l4.g i6.toNat).1) fun r10 =>
                      (cond (decide ((((out5).size + (r10).size : Nat) : Int) ≤ IntKind.i64.max))
                        (rec l4 (out5 ++ r10) (IntKind.i64.wrap (i6 + 1)))
                        none)))))
              (draymanref02_Rune ((l4.g i6.toNat).1) fun r11 =>
                (cond (!r11)
                  (kr (⟨#[]⟩ : ByteArray) 7)
                  (draymanref02_octets ((l4.g i6.toNat).1) fun r12 =>
                    (cond (decide ((((out5).size + (r12).size : Nat) : Int) ≤ IntKind.i64.max))
                      (rec l4 (out5 ++ r12) (IntKind.i64.wrap (i6 + 1)))
                      none)))))
            (draymanref02_Rune ((l4.g i6.toNat).1) fun r13 =>
              (cond (!r13)
                (kr (⟨#[]⟩ : ByteArray) 7)
                (draymanref02_octets ((l4.g i6.toNat).1) fun r14 =>
                  (cond (decide ((((out5).size + (r14).size : Nat) : Int) ≤ IntKind.i64.max))
                    (rec l4 (out5 ++ r14) (IntKind.i64.wrap (i6 + 1)))
                    none)))))
          (draymanref02_Rune (IntKind.i64.wrap ((l4.g i6.toNat).1 + 32)) fun r15 =>
            (cond (!r15)
              (kr (⟨#[]⟩ : ByteArray) 7)
              (draymanref02_octets (IntKind.i64.wrap ((l4.g i6.toNat).1 + 32)) fun r16 =>
                (cond (decide ((((out5).size + (r16).size : Nat) : Int) ≤ IntKind.i64.max))
                  (rec l4 (out5 ++ r16) (IntKind.i64.wrap (i6 + 1)))
                  none)))))
        (cond (decide ((l4.g i6.toNat).1 ≥ 192))
          (cond (decide ((l4.g i6.toNat).1 ≤ 222))
            (cond ((l4.g i6.toNat).1 != 215)
              (draymanref02_Rune (IntKind.i64.wrap ((l4.g i6.toNat).1 + 32)) fun r17 =>
                (cond (!r17)
                  (kr (⟨#[]⟩ : ByteArray) 7)
                  (draymanref02_octets (IntKind.i64.wrap ((l4.g i6.toNat).1 + 32)) fun r18 =>
                    (cond (decide ((((out5).size + (r18).size : Nat) : Int) ≤ IntKind.i64.max))
                      (rec l4 (out5 ++ r18) (IntKind.i64.wrap (i6 + 1)))
                      none))))
              (draymanref02_Rune ((l4.g i6.toNat).1) fun r19 =>
                (cond (!r19)
                  (kr (⟨#[]⟩ : ByteArray) 7)
                  (draymanref02_octets ((l4.g i6.toNat).1) fun r20 =>
                    (cond (decide ((((out5).size + (r20).size : Nat) : Int) ≤ IntKind.i64.max))
                      (rec l4 (out5 ++ r20) (IntKind.i64.wrap (i6 + 1)))
                      none)))))
            (draymanref02_Rune ((l4.g i6.toNat).1) fun r21 =>
              (cond (!r21)
                (kr (⟨#[]⟩ : ByteArray) 7)
                (draymanref02_octets ((l4.g i6.toNat).1) fun r22 =>
                  (cond (decide ((((out5).size + (r22).size : Nat) : Int) ≤ IntKind.i64.max))
                    (rec l4 (out5 ++ r22) (IntKind.i64.wrap (i6 + 1)))
                    none)))))
          (draymanref02_Rune ((l4.g i6.toNat).1) fun r23 =>
            (cond (!r23)
              (kr (⟨#[]⟩ : ByteArray) 7)
              (draymanref02_octets ((l4.g i6.toNat).1) fun r24 =>
                (cond (decide ((((out5).size + (r24).size : Nat) : Int) ≤ IntKind.i64.max))
                  (rec l4 (out5 ++ r24) (IntKind.i64.wrap (i6 + 1)))
                  none))))))
      none)
    (k0 out5))

noncomputable def draymanref02_Fold_l0_run {α : Type} (draymanref02_Runes : draymanref02_Runes_T α) (draymanref02_Rune : draymanref02_Rune_T α) (draymanref02_octets : draymanref02_octets_T α) (draymanref02_Fit : draymanref02_Fit_T α) (kr : (ByteArray) → (Int) → Option α) (k0 : (ByteArray) → Option α) : Nat → (Seq (Int × Unit)) → (ByteArray) → (Int) → Option α
  | 0, _, _, _ => none
  | n + 1, l4, out5, i6 => draymanref02_Fold_l0_step draymanref02_Runes draymanref02_Rune draymanref02_octets draymanref02_Fit kr k0 (fun l4 out5 i6 => draymanref02_Fold_l0_run draymanref02_Runes draymanref02_Rune draymanref02_octets draymanref02_Fit kr k0 n l4 out5 i6) l4 out5 i6

noncomputable def draymanref02_Fold_g {α : Type} (draymanref02_Runes : draymanref02_Runes_T α) (draymanref02_Rune : draymanref02_Rune_T α) (draymanref02_octets : draymanref02_octets_T α) (draymanref02_Fit : draymanref02_Fit_T α) (s1 : ByteArray) (k : ByteArray → Int → Option α) : Option α :=
  (cond (decide ((s1.size : Int) > 48))
    (k (⟨#[]⟩ : ByteArray) 7)
    (draymanref02_Runes s1 fun r2 r3 =>
      (cond (!r3)
        (k (⟨#[]⟩ : ByteArray) 7)
        (draymanref02_Fold_l0_run draymanref02_Runes draymanref02_Rune draymanref02_octets draymanref02_Fit
          (fun x25 x26 =>
            (k x25 x26))
          (fun x27 =>
            (draymanref02_Fit x27 fun r28 =>
              (cond (!r28)
                (k (⟨#[]⟩ : ByteArray) 7)
                (k x27 0))))
          1000 r2 (⟨#[]⟩ : ByteArray) 0))))

noncomputable def draymanref02_Fold {α : Type} : draymanref02_Fold_T α := draymanref02_Fold_g draymanref02_Runes draymanref02_Rune draymanref02_octets draymanref02_Fit

noncomputable def draymanref02_Fold_sp {α : Type} (draymanref02_Fold : draymanref02_Fold_T α) : FunSpec α := ⟨16, [.str], [], fun ds k => draymanref02_Fold (hdS ds) (fun r1 r2 => k (enc dep (.tup [.str, .int .i64]) [.s r1, .i r2]).1 [])⟩

noncomputable def draymanref02_Fold_spec {α : Type} : FunSpec α := draymanref02_Fold_sp draymanref02_Fold

noncomputable def draymanref02_Fold_C {α : Type} (draymanref02_Runes : draymanref02_Runes_T α) (draymanref02_Rune : draymanref02_Rune_T α) (draymanref02_octets : draymanref02_octets_T α) (draymanref02_Fit : draymanref02_Fit_T α) : List (FunSpec α) := [draymanref02_Runes_sp draymanref02_Runes, draymanref02_Rune_sp draymanref02_Rune, draymanref02_octets_sp draymanref02_octets, draymanref02_Fit_sp draymanref02_Fit]

noncomputable def draymanref02_Fold_q : FuncId → Bool := fun f => Nat.beq f 10 || Nat.beq f 14 || Nat.beq f 26

noncomputable def draymanref02_Fold_inl : FuncId → Bool := fun f => false

noncomputable def draymanref02_Fold_ann : FuncId → AnnT := fun f p => if f = 16 then (if p = [true, false, true, true, true, true, true] then ⟨[4, 6, 7], [], [6], [2, 3], 0, [], []⟩ else ⟨[], [], [], [], 0, [], []⟩) else ⟨[], [], [], [], 0, [], []⟩

noncomputable def draymanref02_Fold_l0_t : List Sh := [.dead, .dead, .dead, .dead, .sl (.int .i64 (.nil)), .dead, .str, .int .i64, .dead, .dead, .dead, .dead, .dead, .dead, .dead, .dead, .dead, .dead, .dead, .dead, .dead, .dead, .dead, .dead, .dead, .dead, .dead, .dead, .dead, .dead, .dead, .dead, .dead, .dead, .dead, .dead, .dead, .dead, .dead, .dead, .dead, .dead, .dead, .dead, .dead, .dead, .dead, .dead, .dead, .dead, .dead, .dead, .dead, .dead, .dead, .dead, .dead, .dead, .dead, .dead]
noncomputable def draymanref02_Fold_l0_s : List (List Sh) := []
noncomputable def draymanref02_Fold_l0_h : List BSh := []

noncomputable def draymanref02_Fold_l0_spec {α : Type} (draymanref02_Runes : draymanref02_Runes_T α) (draymanref02_Rune : draymanref02_Rune_T α) (draymanref02_octets : draymanref02_octets_T α) (draymanref02_Fit : draymanref02_Fit_T α) : LoopSpec α := ⟨6, 16, [true, false, true, true, true, true, true], draymanref02_Fold_l0_t, draymanref02_Fold_l0_s, draymanref02_Fold_l0_h, fun ds k => draymanref02_Fold_l0_run draymanref02_Runes draymanref02_Rune draymanref02_octets draymanref02_Fit (fun y1 y2 => k .ret (encSt [.dead, .dead, .str, .int .i64, .dead, .dead, .dead, .dead, .dead, .dead, .dead, .dead, .dead, .dead, .dead, .dead, .dead, .dead, .dead, .dead, .dead, .dead, .dead, .dead, .dead, .dead, .dead, .dead, .dead, .dead, .dead, .dead, .dead, .dead, .dead, .dead, .dead, .dead, .dead, .dead, .dead, .dead, .dead, .dead, .dead, .dead, .dead, .dead, .dead, .dead, .dead, .dead, .dead, .dead, .dead, .dead, .dead, .dead, .dead, .dead] [] [] [.s y1, .i y2])) (fun y1 => k (.exit 0) (encSt [.dead, .dead, .dead, .dead, .dead, .dead, .str, .dead, .dead, .dead, .dead, .dead, .dead, .dead, .dead, .dead, .dead, .dead, .dead, .dead, .dead, .dead, .dead, .dead, .dead, .dead, .dead, .dead, .dead, .dead, .dead, .dead, .dead, .dead, .dead, .dead, .dead, .dead, .dead, .dead, .dead, .dead, .dead, .dead, .dead, .dead, .dead, .dead, .dead, .dead, .dead, .dead, .dead, .dead, .dead, .dead, .dead, .dead, .dead, .dead] [] [] [.s y1])) 1000 (hdQ (.int .i64 (.nil)) ds) (hdS ds.tail) (hdI ds.tail.tail)⟩

noncomputable def draymanref02_Fold_loops {α : Type} (draymanref02_Runes : draymanref02_Runes_T α) (draymanref02_Rune : draymanref02_Rune_T α) (draymanref02_octets : draymanref02_octets_T α) (draymanref02_Fit : draymanref02_Fit_T α) : List (LoopSpec α) := [draymanref02_Fold_l0_spec draymanref02_Runes draymanref02_Rune draymanref02_octets draymanref02_Fit]

noncomputable def draymanref02_Fold_l0_ev {α : Type} (draymanref02_Runes : draymanref02_Runes_T α) (draymanref02_Rune : draymanref02_Rune_T α) (draymanref02_octets : draymanref02_octets_T α) (draymanref02_Fit : draymanref02_Fit_T α) (n : Nat) (st : St) (k : X → St → Option α) : Option α := loopN (evCode Go.Proofs.Tryd.prog (callD Go.Proofs.Tryd.prog (envOf (draymanref02_Fold_C draymanref02_Runes draymanref02_Rune draymanref02_octets draymanref02_Fit) draymanref02_Fold_q draymanref02_Fold_inl 1000 draymanref02_Fold_ann false (draymanref02_Fold_loops draymanref02_Runes draymanref02_Rune draymanref02_octets draymanref02_Fit) (fun _ => none)) 6) (((envOf (draymanref02_Fold_C draymanref02_Runes draymanref02_Rune draymanref02_octets draymanref02_Fit) draymanref02_Fold_q draymanref02_Fold_inl 1000 draymanref02_Fold_ann false (draymanref02_Fold_loops draymanref02_Runes draymanref02_Rune draymanref02_octets draymanref02_Fit) (fun _ => none)) : Env α).L 6 16) 1000 (draymanref02_Fold_ann 16) (false :: [true, false, true, true, true, true, true]) (loopC Go.Proofs.Tryd.prog 16 [true, false, true, true, true, true, true])) ((draymanref02_Fold_ann 16 [true, false, true, true, true, true, true]).head 0) ((draymanref02_Fold_ann 16 [true, false, true, true, true, true, true]).leave 0) n st k

theorem draymanref02_Fold_l0_eq {α : Type} (draymanref02_Runes : draymanref02_Runes_T α) (draymanref02_Rune : draymanref02_Rune_T α) (draymanref02_octets : draymanref02_octets_T α) (draymanref02_Fit : draymanref02_Fit_T α) : ∀ (n : Nat) (l4 : Seq (Int × Unit)) (out5 : ByteArray) (i6 : Int) (k : X → St → Option α), draymanref02_Fold_l0_ev draymanref02_Runes draymanref02_Rune draymanref02_octets draymanref02_Fit n (encSt draymanref02_Fold_l0_t draymanref02_Fold_l0_s draymanref02_Fold_l0_h [.q (.int .i64 (.nil)) l4, .s out5, .i i6]) k = draymanref02_Fold_l0_run draymanref02_Runes draymanref02_Rune draymanref02_octets draymanref02_Fit (fun y1 y2 => k .ret (encSt [.dead, .dead, .str, .int .i64, .dead, .dead, .dead, .dead, .dead, .dead, .dead, .dead, .dead, .dead, .dead, .dead, .dead, .dead, .dead, .dead, .dead, .dead, .dead, .dead, .dead, .dead, .dead, .dead, .dead, .dead, .dead, .dead, .dead, .dead, .dead, .dead, .dead, .dead, .dead, .dead, .dead, .dead, .dead, .dead, .dead, .dead, .dead, .dead, .dead, .dead, .dead, .dead, .dead, .dead, .dead, .dead, .dead, .dead, .dead, .dead] [] [] [.s y1, .i y2])) (fun y1 => k (.exit 0) (encSt [.dead, .dead, .dead, .dead, .dead, .dead, .str, .dead, .dead, .dead, .dead, .dead, .dead, .dead, .dead, .dead, .dead, .dead, .dead, .dead, .dead, .dead, .dead, .dead, .dead, .dead, .dead, .dead, .dead, .dead, .dead, .dead, .dead, .dead, .dead, .dead, .dead, .dead, .dead, .dead, .dead, .dead, .dead, .dead, .dead, .dead, .dead, .dead, .dead, .dead, .dead, .dead, .dead, .dead, .dead, .dead, .dead, .dead, .dead, .dead] [] [] [.s y1])) n l4 out5 i6 := by
  intro n
  induction n with
  | zero => intros; kernel_rfl
  | succ n ih =>
    intro l4 out5 i6 k
    have e : (fun (l4 : Seq (Int × Unit)) (out5 : ByteArray) (i6 : Int) => draymanref02_Fold_l0_ev draymanref02_Runes draymanref02_Rune draymanref02_octets draymanref02_Fit n (encSt draymanref02_Fold_l0_t draymanref02_Fold_l0_s draymanref02_Fold_l0_h [.q (.int .i64 (.nil)) l4, .s out5, .i i6]) k) = (fun (l4 : Seq (Int × Unit)) (out5 : ByteArray) (i6 : Int) => draymanref02_Fold_l0_run draymanref02_Runes draymanref02_Rune draymanref02_octets draymanref02_Fit (fun y1 y2 => k .ret (encSt [.dead, .dead, .str, .int .i64, .dead, .dead, .dead, .dead, .dead, .dead, .dead, .dead, .dead, .dead, .dead, .dead, .dead, .dead, .dead, .dead, .dead, .dead, .dead, .dead, .dead, .dead, .dead, .dead, .dead, .dead, .dead, .dead, .dead, .dead, .dead, .dead, .dead, .dead, .dead, .dead, .dead, .dead, .dead, .dead, .dead, .dead, .dead, .dead, .dead, .dead, .dead, .dead, .dead, .dead, .dead, .dead, .dead, .dead, .dead, .dead] [] [] [.s y1, .i y2])) (fun y1 => k (.exit 0) (encSt [.dead, .dead, .dead, .dead, .dead, .dead, .str, .dead, .dead, .dead, .dead, .dead, .dead, .dead, .dead, .dead, .dead, .dead, .dead, .dead, .dead, .dead, .dead, .dead, .dead, .dead, .dead, .dead, .dead, .dead, .dead, .dead, .dead, .dead, .dead, .dead, .dead, .dead, .dead, .dead, .dead, .dead, .dead, .dead, .dead, .dead, .dead, .dead, .dead, .dead, .dead, .dead, .dead, .dead, .dead, .dead, .dead, .dead, .dead, .dead] [] [] [.s y1])) n l4 out5 i6) := by
      funext l4 out5 i6
      exact ih l4 out5 i6 k
    have h1 : draymanref02_Fold_l0_ev draymanref02_Runes draymanref02_Rune draymanref02_octets draymanref02_Fit (n + 1) (encSt draymanref02_Fold_l0_t draymanref02_Fold_l0_s draymanref02_Fold_l0_h [.q (.int .i64 (.nil)) l4, .s out5, .i i6]) k = draymanref02_Fold_l0_step draymanref02_Runes draymanref02_Rune draymanref02_octets draymanref02_Fit (fun y1 y2 => k .ret (encSt [.dead, .dead, .str, .int .i64, .dead, .dead, .dead, .dead, .dead, .dead, .dead, .dead, .dead, .dead, .dead, .dead, .dead, .dead, .dead, .dead, .dead, .dead, .dead, .dead, .dead, .dead, .dead, .dead, .dead, .dead, .dead, .dead, .dead, .dead, .dead, .dead, .dead, .dead, .dead, .dead, .dead, .dead, .dead, .dead, .dead, .dead, .dead, .dead, .dead, .dead, .dead, .dead, .dead, .dead, .dead, .dead, .dead, .dead, .dead, .dead] [] [] [.s y1, .i y2])) (fun y1 => k (.exit 0) (encSt [.dead, .dead, .dead, .dead, .dead, .dead, .str, .dead, .dead, .dead, .dead, .dead, .dead, .dead, .dead, .dead, .dead, .dead, .dead, .dead, .dead, .dead, .dead, .dead, .dead, .dead, .dead, .dead, .dead, .dead, .dead, .dead, .dead, .dead, .dead, .dead, .dead, .dead, .dead, .dead, .dead, .dead, .dead, .dead, .dead, .dead, .dead, .dead, .dead, .dead, .dead, .dead, .dead, .dead, .dead, .dead, .dead, .dead, .dead, .dead] [] [] [.s y1])) (fun (l4 : Seq (Int × Unit)) (out5 : ByteArray) (i6 : Int) => draymanref02_Fold_l0_ev draymanref02_Runes draymanref02_Rune draymanref02_octets draymanref02_Fit n (encSt draymanref02_Fold_l0_t draymanref02_Fold_l0_s draymanref02_Fold_l0_h [.q (.int .i64 (.nil)) l4, .s out5, .i i6]) k) l4 out5 i6 := by kernel_rfl
    have h2 := congrArg (fun r => draymanref02_Fold_l0_step draymanref02_Runes draymanref02_Rune draymanref02_octets draymanref02_Fit (fun y1 y2 => k .ret (encSt [.dead, .dead, .str, .int .i64, .dead, .dead, .dead, .dead, .dead, .dead, .dead, .dead, .dead, .dead, .dead, .dead, .dead, .dead, .dead, .dead, .dead, .dead, .dead, .dead, .dead, .dead, .dead, .dead, .dead, .dead, .dead, .dead, .dead, .dead, .dead, .dead, .dead, .dead, .dead, .dead, .dead, .dead, .dead, .dead, .dead, .dead, .dead, .dead, .dead, .dead, .dead, .dead, .dead, .dead, .dead, .dead, .dead, .dead, .dead, .dead] [] [] [.s y1, .i y2])) (fun y1 => k (.exit 0) (encSt [.dead, .dead, .dead, .dead, .dead, .dead, .str, .dead, .dead, .dead, .dead, .dead, .dead, .dead, .dead, .dead, .dead, .dead, .dead, .dead, .dead, .dead, .dead, .dead, .dead, .dead, .dead, .dead, .dead, .dead, .dead, .dead, .dead, .dead, .dead, .dead, .dead, .dead, .dead, .dead, .dead, .dead, .dead, .dead, .dead, .dead, .dead, .dead, .dead, .dead, .dead, .dead, .dead, .dead, .dead, .dead, .dead, .dead, .dead, .dead] [] [] [.s y1])) r l4 out5 i6) e
    have h3 : draymanref02_Fold_l0_step draymanref02_Runes draymanref02_Rune draymanref02_octets draymanref02_Fit (fun y1 y2 => k .ret (encSt [.dead, .dead, .str, .int .i64, .dead, .dead, .dead, .dead, .dead, .dead, .dead, .dead, .dead, .dead, .dead, .dead, .dead, .dead, .dead, .dead, .dead, .dead, .dead, .dead, .dead, .dead, .dead, .dead, .dead, .dead, .dead, .dead, .dead, .dead, .dead, .dead, .dead, .dead, .dead, .dead, .dead, .dead, .dead, .dead, .dead, .dead, .dead, .dead, .dead, .dead, .dead, .dead, .dead, .dead, .dead, .dead, .dead, .dead, .dead, .dead] [] [] [.s y1, .i y2])) (fun y1 => k (.exit 0) (encSt [.dead, .dead, .dead, .dead, .dead, .dead, .str, .dead, .dead, .dead, .dead, .dead, .dead, .dead, .dead, .dead, .dead, .dead, .dead, .dead, .dead, .dead, .dead, .dead, .dead, .dead, .dead, .dead, .dead, .dead, .dead, .dead, .dead, .dead, .dead, .dead, .dead, .dead, .dead, .dead, .dead, .dead, .dead, .dead, .dead, .dead, .dead, .dead, .dead, .dead, .dead, .dead, .dead, .dead, .dead, .dead, .dead, .dead, .dead, .dead] [] [] [.s y1])) (fun (l4 : Seq (Int × Unit)) (out5 : ByteArray) (i6 : Int) => draymanref02_Fold_l0_run draymanref02_Runes draymanref02_Rune draymanref02_octets draymanref02_Fit (fun y1 y2 => k .ret (encSt [.dead, .dead, .str, .int .i64, .dead, .dead, .dead, .dead, .dead, .dead, .dead, .dead, .dead, .dead, .dead, .dead, .dead, .dead, .dead, .dead, .dead, .dead, .dead, .dead, .dead, .dead, .dead, .dead, .dead, .dead, .dead, .dead, .dead, .dead, .dead, .dead, .dead, .dead, .dead, .dead, .dead, .dead, .dead, .dead, .dead, .dead, .dead, .dead, .dead, .dead, .dead, .dead, .dead, .dead, .dead, .dead, .dead, .dead, .dead, .dead] [] [] [.s y1, .i y2])) (fun y1 => k (.exit 0) (encSt [.dead, .dead, .dead, .dead, .dead, .dead, .str, .dead, .dead, .dead, .dead, .dead, .dead, .dead, .dead, .dead, .dead, .dead, .dead, .dead, .dead, .dead, .dead, .dead, .dead, .dead, .dead, .dead, .dead, .dead, .dead, .dead, .dead, .dead, .dead, .dead, .dead, .dead, .dead, .dead, .dead, .dead, .dead, .dead, .dead, .dead, .dead, .dead, .dead, .dead, .dead, .dead, .dead, .dead, .dead, .dead, .dead, .dead, .dead, .dead] [] [] [.s y1])) n l4 out5 i6) l4 out5 i6 = draymanref02_Fold_l0_run draymanref02_Runes draymanref02_Rune draymanref02_octets draymanref02_Fit (fun y1 y2 => k .ret (encSt [.dead, .dead, .str, .int .i64, .dead, .dead, .dead, .dead, .dead, .dead, .dead, .dead, .dead, .dead, .dead, .dead, .dead, .dead, .dead, .dead, .dead, .dead, .dead, .dead, .dead, .dead, .dead, .dead, .dead, .dead, .dead, .dead, .dead, .dead, .dead, .dead, .dead, .dead, .dead, .dead, .dead, .dead, .dead, .dead, .dead, .dead, .dead, .dead, .dead, .dead, .dead, .dead, .dead, .dead, .dead, .dead, .dead, .dead, .dead, .dead] [] [] [.s y1, .i y2])) (fun y1 => k (.exit 0) (encSt [.dead, .dead, .dead, .dead, .dead, .dead, .str, .dead, .dead, .dead, .dead, .dead, .dead, .dead, .dead, .dead, .dead, .dead, .dead, .dead, .dead, .dead, .dead, .dead, .dead, .dead, .dead, .dead, .dead, .dead, .dead, .dead, .dead, .dead, .dead, .dead, .dead, .dead, .dead, .dead, .dead, .dead, .dead, .dead, .dead, .dead, .dead, .dead, .dead, .dead, .dead, .dead, .dead, .dead, .dead, .dead, .dead, .dead, .dead, .dead] [] [] [.s y1])) (n + 1) l4 out5 i6 := by kernel_rfl
    exact h1.trans (h2.trans h3)

theorem draymanref02_Fold_l0_ok {α : Type} (draymanref02_Runes : draymanref02_Runes_T α) (draymanref02_Rune : draymanref02_Rune_T α) (draymanref02_octets : draymanref02_octets_T α) (draymanref02_Fit : draymanref02_Fit_T α) : (draymanref02_Fold_l0_spec draymanref02_Runes draymanref02_Rune draymanref02_octets draymanref02_Fit : LoopSpec α).ok Go.Proofs.Tryd.prog (envOf (draymanref02_Fold_C draymanref02_Runes draymanref02_Rune draymanref02_octets draymanref02_Fit) draymanref02_Fold_q draymanref02_Fold_inl 1000 draymanref02_Fold_ann false (draymanref02_Fold_loops draymanref02_Runes draymanref02_Rune draymanref02_octets draymanref02_Fit) (fun _ => none)) := by
  intro ds k
  have h1 : draymanref02_Fold_l0_ev draymanref02_Runes draymanref02_Rune draymanref02_octets draymanref02_Fit 1000 (encSt draymanref02_Fold_l0_t draymanref02_Fold_l0_s draymanref02_Fold_l0_h ds) k = draymanref02_Fold_l0_ev draymanref02_Runes draymanref02_Rune draymanref02_octets draymanref02_Fit 1000 (encSt draymanref02_Fold_l0_t draymanref02_Fold_l0_s draymanref02_Fold_l0_h [.q (.int .i64 (.nil)) (hdQ (.int .i64 (.nil)) ds), .s (hdS ds.tail), .i (hdI ds.tail.tail)]) k := by kernel_rfl
  have h2 := draymanref02_Fold_l0_eq draymanref02_Runes draymanref02_Rune draymanref02_octets draymanref02_Fit 1000 (hdQ (.int .i64 (.nil)) ds) (hdS ds.tail) (hdI ds.tail.tail) k
  exact h1.trans h2

theorem draymanref02_Fold_ev {α : Type} (draymanref02_Runes : draymanref02_Runes_T α) (draymanref02_Rune : draymanref02_Rune_T α) (draymanref02_octets : draymanref02_octets_T α) (draymanref02_Fit : draymanref02_Fit_T α) : EvOk (α := α) Go.Proofs.Tryd.prog (envOf (draymanref02_Fold_C draymanref02_Runes draymanref02_Rune draymanref02_octets draymanref02_Fit) draymanref02_Fold_q draymanref02_Fold_inl 1000 draymanref02_Fold_ann false (draymanref02_Fold_loops draymanref02_Runes draymanref02_Rune draymanref02_octets draymanref02_Fit) (fun _ => none)) 6 (draymanref02_Fold_sp (draymanref02_Fold_g draymanref02_Runes draymanref02_Rune draymanref02_octets draymanref02_Fit)) := by intro ds k; kernel_rfl

theorem draymanref02_Fold_ok {α : Type} : (draymanref02_Fold_spec : FunSpec α).ok Go.Proofs.Tryd.prog :=
  FunSpec.ok_of (sp := draymanref02_Fold_spec) (C := draymanref02_Fold_C draymanref02_Runes draymanref02_Rune draymanref02_octets draymanref02_Fit) (q := draymanref02_Fold_q) (inl := draymanref02_Fold_inl) (N := 1000) (ann := draymanref02_Fold_ann) (fr := false) (D := 6) (l := (draymanref02_Fold_loops draymanref02_Runes draymanref02_Rune draymanref02_octets draymanref02_Fit)) (hk := (fun _ => none)) (okCons draymanref02_Runes_ok (okCons draymanref02_Rune_ok (okCons draymanref02_octets_ok (okCons draymanref02_Fit_ok okNil)))) (lokCons (draymanref02_Fold_l0_ok draymanref02_Runes draymanref02_Rune draymanref02_octets draymanref02_Fit) lokNil) noHooks (draymanref02_Fold_ev draymanref02_Runes draymanref02_Rune draymanref02_octets draymanref02_Fit)

end
end Go.Rv.Tryd

set_option linter.unusedVariables false
set_option maxRecDepth 100000
set_option maxHeartbeats 4000000
namespace Go.Rv.Tryd
open Go Go.Rv Go.RowKit
noncomputable section

-- drayman/draymanlaw02.NameFolds

abbrev draymanlaw02_NameFolds_T (α : Type) : Type := ByteArray → (Bool → Option α) → Option α

noncomputable def draymanlaw02_NameFolds_g {α : Type} (draymanlaw02_awake : draymanlaw02_awake_T α) (name_Fold : name_Fold_T α) (draymanref02_Fold : draymanref02_Fold_T α) (s1 : ByteArray) (k : Bool → Option α) : Option α :=
  (cond (decide ((s1.size : Int) > 80))
    (draymanlaw02_awake fun r2 =>
      (k r2))
    (name_Fold s1 fun r3 r4 =>
      (draymanref02_Fold s1 fun r5 r6 =>
        (cond (r3.toList == r5.toList)
          (cond (r4 == r6)
            (draymanlaw02_awake fun r7 =>
              (k r7))
            (k false))
          (k false)))))

noncomputable def draymanlaw02_NameFolds {α : Type} : draymanlaw02_NameFolds_T α := draymanlaw02_NameFolds_g draymanlaw02_awake name_Fold draymanref02_Fold

noncomputable def draymanlaw02_NameFolds_sp {α : Type} (draymanlaw02_NameFolds : draymanlaw02_NameFolds_T α) : FunSpec α := ⟨4, [.str], [], fun ds k => draymanlaw02_NameFolds (hdS ds) (fun r1 => k (enc dep (.bool) [.b r1]).1 [])⟩

noncomputable def draymanlaw02_NameFolds_spec {α : Type} : FunSpec α := draymanlaw02_NameFolds_sp draymanlaw02_NameFolds

noncomputable def draymanlaw02_NameFolds_C {α : Type} (draymanlaw02_awake : draymanlaw02_awake_T α) (name_Fold : name_Fold_T α) (draymanref02_Fold : draymanref02_Fold_T α) : List (FunSpec α) := [draymanlaw02_awake_sp draymanlaw02_awake, name_Fold_sp name_Fold, draymanref02_Fold_sp draymanref02_Fold]

noncomputable def draymanlaw02_NameFolds_q : FuncId → Bool := fun f => Nat.beq f 8 || Nat.beq f 15 || Nat.beq f 16

noncomputable def draymanlaw02_NameFolds_inl : FuncId → Bool := fun f => false

noncomputable def draymanlaw02_NameFolds_ann : FuncId → AnnT := fun f p => ⟨[], [], [], [], 0, [], []⟩

noncomputable def draymanlaw02_NameFolds_loops {α : Type} (draymanlaw02_awake : draymanlaw02_awake_T α) (name_Fold : name_Fold_T α) (draymanref02_Fold : draymanref02_Fold_T α) : List (LoopSpec α) := []

theorem draymanlaw02_NameFolds_ev {α : Type} (draymanlaw02_awake : draymanlaw02_awake_T α) (name_Fold : name_Fold_T α) (draymanref02_Fold : draymanref02_Fold_T α) : EvOk (α := α) Go.Proofs.Tryd.prog (envOf (draymanlaw02_NameFolds_C draymanlaw02_awake name_Fold draymanref02_Fold) draymanlaw02_NameFolds_q draymanlaw02_NameFolds_inl 1000 draymanlaw02_NameFolds_ann false (draymanlaw02_NameFolds_loops draymanlaw02_awake name_Fold draymanref02_Fold) (fun _ => none)) 6 (draymanlaw02_NameFolds_sp (draymanlaw02_NameFolds_g draymanlaw02_awake name_Fold draymanref02_Fold)) := by intro ds k; kernel_rfl

theorem draymanlaw02_NameFolds_ok {α : Type} : (draymanlaw02_NameFolds_spec : FunSpec α).ok Go.Proofs.Tryd.prog :=
  FunSpec.ok_of (sp := draymanlaw02_NameFolds_spec) (C := draymanlaw02_NameFolds_C draymanlaw02_awake name_Fold draymanref02_Fold) (q := draymanlaw02_NameFolds_q) (inl := draymanlaw02_NameFolds_inl) (N := 1000) (ann := draymanlaw02_NameFolds_ann) (fr := false) (D := 6) (l := (draymanlaw02_NameFolds_loops draymanlaw02_awake name_Fold draymanref02_Fold)) (hk := (fun _ => none)) (okCons draymanlaw02_awake_ok (okCons name_Fold_ok (okCons draymanref02_Fold_ok okNil))) lokNil noHooks (draymanlaw02_NameFolds_ev draymanlaw02_awake name_Fold draymanref02_Fold)

end
end Go.Rv.Tryd

set_option linter.unusedVariables false
set_option maxRecDepth 100000
set_option maxHeartbeats 4000000
namespace Go.Rv.Tryd
open Go Go.Rv Go.RowKit
noncomputable section

-- drayman/draymanref02.Count

abbrev draymanref02_Count_T (α : Type) : Type := ByteArray → (Int → Option α) → Option α

noncomputable def draymanref02_Count_g {α : Type} (draymanref02_Runes : draymanref02_Runes_T α) (s1 : ByteArray) (k : Int → Option α) : Option α :=
  (draymanref02_Runes s1 fun r2 r3 =>
    (cond (!r3)
      (k (-1))
      (k (r2.n : Int))))

noncomputable def draymanref02_Count {α : Type} : draymanref02_Count_T α := draymanref02_Count_g draymanref02_Runes

noncomputable def draymanref02_Count_sp {α : Type} (draymanref02_Count : draymanref02_Count_T α) : FunSpec α := ⟨12, [.str], [], fun ds k => draymanref02_Count (hdS ds) (fun r1 => k (enc dep (.int .i64) [.i r1]).1 [])⟩

noncomputable def draymanref02_Count_spec {α : Type} : FunSpec α := draymanref02_Count_sp draymanref02_Count

noncomputable def draymanref02_Count_C {α : Type} (draymanref02_Runes : draymanref02_Runes_T α) : List (FunSpec α) := [draymanref02_Runes_sp draymanref02_Runes]

noncomputable def draymanref02_Count_q : FuncId → Bool := fun f => false

noncomputable def draymanref02_Count_inl : FuncId → Bool := fun f => false

noncomputable def draymanref02_Count_ann : FuncId → AnnT := fun f p => ⟨[], [], [], [], 0, [], []⟩

noncomputable def draymanref02_Count_loops {α : Type} (draymanref02_Runes : draymanref02_Runes_T α) : List (LoopSpec α) := []

theorem draymanref02_Count_ev {α : Type} (draymanref02_Runes : draymanref02_Runes_T α) : EvOk (α := α) Go.Proofs.Tryd.prog (envOf (draymanref02_Count_C draymanref02_Runes) draymanref02_Count_q draymanref02_Count_inl 1000 draymanref02_Count_ann false (draymanref02_Count_loops draymanref02_Runes) (fun _ => none)) 6 (draymanref02_Count_sp (draymanref02_Count_g draymanref02_Runes)) := by intro ds k; kernel_rfl

theorem draymanref02_Count_ok {α : Type} : (draymanref02_Count_spec : FunSpec α).ok Go.Proofs.Tryd.prog :=
  FunSpec.ok_of (sp := draymanref02_Count_spec) (C := draymanref02_Count_C draymanref02_Runes) (q := draymanref02_Count_q) (inl := draymanref02_Count_inl) (N := 1000) (ann := draymanref02_Count_ann) (fr := false) (D := 6) (l := (draymanref02_Count_loops draymanref02_Runes)) (hk := (fun _ => none)) (okCons draymanref02_Runes_ok okNil) lokNil noHooks (draymanref02_Count_ev draymanref02_Runes)

end
end Go.Rv.Tryd
