/- Requests and replies, second part: their octets, and how these are read. -/
import Derived.Test.YtkcdjgmialniiaaE1
import Derived.Test.YtkcdjgmialniiaaPureMsgLib
set_option linter.unusedVariables false
set_option linter.unusedSimpArgs false
namespace Go.Rv.Try
open Go Go.Rv Go.RowKit
variable {α : Type}
def flB (b : Bool) : UInt8 := if b then 1 else 0
def entL (e : Ent) (t : List UInt8) : List UInt8 := intL e.1 ++ (intL e.2.1 ++ (intL e.2.2.1 ++ (flB e.2.2.2.1 :: (intL e.2.2.2.2.1 ++ (intL e.2.2.2.2.2.1 ++ (flB e.2.2.2.2.2.2.1 :: t))))))
def repL (e : Rep) (t : List UInt8) : List UInt8 := intL e.1 ++ (intL e.2.1 ++ (intL e.2.2.1 ++ (intL e.2.2.2.1 ++ (flB e.2.2.2.2.1 :: (intL e.2.2.2.2.2.1 ++ (intL e.2.2.2.2.2.2.1 ++ t))))))
def okE (e : Ent) : Prop := okI e.1 ∧ okI e.2.1 ∧ okI e.2.2.1 ∧ okI e.2.2.2.2.1 ∧ okI e.2.2.2.2.2.1
def okR (e : Rep) : Prop := okI e.1 ∧ okI e.2.1 ∧ okI e.2.2.1 ∧ okI e.2.2.2.1 ∧ okI e.2.2.2.2.2.1 ∧ okI e.2.2.2.2.2.2.1
def envL (x : Env) (t : List UInt8) : List UInt8 := intL 1 ++ (intL x.1 ++ (flB x.2.1 :: (if x.2.1 then entL (entOf x) t else repL (repOf x) t)))
theorem ints2 {a b : Int} (ha : okI a) (hb : okI b) (k : ByteArray → Option α) : wire_Ints (⟨false, 2, (tSel [(a, ()), (b, ())] (0, ()))⟩ : Seq (Int × Unit)) k = k (mkB (intL a ++ intL b)) := by
  rw [wire_Ints_is _ (by show 2 ≤ 900; omega) (fun i hi => by
    have : i = 0 ∨ i = 1 := by have : i < 2 := hi; omega
    rcases this with rfl | rfl
    · exact ha
    · exact hb)]
  show k (mkB (intL a ++ (intL b ++ []))) = _
  rw [List.append_nil]
theorem ints3 {a b c : Int} (ha : okI a) (hb : okI b) (hc : okI c) (k : ByteArray → Option α) : wire_Ints (⟨false, 3, (tSel [(a, ()), (b, ()), (c, ())] (0, ()))⟩ : Seq (Int × Unit)) k = k (mkB (intL a ++ (intL b ++ intL c))) := by
  rw [wire_Ints_is _ (by show 3 ≤ 900; omega) (fun i hi => by
    have : i = 0 ∨ i = 1 ∨ i = 2 := by have : i < 3 := hi; omega
    rcases this with rfl | rfl | rfl
    · exact ha
    · exact hb
    · exact hc)]
  show k (mkB (intL a ++ (intL b ++ (intL c ++ [])))) = _
  rw [List.append_nil]
theorem ints4 {a b c d : Int} (ha : okI a) (hb : okI b) (hc : okI c) (hd : okI d) (k : ByteArray → Option α) : wire_Ints (⟨false, 4, (tSel [(a, ()), (b, ()), (c, ()), (d, ())] (0, ()))⟩ : Seq (Int × Unit)) k = k (mkB (intL a ++ (intL b ++ (intL c ++ intL d)))) := by
  rw [wire_Ints_is _ (by show 4 ≤ 900; omega) (fun i hi => by
    have : i = 0 ∨ i = 1 ∨ i = 2 ∨ i = 3 := by have : i < 4 := hi; omega
    rcases this with rfl | rfl | rfl | rfl
    · exact ha
    · exact hb
    · exact hc
    · exact hd)]
  show k (mkB (intL a ++ (intL b ++ (intL c ++ (intL d ++ []))))) = _
  rw [List.append_nil]
theorem rints2 {a b : Int} (ha : okI a) (hb : okI b) (k : ByteArray → Option α) : draymanref03_Ints (⟨false, 2, (tSel [(a, ()), (b, ())] (0, ()))⟩ : Seq (Int × Unit)) k = k (mkB (intL a ++ intL b)) := by
  rw [ref_Ints_is _ (by show 2 ≤ 900; omega) (fun i hi => by
    have : i = 0 ∨ i = 1 := by have : i < 2 := hi; omega
    rcases this with rfl | rfl
    · exact ha
    · exact hb)]
  show k (mkB (intL a ++ (intL b ++ []))) = _
  rw [List.append_nil]
theorem rints3 {a b c : Int} (ha : okI a) (hb : okI b) (hc : okI c) (k : ByteArray → Option α) : draymanref03_Ints (⟨false, 3, (tSel [(a, ()), (b, ()), (c, ())] (0, ()))⟩ : Seq (Int × Unit)) k = k (mkB (intL a ++ (intL b ++ intL c))) := by
  rw [ref_Ints_is _ (by show 3 ≤ 900; omega) (fun i hi => by
    have : i = 0 ∨ i = 1 ∨ i = 2 := by have : i < 3 := hi; omega
    rcases this with rfl | rfl | rfl
    · exact ha
    · exact hb
    · exact hc)]
  show k (mkB (intL a ++ (intL b ++ (intL c ++ [])))) = _
  rw [List.append_nil]
theorem rints4 {a b c d : Int} (ha : okI a) (hb : okI b) (hc : okI c) (hd : okI d) (k : ByteArray → Option α) : draymanref03_Ints (⟨false, 4, (tSel [(a, ()), (b, ()), (c, ()), (d, ())] (0, ()))⟩ : Seq (Int × Unit)) k = k (mkB (intL a ++ (intL b ++ (intL c ++ intL d)))) := by
  rw [ref_Ints_is _ (by show 4 ≤ 900; omega) (fun i hi => by
    have : i = 0 ∨ i = 1 ∨ i = 2 ∨ i = 3 := by have : i < 4 := hi; omega
    rcases this with rfl | rfl | rfl | rfl
    · exact ha
    · exact hb
    · exact hc
    · exact hd)]
  show k (mkB (intL a ++ (intL b ++ (intL c ++ (intL d ++ []))))) = _
  rw [List.append_nil]
theorem PutEntry_is {e : Ent} (h : okE e) (k : ByteArray → Option α) : msg_PutEntry e k = k (mkB (entL e [])) := by
  obtain ⟨h1, h2, h3, h4, h5⟩ := h
  have l1 := intL_len h1; have l2 := intL_len h2; have l3 := intL_len h3; have l4 := intL_len h4; have l5 := intL_len h5
  unfold msg_PutEntry msg_PutEntry_g
  simp only [ints3 h1 h2 h3, ints2 h4 h5, flag_is, mkB_app, mkB_size, List.length_append, List.length_cons, List.length_nil]
  rw [bleT (by omega), cond_true, bleT (by omega), cond_true, bleT (by omega), cond_true]
  congr 2
  simp only [entL, flB, List.append_assoc, List.cons_append, List.nil_append]
theorem ref_PutEntry_is {e : Ent} (h : okE e) (k : ByteArray → Option α) : draymanref23_PutEntry e k = k (mkB (entL e [])) := by
  obtain ⟨h1, h2, h3, h4, h5⟩ := h
  have l1 := intL_len h1; have l2 := intL_len h2; have l3 := intL_len h3; have l4 := intL_len h4; have l5 := intL_len h5
  unfold draymanref23_PutEntry draymanref23_PutEntry_g
  simp only [rints3 h1 h2 h3, rints2 h4 h5, ref_flag_is, mkB_app, mkB_size, List.length_append, List.length_cons, List.length_nil]
  rw [bleT (by omega), cond_true, bleT (by omega), cond_true, bleT (by omega), cond_true]
  congr 2
  simp only [entL, flB, List.append_assoc, List.cons_append, List.nil_append]
theorem PutReply_is {e : Rep} (h : okR e) (k : ByteArray → Option α) : msg_PutReply e k = k (mkB (repL e [])) := by
  obtain ⟨h1, h2, h3, h4, h5, h6⟩ := h
  have l1 := intL_len h1; have l2 := intL_len h2; have l3 := intL_len h3; have l4 := intL_len h4; have l5 := intL_len h5; have l6 := intL_len h6
  have hi := fun k : ByteArray → Option α => ints2 h5 h6 k
  unfold msg_PutReply msg_PutReply_g
  rw [ints4 h1 h2 h3 h4, flag_is]
  simp only [mkB_app, mkB_size, List.length_append, List.length_cons, List.length_nil]
  rw [bleT (by omega), cond_true]
  refine (hi _).trans ?_
  simp only [mkB_app, mkB_size, List.length_append, List.length_cons, List.length_nil]
  rw [bleT (by omega), cond_true]
  congr 2
  simp only [repL, flB, List.append_assoc, List.cons_append, List.nil_append, List.append_nil]
theorem ref_PutReply_is {e : Rep} (h : okR e) (k : ByteArray → Option α) : draymanref23_PutReply e k = k (mkB (repL e [])) := by
  obtain ⟨h1, h2, h3, h4, h5, h6⟩ := h
  have l1 := intL_len h1; have l2 := intL_len h2; have l3 := intL_len h3; have l4 := intL_len h4; have l5 := intL_len h5; have l6 := intL_len h6
  have hi := fun k : ByteArray → Option α => rints2 h5 h6 k
  unfold draymanref23_PutReply draymanref23_PutReply_g
  rw [rints4 h1 h2 h3 h4, ref_flag_is]
  simp only [mkB_app, mkB_size, List.length_append, List.length_cons, List.length_nil]
  rw [bleT (by omega), cond_true]
  refine (hi _).trans ?_
  simp only [mkB_app, mkB_size, List.length_append, List.length_cons, List.length_nil]
  rw [bleT (by omega), cond_true]
  congr 2
  simp only [repL, flB, List.append_assoc, List.cons_append, List.nil_append, List.append_nil]
def okV (x : Env) : Prop := okI x.1 ∧ okE (entOf x) ∧ okR (repOf x)
theorem ok1 : okI 1 := by unfold okI; omega
theorem entL_len {e : Ent} (h : okE e) : (entL e []).length ≤ 60 := by
  obtain ⟨h1, h2, h3, h4, h5⟩ := h
  have l1 := intL_len h1; have l2 := intL_len h2; have l3 := intL_len h3; have l4 := intL_len h4; have l5 := intL_len h5
  simp only [entL, List.length_append, List.length_cons, List.length_nil]; omega
theorem repL_len {e : Rep} (h : okR e) : (repL e []).length ≤ 60 := by
  obtain ⟨h1, h2, h3, h4, h5, h6⟩ := h
  have l1 := intL_len h1; have l2 := intL_len h2; have l3 := intL_len h3; have l4 := intL_len h4; have l5 := intL_len h5; have l6 := intL_len h6
  simp only [repL, List.length_append, List.length_cons, List.length_nil]; omega
def putS (x : Env) : ByteArray × Int := if fitEnv x then (mkB (envL x []), 0) else (⟨#[]⟩, 1)
theorem Put_is {x : Env} (h : okV x) (k : ByteArray → Int → Option α) : msg_Put x k = k (putS x).1 (putS x).2 := by
  obtain ⟨h1, h2, h3⟩ := h
  have l1 := intL_len h1; have l2 := entL_len h2; have l3 := repL_len h3; have l4 := intL_len ok1
  unfold msg_Put msg_Put_g putS
  rw [MFit_is]
  cases fitEnv x with
  | false => rfl
  | true =>
    have he := fun k : ByteArray → Option α => PutEntry_is h2 k
    have hr := fun k : ByteArray → Option α => PutReply_is h3 k
    rw [ints2 ok1 h1, flag_is]
    simp only [mkB_app, mkB_size, List.length_append, List.length_cons, List.length_nil, Bool.not_true, cond_false, if_true]
    rw [bleT (by omega), cond_true]
    unfold envL
    cases hx : x.2.1 with
    | true =>
      rw [cond_true]
      refine (he _).trans ?_
      simp only [mkB_app, mkB_size, List.length_append, List.length_cons, List.length_nil]
      rw [bleT (by omega), cond_true]
      simp only [flB, List.append_assoc, List.cons_append, List.nil_append, if_true]
    | false =>
      rw [cond_false]
      refine (hr _).trans ?_
      simp only [mkB_app, mkB_size, List.length_append, List.length_cons, List.length_nil]
      rw [bleT (by omega), cond_true]
      simp only [flB, List.append_assoc, List.cons_append, List.nil_append, Bool.false_eq_true, if_false]
theorem ref_Put_is {x : Env} (h : okV x) (k : ByteArray → Int → Option α) : draymanref23_Put x k = k (putS x).1 (putS x).2 := by
  obtain ⟨h1, h2, h3⟩ := h
  have l1 := intL_len h1; have l2 := entL_len h2; have l3 := repL_len h3; have l4 := intL_len ok1
  unfold draymanref23_Put draymanref23_Put_g putS
  rw [ref_MFit_is]
  cases fitEnv x with
  | false => rfl
  | true =>
    have he := fun k : ByteArray → Option α => ref_PutEntry_is h2 k
    have hr := fun k : ByteArray → Option α => ref_PutReply_is h3 k
    rw [ref_Int_is ok1, ref_Int_is h1, ref_flag_is]
    simp only [intB, mkB_app, mkB_size, List.length_append, List.length_cons, List.length_nil, Bool.not_true, cond_false, if_true]
    rw [bleT (by omega), cond_true, bleT (by omega), cond_true]
    unfold envL
    cases hx : x.2.1 with
    | true =>
      rw [cond_true]
      refine (he _).trans ?_
      simp only [mkB_app, mkB_size, List.length_append, List.length_cons, List.length_nil]
      rw [bleT (by omega), cond_true]
      simp only [flB, List.append_assoc, List.cons_append, List.nil_append, if_true]
    | false =>
      rw [cond_false]
      refine (hr _).trans ?_
      simp only [mkB_app, mkB_size, List.length_append, List.length_cons, List.length_nil]
      rw [bleT (by omega), cond_true]
      simp only [flB, List.append_assoc, List.cons_append, List.nil_append, Bool.false_eq_true, if_false]
/-! ### Read -/
def rdW (x : Rdr) : Int × Rdr := rdInt (-9223372036854775808) 9223372036854775807 x
def SzR (x : Rdr) : Prop := x.1.size ≤ 4000000000000
theorem SzW {x : Rdr} (h : SzR x) : SzR (rdW x).2 := Nat.le_trans (rdInt_size _ _ x) h
theorem SzF {x : Rdr} (h : SzR x) : SzR (rdFlag x).2 := Nat.le_trans (rdFlag_size x) h
/-- A reader that is bad has nothing left. -/
def BadE (x : Rdr) : Prop := x.2.1 = true ∨ x = badR
theorem badW (x : Rdr) : BadE (rdW x).2 := by
  rcases rdInt_cases (-9223372036854775808) 9223372036854775807 x with h | h
  · exact .inl h.1
  · right; show (rdInt _ _ x).2 = _; rw [h]
theorem badF (x : Rdr) : BadE (rdFlag x).2 := by
  unfold rdFlag
  split
  · split
    · exact .inl rfl
    · exact .inr rfl
  · exact .inr rfl
theorem W_is {x : Rdr} (h : SzR x) (k : Int → Rdr → Option α) : wire_Reader_Int (-9223372036854775808) 9223372036854775807 x k = k (rdW x).1 (rdW x).2 := rInt_is _ _ x h k
theorem ref_W_is {x : Rdr} (h : SzR x) (k : Int → Rdr → Option α) : draymanref23_wide (flip x) k = k (rdW x).1 (flip (rdW x).2) := by
  unfold draymanref23_wide draymanref23_wide_g
  rw [ref_rInt_is _ _ x h]; rfl
theorem bad_is {x : Rdr} (h : BadE x) (k : Bool → Rdr → Option α) : msg_bad x k = k (!x.2.1) x := by
  unfold msg_bad msg_bad_g
  rw [rLeft_is]
  rcases h with h | rfl
  · by_cases hz : x.1.size = 0
    · rw [beqT (by omega), cond_true, rDone_is, h]
      unfold rdDone
      rw [h, decide_eq_true hz]; rfl
    · rw [beqF (by omega), cond_false, h]; rfl
  · rfl
def rdEnt (x : Rdr) : Ent × Rdr :=
  let a := rdW x; let b := rdW a.2; let c := rdW b.2; let d := rdFlag c.2; let e := rdW d.2; let f := rdW e.2; let g := rdFlag f.2
  (if g.2.2.1 then (a.1, b.1, c.1, d.1, e.1, f.1, g.1, ()) else zE, g.2)
def rdRep (x : Rdr) : Rep × Rdr :=
  let a := rdW x; let b := rdW a.2; let c := rdW b.2; let d := rdW c.2; let e := rdFlag d.2; let f := rdW e.2; let g := rdW f.2
  (if g.2.2.1 then (a.1, b.1, c.1, d.1, e.1, f.1, g.1, ()) else zR, g.2)
theorem TakeEntry_is {x : Rdr} (h : SzR x) (k : Ent → Rdr → Option α) : msg_TakeEntry x k = k (rdEnt x).1 (rdEnt x).2 := by
  unfold msg_TakeEntry msg_TakeEntry_g
  rw [W_is h, W_is (SzW h), W_is (SzW (SzW h)), rFlag_is, W_is (SzF (SzW (SzW (SzW h)))), W_is (SzW (SzF (SzW (SzW (SzW h))))), rFlag_is, bad_is (badF _)]
  unfold rdEnt
  cases hg : (rdFlag (rdW (rdW (rdFlag (rdW (rdW (rdW x).2).2).2).2).2).2).2.2.1 <;> (simp only [hg]; rfl)
theorem ref_TakeEntry_is {x : Rdr} (h : SzR x) (k : Ent → Rdr → Option α) : draymanref23_TakeEntry (flip x) k = k (rdEnt x).1 (flip (rdEnt x).2) := by
  unfold draymanref23_TakeEntry draymanref23_TakeEntry_g
  rw [ref_W_is h, ref_W_is (SzW h), ref_W_is (SzW (SzW h)), ref_rFlag_is, ref_W_is (SzF (SzW (SzW (SzW h)))), ref_W_is (SzW (SzF (SzW (SzW (SzW h))))), ref_rFlag_is]
  unfold rdEnt
  show cond (!(rdFlag (rdW (rdW (rdFlag (rdW (rdW (rdW x).2).2).2).2).2).2).2.2.1) _ _ = _
  cases hg : (rdFlag (rdW (rdW (rdFlag (rdW (rdW (rdW x).2).2).2).2).2).2).2.2.1 <;> (simp only [hg]; rfl)
theorem TakeReply_is {x : Rdr} (h : SzR x) (k : Rep → Rdr → Option α) : msg_TakeReply x k = k (rdRep x).1 (rdRep x).2 := by
  unfold msg_TakeReply msg_TakeReply_g
  rw [W_is h, W_is (SzW h), W_is (SzW (SzW h)), W_is (SzW (SzW (SzW h))), rFlag_is, W_is (SzF (SzW (SzW (SzW (SzW h))))), W_is (SzW (SzF (SzW (SzW (SzW (SzW h)))))), bad_is (badW _)]
  unfold rdRep
  cases hg : (rdW (rdW (rdFlag (rdW (rdW (rdW (rdW x).2).2).2).2).2).2).2.2.1 <;> (simp only [hg]; rfl)
theorem ref_TakeReply_is {x : Rdr} (h : SzR x) (k : Rep → Rdr → Option α) : draymanref23_TakeReply (flip x) k = k (rdRep x).1 (flip (rdRep x).2) := by
  unfold draymanref23_TakeReply draymanref23_TakeReply_g
  rw [ref_W_is h, ref_W_is (SzW h), ref_W_is (SzW (SzW h)), ref_W_is (SzW (SzW (SzW h))), ref_rFlag_is, ref_W_is (SzF (SzW (SzW (SzW (SzW h))))), ref_W_is (SzW (SzF (SzW (SzW (SzW (SzW h))))))]
  unfold rdRep
  show cond (!(rdW (rdW (rdFlag (rdW (rdW (rdW (rdW x).2).2).2).2).2).2).2.2.1) _ _ = _
  cases hg : (rdW (rdW (rdFlag (rdW (rdW (rdW (rdW x).2).2).2).2).2).2).2.2.1 <;> (simp only [hg]; rfl)
theorem SzEnt {x : Rdr} (h : SzR x) : SzR (rdEnt x).2 := SzF (SzW (SzW (SzF (SzW (SzW (SzW h))))))
theorem SzRep {x : Rdr} (h : SzR x) : SzR (rdRep x).2 := SzW (SzW (SzF (SzW (SzW (SzW (SzW h))))))
/-- The envelope behind its version, and the reader then. -/
def rdEnv (x : Rdr) : Env × Rdr :=
  let n := rdW x; let f := rdFlag n.2
  if f.1 then (let e := rdEnt f.2; (envE n.1 f.1 (servS e.1.2.2.2.2.1) e.1 zR, e.2)) else (let r := rdRep f.2; (envE n.1 f.1 r.1.1 zE r.1, r.2))
def tellS (p : Env × Rdr) : Env × Int := if rdDone p.2 && fitEnv p.1 then (p.1, 0) else (zV, 7)
def takeS (s : ByteArray) : Env × Int := tellS (rdEnv (rdInt 1 1 (s, true, ())).2)
theorem tell_k (p : Env × Rdr) (k : Env → Int → Option α) : cond (!(!rdDone p.2)) (cond (!fitEnv p.1) (k zV 7) (k p.1 0)) (k zV 7) = k (tellS p).1 (tellS p).2 := by
  unfold tellS
  cases rdDone p.2 with
  | false => rfl
  | true => cases fitEnv p.1 <;> rfl
theorem restT {x : Rdr} (h : SzR x) (n : Int) (k : Env → Int → Option α) :
    (msg_TakeEntry x fun r8 r9 =>
      (outbox_Service r8.2.2.2.2.1 fun r10 =>
        (wire_Reader_Done r9 fun r11 r12 =>
          (cond (!(!r11))
            (msg_Fit (n, true, r10, r8.1, r8.2.1, r8.2.2.1, r8.2.2.2.1, r8.2.2.2.2.1, r8.2.2.2.2.2.1, r8.2.2.2.2.2.2.1, 0, 0, 0, 0, false, 0, 0, ()) fun r13 =>
              (cond (!r13)
                (k (0, false, 0, 0, 0, 0, false, 0, 0, false, 0, 0, 0, 0, false, 0, 0, ()) 7)
                (k (n, true, r10, r8.1, r8.2.1, r8.2.2.1, r8.2.2.2.1, r8.2.2.2.2.1, r8.2.2.2.2.2.1, r8.2.2.2.2.2.2.1, 0, 0, 0, 0, false, 0, 0, ()) 0)))
            (k (0, false, 0, 0, 0, 0, false, 0, 0, false, 0, 0, 0, 0, false, 0, 0, ()) 7))))) = k (tellS (envE n true (servS (rdEnt x).1.2.2.2.2.1) (rdEnt x).1 zR, (rdEnt x).2)).1 (tellS (envE n true (servS (rdEnt x).1.2.2.2.2.1) (rdEnt x).1 zR, (rdEnt x).2)).2 := by
  rw [TakeEntry_is h]
  generalize rdEnt x = p
  obtain ⟨e, y⟩ := p
  dsimp only
  rw [Service_is, rDone_is]
  generalize servS e.2.2.2.2.1 = sv
  rw [MFit_is]
  exact tell_k (envE n true sv e zR, y) k
theorem restF {x : Rdr} (h : SzR x) (n : Int) (k : Env → Int → Option α) :
    (msg_TakeReply x fun r14 r15 =>
      (wire_Reader_Done r15 fun r16 r17 =>
        (cond (!(!r16))
          (msg_Fit (n, false, r14.1, 0, 0, 0, false, 0, 0, false, r14.1, r14.2.1, r14.2.2.1, r14.2.2.2.1, r14.2.2.2.2.1, r14.2.2.2.2.2.1, r14.2.2.2.2.2.2.1, ()) fun r18 =>
            (cond (!r18)
              (k (0, false, 0, 0, 0, 0, false, 0, 0, false, 0, 0, 0, 0, false, 0, 0, ()) 7)
              (k (n, false, r14.1, 0, 0, 0, false, 0, 0, false, r14.1, r14.2.1, r14.2.2.1, r14.2.2.2.1, r14.2.2.2.2.1, r14.2.2.2.2.2.1, r14.2.2.2.2.2.2.1, ()) 0)))
          (k (0, false, 0, 0, 0, 0, false, 0, 0, false, 0, 0, 0, 0, false, 0, 0, ()) 7)))) = k (tellS (envE n false (rdRep x).1.1 zE (rdRep x).1, (rdRep x).2)).1 (tellS (envE n false (rdRep x).1.1 zE (rdRep x).1, (rdRep x).2)).2 := by
  rw [TakeReply_is h]
  generalize rdRep x = p
  obtain ⟨e, y⟩ := p
  dsimp only
  rw [rDone_is, MFit_is]
  exact tell_k (envE n false e.1 zE e, y) k
theorem rdEnv_T {x : Rdr} (hf : (rdFlag (rdW x).2).1 = true) : rdEnv x = (envE (rdW x).1 true (servS (rdEnt (rdFlag (rdW x).2).2).1.2.2.2.2.1) (rdEnt (rdFlag (rdW x).2).2).1 zR, (rdEnt (rdFlag (rdW x).2).2).2) := by
  unfold rdEnv; simp only [hf, if_true]
theorem rdEnv_F {x : Rdr} (hf : (rdFlag (rdW x).2).1 = false) : rdEnv x = (envE (rdW x).1 false (rdRep (rdFlag (rdW x).2).2).1.1 zE (rdRep (rdFlag (rdW x).2).2).1, (rdRep (rdFlag (rdW x).2).2).2) := by
  unfold rdEnv; simp only [hf, Bool.false_eq_true, if_false]
theorem rest_is {x : Rdr} (h : SzR x) (k : Env → Int → Option α) :
    (wire_Reader_Int (-9223372036854775808) 9223372036854775807 x fun r4 r5 =>
      (wire_Reader_Flag r5 fun r6 r7 =>
        (cond r6
          (msg_TakeEntry r7 fun r8 r9 =>
            (outbox_Service r8.2.2.2.2.1 fun r10 =>
              (wire_Reader_Done r9 fun r11 r12 =>
                (cond (!(!r11))
                  (msg_Fit (r4, r6, r10, r8.1, r8.2.1, r8.2.2.1, r8.2.2.2.1, r8.2.2.2.2.1, r8.2.2.2.2.2.1, r8.2.2.2.2.2.2.1, 0, 0, 0, 0, false, 0, 0, ()) fun r13 =>
                    (cond (!r13)
                      (k (0, false, 0, 0, 0, 0, false, 0, 0, false, 0, 0, 0, 0, false, 0, 0, ()) 7)
                      (k (r4, r6, r10, r8.1, r8.2.1, r8.2.2.1, r8.2.2.2.1, r8.2.2.2.2.1, r8.2.2.2.2.2.1, r8.2.2.2.2.2.2.1, 0, 0, 0, 0, false, 0, 0, ()) 0)))
                  (k (0, false, 0, 0, 0, 0, false, 0, 0, false, 0, 0, 0, 0, false, 0, 0, ()) 7)))))
          (msg_TakeReply r7 fun r14 r15 =>
            (wire_Reader_Done r15 fun r16 r17 =>
              (cond (!(!r16))
                (msg_Fit (r4, r6, r14.1, 0, 0, 0, false, 0, 0, false, r14.1, r14.2.1, r14.2.2.1, r14.2.2.2.1, r14.2.2.2.2.1, r14.2.2.2.2.2.1, r14.2.2.2.2.2.2.1, ()) fun r18 =>
                  (cond (!r18)
                    (k (0, false, 0, 0, 0, 0, false, 0, 0, false, 0, 0, 0, 0, false, 0, 0, ()) 7)
                    (k (r4, r6, r14.1, 0, 0, 0, false, 0, 0, false, r14.1, r14.2.1, r14.2.2.1, r14.2.2.2.1, r14.2.2.2.2.1, r14.2.2.2.2.2.1, r14.2.2.2.2.2.2.1, ()) 0)))
                (k (0, false, 0, 0, 0, 0, false, 0, 0, false, 0, 0, 0, 0, false, 0, 0, ()) 7))))))) = k (tellS (rdEnv x)).1 (tellS (rdEnv x)).2 := by
  rw [W_is h, rFlag_is]
  have h2 := SzF (SzW h)
  cases hf : (rdFlag (rdW x).2).1 with
  | true => rw [cond_true, rdEnv_T hf]; exact restT h2 _ k
  | false => rw [cond_false, rdEnv_F hf]; exact restF h2 _ k
theorem Take_is {s : ByteArray} (hs : s.size ≤ 4000000000000) (k : Env → Int → Option α) : msg_Take s k = k (takeS s).1 (takeS s).2 := by
  unfold msg_Take msg_Take_g
  rw [rInt_is _ _ _ hs]
  exact rest_is (Nat.le_trans (rdInt_size _ _ _) hs) k
/-! ### Read as the document reads -/
theorem ref_Done_is (x : Rdr) (k : Bool → Rdr → Option α) : draymanref03_Reader_Done (flip x) k = k (rdDone x) (flip x) := ref_rDone_is x k
theorem bad_rest (p : Env × Rdr) (h : rdDone p.2 = false) : tellS p = (zV, 7) := by unfold tellS; rw [h]; rfl
theorem ref_rest {x : Rdr} (h : SzR x) (v : Int) (k : Env → Int → Option α) (hv : v = 1 ∨ rdDone (rdEnv x).2 = false ∨ True) :
    (draymanref23_wide (flip x) fun r4 r5 =>
      (draymanref03_Reader_Flag r5 fun r6 r7 =>
        (cond r6
          (draymanref23_TakeEntry r7 fun r8 r9 =>
            (draymanref17_Service r8.2.2.2.2.1 fun r10 =>
              (cond (!(v != 1))
                (draymanref03_Reader_Done r9 fun r11 r12 =>
                  (cond (!(!r11))
                    (draymanref23_Fit (r4, r6, r10, r8.1, r8.2.1, r8.2.2.1, r8.2.2.2.1, r8.2.2.2.2.1, r8.2.2.2.2.2.1, r8.2.2.2.2.2.2.1, 0, 0, 0, 0, false, 0, 0, ()) fun r13 =>
                      (cond (!r13)
                        (k (0, false, 0, 0, 0, 0, false, 0, 0, false, 0, 0, 0, 0, false, 0, 0, ()) 7)
                        (k (r4, r6, r10, r8.1, r8.2.1, r8.2.2.1, r8.2.2.2.1, r8.2.2.2.2.1, r8.2.2.2.2.2.1, r8.2.2.2.2.2.2.1, 0, 0, 0, 0, false, 0, 0, ()) 0)))
                    (k (0, false, 0, 0, 0, 0, false, 0, 0, false, 0, 0, 0, 0, false, 0, 0, ()) 7)))
                (k (0, false, 0, 0, 0, 0, false, 0, 0, false, 0, 0, 0, 0, false, 0, 0, ()) 7))))
          (draymanref23_TakeReply r7 fun r14 r15 =>
            (cond (!(v != 1))
              (draymanref03_Reader_Done r15 fun r16 r17 =>
                (cond (!(!r16))
                  (draymanref23_Fit (r4, r6, r14.1, 0, 0, 0, false, 0, 0, false, r14.1, r14.2.1, r14.2.2.1, r14.2.2.2.1, r14.2.2.2.2.1, r14.2.2.2.2.2.1, r14.2.2.2.2.2.2.1, ()) fun r18 =>
                    (cond (!r18)
                      (k (0, false, 0, 0, 0, 0, false, 0, 0, false, 0, 0, 0, 0, false, 0, 0, ()) 7)
                      (k (r4, r6, r14.1, 0, 0, 0, false, 0, 0, false, r14.1, r14.2.1, r14.2.2.1, r14.2.2.2.1, r14.2.2.2.2.1, r14.2.2.2.2.2.1, r14.2.2.2.2.2.2.1, ()) 0)))
                  (k (0, false, 0, 0, 0, 0, false, 0, 0, false, 0, 0, 0, 0, false, 0, 0, ()) 7)))
              (k (0, false, 0, 0, 0, 0, false, 0, 0, false, 0, 0, 0, 0, false, 0, 0, ()) 7)))))) = if v = 1 then k (tellS (rdEnv x)).1 (tellS (rdEnv x)).2 else k zV 7 := by
  rw [ref_W_is h, ref_rFlag_is]
  have h2 := SzF (SzW h)
  by_cases hv : v = 1
  · rw [if_pos hv]
    refine Eq.trans ?_ (tell_k (rdEnv x) k)
    unfold rdEnv
    cases hf : (rdFlag (rdW x).2).1 with
    | true =>
      simp only [hf, cond_true, if_true]
      rw [ref_TakeEntry_is h2, ref_Service_is, bneF hv, ref_Done_is, ref_MFit_is]
      rfl
    | false =>
      simp only [hf, cond_false, Bool.false_eq_true, if_false]
      rw [ref_TakeReply_is h2, bneF hv, ref_Done_is, ref_MFit_is]
      rfl
  · rw [if_neg hv]
    cases hf : (rdFlag (rdW x).2).1 with
    | true =>
      rw [cond_true, ref_TakeEntry_is h2, ref_Service_is, bneT hv]; rfl
    | false =>
      rw [cond_false, ref_TakeReply_is h2, bneT hv]; rfl
theorem rdW_bad : rdW badR = (0, badR) := rfl
theorem rdFlag_bad : rdFlag badR = (false, badR) := rfl
theorem rdRep_bad : rdRep badR = (zR, badR) := rfl
theorem rdEnv_bad : (rdEnv badR).2 = badR := rfl
theorem rdInt_11 (s : ByteArray) : ((rdW (s, true, ())).1 = 1 ∧ rdInt 1 1 (s, true, ()) = rdW (s, true, ())) ∨ ((rdW (s, true, ())).1 ≠ 1 ∧ rdInt 1 1 (s, true, ()) = (0, badR)) := by
  unfold rdW rdInt
  dsimp only
  cases hn : numL s.toList with
  | none => exact .inr ⟨by show (0 : Int) ≠ 1; decide, rfl⟩
  | some p =>
    obtain ⟨n, m⟩ := p
    have hok := (numL_le hn).2.2.2
    unfold okI at hok
    dsimp only
    rw [if_pos (show -9223372036854775808 ≤ n ∧ n ≤ 9223372036854775807 from hok)]
    by_cases h : n = 1
    · left; exact ⟨h, by rw [if_pos (by omega)]⟩
    · right; exact ⟨h, by rw [if_neg (by omega)]⟩
theorem ref_Take_is {s : ByteArray} (hs : s.size ≤ 4000000000000) (k : Env → Int → Option α) : draymanref23_Take s k = k (takeS s).1 (takeS s).2 := by
  unfold draymanref23_Take draymanref23_Take_g
  have h0 : SzR (s, true, ()) := hs
  rw [show ((s, false, ()) : Rdr) = flip (s, true, ()) from rfl, ref_W_is h0]
  refine (ref_rest (SzW h0) _ k (.inr (.inr trivial))).trans ?_
  unfold takeS
  rcases rdInt_11 s with ⟨h1, h2⟩ | ⟨h1, h2⟩
  · rw [if_pos h1, h2]
  · rw [if_neg h1, h2, bad_rest _ (by rw [rdEnv_bad]; rfl)]
/-! ### There and back -/
theorem rdW_int {n : Int} (h : okI n) (t : List UInt8) : rdW (mkB (intL n ++ t), true, ()) = (n, (mkB t, true, ())) := rdInt_int h h.1 h.2 t
theorem rdF_fl (b : Bool) (t : List UInt8) : rdFlag (mkB (flB b :: t), true, ()) = (b, (mkB t, true, ())) := rdFlag_flag b t
theorem rdEnt_put {e : Ent} (h : okE e) (t : List UInt8) : rdEnt (mkB (entL e t), true, ()) = (e, (mkB t, true, ())) := by
  obtain ⟨h1, h2, h3, h4, h5⟩ := h
  unfold rdEnt entL
  simp only [rdW_int h1, rdW_int h2, rdW_int h3, rdW_int h4, rdW_int h5, rdF_fl, if_true]
theorem rdRep_put {e : Rep} (h : okR e) (t : List UInt8) : rdRep (mkB (repL e t), true, ()) = (e, (mkB t, true, ())) := by
  obtain ⟨h1, h2, h3, h4, h5, h6⟩ := h
  unfold rdRep repL
  simp only [rdW_int h1, rdW_int h2, rdW_int h3, rdW_int h4, rdW_int h5, rdW_int h6, rdF_fl, if_true]
theorem rdDone_t (t : List UInt8) : rdDone (mkB t, true, ()) = decide (t = []) := by
  unfold rdDone
  rw [Bool.true_and, mkB_size]
  cases t with
  | nil => rfl
  | cons a t => rw [decide_eq_false (by simp), decide_eq_false (by simp)]
theorem fit_shape {x : Env} (h : fitEnv x = true) : if x.2.1 then x = envE x.1 x.2.1 (servS (entOf x).2.2.2.2.1) (entOf x) zR else x = envE x.1 x.2.1 (repOf x).1 zE (repOf x) := by
  unfold fitEnv at h
  cases hx : x.2.1 with
  | true =>
    rw [hx] at h
    simp only [if_true, Bool.and_eq_true, decide_eq_true_eq] at h ⊢
    obtain ⟨_, _, hs, hr⟩ := h
    have := env_eta x
    rw [hx, hr, hs] at this
    exact this.symm
  | false =>
    rw [hx] at h
    simp only [Bool.false_eq_true, if_false, Bool.and_eq_true, decide_eq_true_eq] at h ⊢
    obtain ⟨_, _, hs, hr⟩ := h
    have := env_eta x
    rw [hx, hr, hs] at this
    exact this.symm
theorem take_put {x : Env} (hok : okV x) (h : fitEnv x = true) (t : List UInt8) : takeS (mkB (envL x t)) = if t = [] then (x, 0) else (zV, 7) := by
  obtain ⟨h1, h2, h3⟩ := hok
  have hsh := fit_shape h
  unfold takeS envL
  rw [rdInt_int ok1 (by decide) (by decide)]
  have hE : rdEnv (mkB (intL x.1 ++ (flB x.2.1 :: (if x.2.1 then entL (entOf x) t else repL (repOf x) t))), true, ()) = (x, (mkB t, true, ())) := by
    unfold rdEnv
    simp only [rdW_int h1, rdF_fl]
    cases hx : x.2.1 with
    | true =>
      rw [hx] at hsh
      simp only [if_true] at hsh ⊢
      rw [rdEnt_put h2]
      exact Prod.ext hsh.symm rfl
    | false =>
      rw [hx] at hsh
      simp only [Bool.false_eq_true, if_false] at hsh ⊢
      rw [rdRep_put h3]
      exact Prod.ext hsh.symm rfl
  show tellS (rdEnv _) = _
  rw [hE]
  unfold tellS
  simp only [rdDone_t, h, Bool.and_true]
  by_cases ht : t = []
  · rw [if_pos ht, decide_eq_true ht]; rfl
  · rw [if_neg ht, decide_eq_false ht]; rfl
/-- What was read well stood there. -/
theorem rdInt_stood {low high : Int} {x : Rdr} (h : (rdInt low high x).2.2.1 = true) : x.2.1 = true ∧ okI (rdInt low high x).1 ∧ x.1.toList = intL (rdInt low high x).1 ++ (rdInt low high x).2.1.toList := by
  obtain ⟨s, g, ⟨⟩⟩ := x
  unfold rdInt at h ⊢
  dsimp only at h ⊢
  cases g with
  | false => cases h
  | true =>
    cases hn : numL s.toList with
    | none => rw [hn] at h; cases h
    | some p =>
      obtain ⟨n, m⟩ := p
      rw [hn] at h
      dsimp only at h ⊢
      by_cases hc : low ≤ n ∧ n ≤ high
      · rw [if_pos hc]
        refine ⟨rfl, (numL_le hn).2.2.2, ?_⟩
        dsimp only
        rw [numL_canon hn, L_extract, L_size, List.take_length, List.take_append_drop]
      · rw [if_neg hc] at h; cases h
theorem rdFlag_stood {x : Rdr} (h : (rdFlag x).2.2.1 = true) : x.2.1 = true ∧ x.1.toList = flB (rdFlag x).1 :: (rdFlag x).2.1.toList := by
  obtain ⟨s, g, ⟨⟩⟩ := x
  unfold rdFlag at h ⊢
  dsimp only at h ⊢
  cases g with
  | false => cases h
  | true =>
    cases hl : s.toList with
    | nil => rw [hl] at h; cases h
    | cons c l =>
      rw [hl] at h
      dsimp only at h ⊢
      by_cases hc : c.toNat ≤ 1
      · rw [if_pos hc]
        refine ⟨rfl, ?_⟩
        dsimp only
        rw [L_extract, L_size, List.take_length, hl, List.drop_one, List.tail_cons]
        congr 1
        unfold flB
        by_cases h1 : c.toNat = 1
        · rw [decide_eq_true h1, if_pos rfl]; exact UInt8.toNat_inj.1 h1
        · rw [decide_eq_false h1, if_neg (by decide)]; exact UInt8.toNat_inj.1 (show c.toNat = 0 by omega)
      · rw [if_neg hc] at h; cases h
theorem rdW_stood {x : Rdr} (h : (rdW x).2.2.1 = true) : x.2.1 = true ∧ okI (rdW x).1 ∧ x.1.toList = intL (rdW x).1 ++ (rdW x).2.1.toList := rdInt_stood h
theorem rdEnt_stood {x : Rdr} (h : (rdEnt x).2.2.1 = true) : x.2.1 = true ∧ okE (rdEnt x).1 ∧ x.1.toList = entL (rdEnt x).1 (rdEnt x).2.1.toList := by
  have h7 : (rdFlag (rdW (rdW (rdFlag (rdW (rdW (rdW x).2).2).2).2).2).2).2.2.1 = true := h
  obtain ⟨g6, e7⟩ := rdFlag_stood h7
  obtain ⟨g5, o6, e6⟩ := rdW_stood g6
  obtain ⟨g4, o5, e5⟩ := rdW_stood g5
  obtain ⟨g3, e4⟩ := rdFlag_stood g4
  obtain ⟨g2, o3, e3⟩ := rdW_stood g3
  obtain ⟨g1, o2, e2⟩ := rdW_stood g2
  obtain ⟨g0, o1, e1⟩ := rdW_stood g1
  unfold rdEnt
  simp only [h7, if_true]
  refine ⟨g0, ⟨o1, o2, o3, o5, o6⟩, ?_⟩
  unfold entL
  rw [e1, e2, e3, e4, e5, e6, e7]
theorem rdRep_stood {x : Rdr} (h : (rdRep x).2.2.1 = true) : x.2.1 = true ∧ okR (rdRep x).1 ∧ x.1.toList = repL (rdRep x).1 (rdRep x).2.1.toList := by
  have h7 : (rdW (rdW (rdFlag (rdW (rdW (rdW (rdW x).2).2).2).2).2).2).2.2.1 = true := h
  obtain ⟨g6, o7, e7⟩ := rdW_stood h7
  obtain ⟨g5, o6, e6⟩ := rdW_stood g6
  obtain ⟨g4, e5⟩ := rdFlag_stood g5
  obtain ⟨g3, o4, e4⟩ := rdW_stood g4
  obtain ⟨g2, o3, e3⟩ := rdW_stood g3
  obtain ⟨g1, o2, e2⟩ := rdW_stood g2
  obtain ⟨g0, o1, e1⟩ := rdW_stood g1
  unfold rdRep
  simp only [h7, if_true]
  refine ⟨g0, ⟨o1, o2, o3, o4, o6, o7⟩, ?_⟩
  unfold repL
  rw [e1, e2, e3, e4, e5, e6, e7]
theorem okE0 : okE zE := by unfold okE okI zE; simp only; omega
theorem okR0 : okR zR := by unfold okR okI zR; simp only; omega
theorem rdEnv_stood {x : Rdr} (h : (rdEnv x).2.2.1 = true) : x.2.1 = true ∧ okV (rdEnv x).1 ∧ x.1.toList = intL (rdEnv x).1.1 ++ (flB (rdEnv x).1.2.1 :: (if (rdEnv x).1.2.1 then entL (entOf (rdEnv x).1) (rdEnv x).2.1.toList else repL (repOf (rdEnv x).1) (rdEnv x).2.1.toList)) := by
  unfold rdEnv at h ⊢
  cases hf : (rdFlag (rdW x).2).1 with
  | true =>
    simp only [hf, if_true] at h ⊢
    obtain ⟨g2, o3, e3⟩ := rdEnt_stood h
    obtain ⟨g1, e2⟩ := rdFlag_stood g2
    obtain ⟨g0, o1, e1⟩ := rdW_stood g1
    refine ⟨g0, ⟨o1, o3, okR0⟩, ?_⟩
    rw [e1, e2, e3, hf]
    rfl
  | false =>
    simp only [hf, Bool.false_eq_true, if_false] at h ⊢
    obtain ⟨g2, o3, e3⟩ := rdRep_stood h
    obtain ⟨g1, e2⟩ := rdFlag_stood g2
    obtain ⟨g0, o1, e1⟩ := rdW_stood g1
    refine ⟨g0, ⟨o1, okE0, o3⟩, ?_⟩
    rw [e1, e2, e3, hf]
    rfl
theorem rdDone_iff {x : Rdr} (h : rdDone x = true) : x.2.1 = true ∧ x.1.toList = [] := by
  unfold rdDone at h
  simp only [Bool.and_eq_true, decide_eq_true_eq] at h
  exact ⟨h.1, List.length_eq_zero_iff.1 (by rw [← L_size]; exact h.2)⟩
/-- Octets that are an envelope's are its. -/
theorem take_stood {s : ByteArray} (h : (takeS s).2 = 0) : okV (takeS s).1 ∧ fitEnv (takeS s).1 = true ∧ s = mkB (envL (takeS s).1 []) := by
  unfold takeS at h ⊢
  have hd : (rdDone (rdEnv (rdInt 1 1 (s, true, ())).2).2 && fitEnv (rdEnv (rdInt 1 1 (s, true, ())).2).1) = true := by
    unfold tellS at h
    cases hq : (rdDone (rdEnv (rdInt 1 1 (s, true, ())).2).2 && fitEnv (rdEnv (rdInt 1 1 (s, true, ())).2).1) with
    | true => rfl
    | false => rw [hq] at h; cases h
  have ht : tellS (rdEnv (rdInt 1 1 (s, true, ())).2) = ((rdEnv (rdInt 1 1 (s, true, ())).2).1, 0) := by
    unfold tellS; rw [hd]; rfl
  rw [ht]
  rw [Bool.and_eq_true] at hd
  obtain ⟨hd, hf⟩ := hd
  obtain ⟨hg, hl⟩ := rdDone_iff hd
  obtain ⟨g1, o1, e1⟩ := rdEnv_stood hg
  obtain ⟨g0, o0, e0⟩ := rdInt_stood g1
  refine ⟨o1, hf, ?_⟩
  have hone : (rdInt 1 1 (s, true, ())).1 = 1 := by
    rcases rdInt_cases 1 1 (s, true, ()) with c | c
    · omega
    · rw [c] at g1; cases g1
  apply L_inj
  rw [toL_mkB]
  unfold envL
  rw [hl] at e1
  rw [← e1]
  rw [hone] at e0
  exact e0
end Go.Rv.Try
