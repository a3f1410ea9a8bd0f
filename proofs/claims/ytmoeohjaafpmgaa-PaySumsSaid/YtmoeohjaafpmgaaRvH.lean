/- Rv, part H: the other operations that write nothing that was there. Of no program. -/
import Derived.Test.YtmoeohjaafpmgaaRvG
set_option linter.unusedVariables false
set_option linter.unusedSimpArgs false
set_option linter.unusedSectionVars false
namespace Go.Rv
open Go Go.RowKit
variable [Fx]
section
variable {P : Program} {base : Base} {w0 : World} {ks : List (Array Value)} {st : St} {a : Act} {w : World} {c : Cx} {o : Oper} {v : V} {bs : List B} {b : Bool}

theorem mono_nilCheck (h : Rel base w0 ks st a w c) {x : Operand} (hop : o.op = .nilCheck x) (he : evMono P st st.h.length o.type o.op = some (b, v, bs)) : MonoOK P base w0 ks st a w c o v bs := by
  rw [hop] at he
  simp only [evMono] at he
  have hx := h.ev x
  split at he
  · rename_i r off e
    simp only [Option.some.injEq, Prod.mk.injEq] at he
    obtain ⟨_, rfl, rfl⟩ := he
    rw [e] at hx
    refine .stay h ?_ hx
    obtain ⟨_, k, _, hk⟩ := hx.ref_inv
    simp [execOp, hop, hk]
  · rename_i cs e
    simp only [Option.some.injEq, Prod.mk.injEq] at he
    obtain ⟨_, rfl, rfl⟩ := he
    rw [e] at hx
    refine .stay h ?_ hx
    cases hx with
    | im _ _ hd =>
      generalize hy : a.eval x = y at hd
      cases hd
      simp [execOp, hop, hy]
  · rename_i r s i off e
    simp only [Option.some.injEq, Prod.mk.injEq] at he
    obtain ⟨_, rfl, rfl⟩ := he
    rw [e] at hx
    refine .stay h ?_ hx
    obtain ⟨_, k, _, _, _, hk⟩ := hx.wptr_inv
    simp [execOp, hop, hk]
  · rename_i f fs cs e
    simp only [Option.some.injEq, Prod.mk.injEq] at he
    obtain ⟨_, rfl, rfl⟩ := he
    rw [e] at hx
    refine .stay h ?_ hx
    obtain ⟨ys, zs, hk, _⟩ := hx.func_inv
    simp [execOp, hop, hk]
  · cases he

theorem mono_unOp (h : Rel base w0 ks st a w c) {op : UnOp} {t : TypeId} {x : Operand} (hop : o.op = .unOp op t x) (he : evMono P st st.h.length o.type o.op = some (b, v, bs)) : MonoOK P base w0 ks st a w c o v bs := by
  rw [hop] at he
  simp only [evMono] at he
  have hx := h.ev x
  split at he
  · rename_i y e
    simp only [Option.some.injEq, Prod.mk.injEq] at he
    obtain ⟨_, rfl, rfl⟩ := he
    rw [e] at hx
    have := hx.bool_inv
    exact .stay h (x := .bool !y) (by simp [execOp, hop, this, Op.unary]) (.im _ _ (.bool _))
  · rename_i k n e
    simp only [Option.some.injEq, Prod.mk.injEq] at he
    obtain ⟨_, rfl, rfl⟩ := he
    rw [e] at hx
    have := hx.int_inv
    exact .stay h (x := .int k (k.wrap (0 - n))) (by simp only [execOp, hop, this, Op.unary, Op.intArith, Sem.run_bind, Sem.run_pure, Result.andThen_ok]) (.im _ _ (.int _ _))
  · rename_i k n e
    simp only [Option.some.injEq, Prod.mk.injEq] at he
    obtain ⟨_, rfl, rfl⟩ := he
    rw [e] at hx
    have := hx.int_inv
    exact .stay h (x := .int k _) (by simp only [execOp, hop, this, Op.unary, Op.intBits, Sem.run_bind, Sem.run_pure, Result.andThen_ok]) (.im _ _ (.int _ _))
  · cases he

theorem missing_none {want : Array (String × TypeId)} {got : Array Method} (h : hasAll want got = true) : Instr.missingMethod want got = none := by
  have : (want.toList.filter fun (x : String × TypeId) => !got.any fun m => m.name == x.1 && m.sig == x.2) = [] := by
    rw [List.filter_eq_nil_iff]
    intro p hp
    unfold hasAll at h
    rw [List.all_eq_true] at h
    simp only [h p hp, Bool.not_true, Bool.false_eq_true, not_false_eq_true]
  unfold Instr.missingMethod
  simp only [this]
  rfl
theorem mono_typeAssert (h : Rel base w0 ks st a w c) {x : Operand} {xt at_ : TypeId} {ok : Bool} (hop : o.op = .typeAssert x xt at_ ok) (he : evMono P st st.h.length o.type o.op = some (b, v, bs)) : MonoOK P base w0 ks st a w c o v bs := by
  rw [hop] at he
  cases ok with
  | false => simp [evMono] at he
  | true =>
    simp only [evMono] at he
    split at he
    · rename_i want t u e ex
      split at he
      · rename_i i hi
        split at he
        · rename_i hm
          simp only [Option.some.injEq, Prod.mk.injEq] at he
          obtain ⟨_, rfl, rfl⟩ := he
          have hx := h.ev x
          rw [ex] at hx
          obtain ⟨y, hy, hv⟩ := hx.iface_inv
          refine .stay h (x := .tuple #[.iface t y, .bool true]) ?_ (.tup _ _ rfl fun j v x hv' hx' => ?_)
          · have hinfo : (typeInfo t).run P w = .ok i w := by simp [typeInfo, hi]
            simp only [execOp, hop, Instr.typeAssert, hy, Sem.run_bind, run_underlying e, Result.andThen_ok, hinfo, missing_none hm]
            simp
          · match j, hv', hx' with
            | 0, hv', hx' => simp at hv' hx'; subst hv'; subst hx'; exact .iface _ _ _ hv
            | 1, hv', hx' => simp at hv' hx'; subst hv'; subst hx'; exact .im _ _ (.bool _)
            | j + 2, hv', hx' => simp at hv'
        · cases he
      · cases he
    · cases he
theorem mono_makeInterface (h : Rel base w0 ks st a w c) {t : TypeId} {x : Operand} (hop : o.op = .makeInterface t x) (he : evMono P st st.h.length o.type o.op = some (b, v, bs)) : MonoOK P base w0 ks st a w c o v bs := by
  rw [hop] at he
  simp only [evMono] at he
  split at he
  · cases he
  · rename_i d hne e
    simp only [Option.some.injEq, Prod.mk.injEq] at he
    obtain ⟨_, rfl, rfl⟩ := he
    refine .stay h (x := .iface t (a.eval x)) ?_ (.iface _ _ _ (h.ev x))
    simp only [execOp, hop, Instr.makeInterface, Sem.run_bind, run_underlying e, Result.andThen_ok]
    simp
  · cases he

theorem map_ev_sound (h : Rel base w0 ks st a w c) (l : Array Operand) : (l.toList.map (ev st)).length = (l.map a.eval).size ∧ ∀ (i : Nat) u y, (l.toList.map (ev st))[i]? = some u → (l.map a.eval)[i]? = some y → Rv w c u y := by
  refine ⟨by simp, fun i u y hu hy => ?_⟩
  obtain ⟨x, hx, rfl⟩ := getElem?_map_some hu
  have hx' : l[i]? = some x := by simpa using hx
  simp only [Array.getElem?_map, hx', Option.map_some, Option.some.injEq] at hy
  subst hy
  exact h.ev x

theorem mono_makeFunc (h : Rel base w0 ks st a w c) {fn : Fn} {f g : Array Operand} (hop : o.op = .makeFunc fn f g) (he : evMono P st st.h.length o.type o.op = some (b, v, bs)) : MonoOK P base w0 ks st a w c o v bs := by
  rw [hop] at he
  simp only [evMono, Option.some.injEq, Prod.mk.injEq] at he
  obtain ⟨_, rfl, rfl⟩ := he
  obtain ⟨h1, h2⟩ := map_ev_sound h f
  obtain ⟨h3, h4⟩ := map_ev_sound h g
  exact .stay h (x := .func fn (f.map a.eval) (g.map a.eval)) (by simp [execOp, hop, Instr.makeFunc]) (.func _ _ _ _ _ h1 h3 h2 h4)

theorem mono_extract (h : Rel base w0 ks st a w c) {x : Operand} {j : Nat} (hop : o.op = .extract x j) (he : evMono P st st.h.length o.type o.op = some (b, v, bs)) : MonoOK P base w0 ks st a w c o v bs := by
  rw [hop] at he
  simp only [evMono] at he
  have hx := h.ev x
  split at he
  · rename_i vs e
    split at he
    · rename_i u hu
      simp only [Option.some.injEq, Prod.mk.injEq] at he
      obtain ⟨_, rfl, rfl⟩ := he
      rw [e] at hx
      obtain ⟨xs, hxs, hl, hh⟩ := hx.tup_inv
      have hj : j < xs.size := by rw [← hl]; exact (List.getElem?_eq_some_iff.1 hu).1
      exact .stay h (x := xs[j]) (by simp [execOp, hop, hxs, Instr.extract, Array.getElem?_eq_getElem hj]) (hh j u _ hu (Array.getElem?_eq_getElem hj))
    · cases he
  · cases he

theorem mono_fieldAddr (h : Rel base w0 ks st a w c) {t : TypeId} {x : Operand} {f : Nat} (hop : o.op = .fieldAddr t x f) (he : evMono P st st.h.length o.type o.op = some (b, v, bs)) : MonoOK P base w0 ks st a w c o v bs := by
  rw [hop] at he
  simp only [evMono] at he
  split at he <;> (try cases he)
  rename_i fs hu
  split at he <;> (try cases he)
  rename_i fd hf
  split at he <;> (try cases he)
  rename_i hz
  have hx := h.ev x
  have hrun : ∀ (k off : Nat), a.eval x = .pointer (some ⟨k, off, none⟩) → (execOp a.eval o).run P w = .ok (.value (.pointer (some ⟨k, off + fd.offset, none⟩))) w := by
    intro k off hk
    simp [execOp, hop, hk, Instr.fieldAt, run_underlying hu, hf, Instr.sureAddr, fieldPlace, run_sizeT_pos hz, show ¬ sizeT P fd.type = 0 by omega, addp]
  split at he
  · rename_i r off e
    simp only [Option.some.injEq, Prod.mk.injEq] at he
    obtain ⟨_, rfl, rfl⟩ := he
    rw [e] at hx
    obtain ⟨hlt, k, hk, hxk⟩ := hx.ref_inv
    exact .stay h (hrun k off hxk) (.ref r _ k hlt hk)
  · rename_i cs e
    simp only [Option.some.injEq, Prod.mk.injEq] at he
    obtain ⟨_, rfl, rfl⟩ := he
    rw [e] at hx
    cases hx with
    | im _ _ hd =>
      generalize hy : a.eval x = y at hd
      cases hd with
      | eptr _ k off ys hF hx hh =>
        refine .stay h (hrun k off hy) (.im _ _ (.eptr _ k _ (fun j => ys (fd.offset + j)) hF (fun j hj => ?_) fun j u hu => ?_))
        · simp only [List.length_drop] at hj
          have := hx (fd.offset + j) (by omega)
          rwa [show off + (fd.offset + j) = off + fd.offset + j by omega] at this
        · rw [List.getElem?_drop] at hu
          exact hh _ u hu
  · rename_i r s i off e
    simp only [Option.some.injEq, Prod.mk.injEq] at he
    obtain ⟨_, rfl, rfl⟩ := he
    rw [e] at hx
    obtain ⟨hlt, k, n, cap, hk, hxk⟩ := hx.wptr_inv
    refine .stay h (hrun k _ hxk) ?_
    rw [Nat.add_assoc]
    exact .wptr r s i _ k n cap hlt hk
  · cases he

/-- A part of an aggregate. -/
theorem part_sound {cs : List V} {xs : Array Value} (hc : CellsOK w c cs xs) (h1 : ∀ (i : Nat) y, xs[i]? = some y → one y) {t : TypeId} (hok : okT P t = true) {off : Nat} (hle : off + sizeT P t ≤ cs.length) (hz : 0 < sizeT P t) :
    ∃ x, (part t xs off).run P w = .ok x w ∧ Rv w c (mkV (aggT P t) ((cs.drop off).take (sizeT P t))) x := by
  have hd : ∃ d, P.underlying t = some d := by
    cases hu : P.underlying t with
    | some d => exact ⟨d, rfl⟩
    | none => simp [okT, hu] at hok
  obtain ⟨d, hd⟩ := hd
  have hsz := hc.1
  have hcut := hc.cut off (sizeT P t)
  refine ⟨_, run_part hd xs off (fun _ => ⟨by omega, hz⟩) w, ?_⟩
  have := mkV_sound (w := w) (c := c) hok (cs := (cs.drop off).take (sizeT P t)) (by simp; omega) (ys := fun j => (xs.extract off (off + sizeT P t)).getD j undef) (fun j hj => by
      simp only [List.length_take, List.length_drop] at hj
      have hj2 : j < (xs.extract off (off + sizeT P t)).size := by simp; omega
      rw [Array.getD_eq_getD_getElem?, Array.getElem?_eq_getElem hj2]
      simp only [Option.getD_some, Array.getElem_extract]
      exact h1 (off + j) _ (Array.getElem?_eq_getElem (by omega))) (fun j u hu => by
      have hj : j < ((cs.drop off).take (sizeT P t)).length := (List.getElem?_eq_some_iff.1 hu).1
      simp only [List.length_take, List.length_drop] at hj
      have hj2 : j < (xs.extract off (off + sizeT P t)).size := by simp; omega
      rw [Array.getD_eq_getD_getElem?, Array.getElem?_eq_getElem hj2]
      exact hcut.2 j u _ hu (Array.getElem?_eq_getElem hj2))
  unfold valOf
  cases e : aggT P t with
  | true =>
    rw [e] at this
    simp only [if_true] at this ⊢
    have he : ((List.range (sizeT P t)).map fun j => (xs.extract off (off + sizeT P t)).getD j undef).toArray = xs.extract off (off + sizeT P t) := by
      apply Array.ext
      · simp; omega
      · intro i hi1 hi2
        simp only [List.getElem_toArray, List.getElem_map, List.getElem_range]
        rw [Array.getD_eq_getD_getElem?, Array.getElem?_eq_getElem hi2]
        rfl
    rw [he] at this
    exact this
  | false =>
    rw [e] at this
    simp only [Bool.false_eq_true, if_false] at this ⊢
    exact this

theorem mono_field (h : Rel base w0 ks st a w c) {t : TypeId} {x : Operand} {f : Nat} (hop : o.op = .field t x f) (he : evMono P st st.h.length o.type o.op = some (b, v, bs)) : MonoOK P base w0 ks st a w c o v bs := by
  rw [hop] at he
  simp only [evMono] at he
  have hx := h.ev x
  split at he <;> (try cases he)
  rename_i fs cs hu e
  split at he <;> (try cases he)
  rename_i fd hf
  split at he <;> (try cases he)
  rename_i hok
  rw [e] at hx
  obtain ⟨xs, hxs, hl, h1, hh⟩ := hx.agg_inv
  obtain ⟨y, hy1, hy2⟩ := part_sound ⟨hl, hh⟩ h1 hok.1 hok.2.1 hok.2.2
  exact .stay h (x := y) (by simp [execOp, hop, hxs, Instr.field, run_underlying hu, hf, asAgg, hy1]) hy2

theorem mono_index (h : Rel base w0 ks st a w c) {t : TypeId} {x i : Operand} (hop : o.op = .index t x i) (he : evMono P st st.h.length o.type o.op = some (b, v, bs)) (hb : b = true) : MonoOK P base w0 ks st a w c o v bs := by
  rw [hop] at he
  simp only [evMono] at he
  have hx := h.ev x
  have hi := h.ev i
  split at he
  · rename_i n e' cs k j hu ex ei
    split at he
    · rename_i hok
      simp only [Option.some.injEq, Prod.mk.injEq] at he
      obtain ⟨rfl, rfl, rfl⟩ := he
      simp only [Bool.and_eq_true, decide_eq_true_eq] at hb
      rw [ex] at hx
      rw [ei] at hi
      have hi := hi.int_inv
      obtain ⟨xs, hxs, hl, h1, hh⟩ := hx.agg_inv
      have hle : j.toNat * sizeT P e' + sizeT P e' ≤ cs.length := by
        rw [hok.2.1]
        have : (j.toNat + 1) * sizeT P e' ≤ n * sizeT P e' := Nat.mul_le_mul_right _ (by omega)
        rwa [Nat.add_mul, Nat.one_mul] at this
      obtain ⟨y, hy1, hy2⟩ := part_sound ⟨hl, hh⟩ h1 hok.1 hle hok.2.2
      refine .stay h (x := y) ?_ hy2
      simp [execOp, hop, hxs, hi, Instr.index, asIntOf, run_underlying hu, hb.1, hb.2, run_sizeT_pos hok.2.2, hy1]
    · cases he
  · rename_i s k j hu ex ei
    simp only [Option.some.injEq, Prod.mk.injEq] at he
    obtain ⟨rfl, rfl, rfl⟩ := he
    simp only [Bool.and_eq_true, decide_eq_true_eq] at hb
    rw [ex] at hx
    rw [ei] at hi
    have hi := hi.int_inv
    have hx := hx.str_inv
    have hj : j.toNat < s.size := by omega
    refine .stay h (x := .int .u8 (byteAt s j)) ?_ (.im _ _ (.int _ _))
    have hg : byteAt s j = ((s[j.toNat]'hj).toNat : Int) := by
      unfold byteAt
      have : s.data.toList[j.toNat]? = some (s[j.toNat]'hj) := by
        rw [List.getElem?_eq_getElem (by simpa using hj)]
        rfl
      rw [this]
      rfl
    simp [execOp, hop, hx, hi, Instr.index, asIntOf, run_underlying hu, hb.1, hj, hg]
  · cases he

theorem mono_indexAddr (h : Rel base w0 ks st a w c) {t : TypeId} {x i : Operand} (hop : o.op = .indexAddr t x i) (he : evMono P st st.h.length o.type o.op = some (b, v, bs)) (hb : b = true) : MonoOK P base w0 ks st a w c o v bs := by
  rw [hop] at he
  simp only [evMono] at he
  have hx := h.ev x
  have hi := h.ev i
  split at he
  · rename_i n e' r off k j hu ex ei
    split at he <;> (try cases he)
    rename_i hz
    simp only [Bool.and_eq_true, decide_eq_true_eq] at hb
    rw [ex] at hx
    rw [ei] at hi
    have hi := hi.int_inv
    obtain ⟨hlt, q, hq, hxq⟩ := hx.ref_inv
    refine .stay h (x := .pointer (some ⟨q, off + j.toNat * sizeT P e', none⟩)) ?_ (.ref r _ q hlt hq)
    simp [execOp, hop, hxq, hi, Instr.indexAt, Instr.sureAddr, asIntOf, run_underlying hu, hb.1, hb.2, run_sizeT_pos hz, addp]
  · rename_i e' nl sz n g k j hu ex ei
    split at he <;> (try cases he)
    rename_i hz
    obtain ⟨rfl, hz⟩ := hz
    simp only [Bool.and_eq_true, decide_eq_true_eq] at hb
    rw [ex] at hx
    rw [ei] at hi
    have hi := hi.int_inv
    cases hx with
    | im _ _ hd =>
      generalize hy : a.eval x = y at hd
      cases hd with
      | slNil => omega
      | slE => omega
      | sl _ _ cap _ q off ys hc hF hsz hcell hh =>
        have hj : j.toNat < n := by omega
        refine .stay h (x := .pointer (some ⟨q, off + j.toNat * sizeT P e', none⟩)) ?_ (.im _ _ (.eptr _ q _ (fun m => ys j.toNat m) hF (fun m hm => ?_) fun m u hu => hh _ m u hj hu))
        · simp [execOp, hop, hy, hi, Instr.indexAt, asIntOf, run_underlying hu, hb.1, hb.2, run_sizeT_pos hz, addp]
        · rw [hsz _ hj] at hm
          have := hcell j.toNat m hj hm
          rwa [show off + (j.toNat * sizeT P e' + m) = off + j.toNat * sizeT P e' + m by omega] at this
  · rename_i e' r k j hu ex ei
    rw [ex] at hx
    rw [ei] at hi
    have hi := hi.int_inv
    obtain ⟨hlt, hxr, _⟩ := hx.own_inv
    split at he <;> (try cases he)
    · rename_i wr nl sz n g hbx
      split at he <;> (try cases he)
      rename_i hz
      simp only [Bool.and_eq_true, decide_eq_true_eq] at hb
      obtain ⟨_, hB⟩ := h.at hbx
      obtain ⟨rfl, hfull⟩ := hz
      cases hB with
      | rowNil wr sz g hz hρ ho => omega
      | rowFull wr _ _ _ A2 hz hw hρ ho hd2 => cases hw; cases hfull
      | row wr _ _ cap _ ty k' xs fz hz hρ ho hk' hfz hs hc h1 hg hh =>
        refine .stay h (x := .pointer (some ⟨k', 0 + j.toNat * sizeT P e', none⟩)) ?_ ?_
        · rw [hρ] at hxr
          simp [execOp, hop, hxr, hi, Instr.indexAt, asIntOf, run_underlying hu, hb.1, hb.2, run_sizeT_pos hz, addp]
        · rw [Nat.zero_add]
          exact .wptr r _ _ 0 k' n cap hlt hρ
    · rename_i sz n cs hbx
      split at he <;> (try cases he)
      rename_i hz
      simp only [Bool.and_eq_true, decide_eq_true_eq] at hb
      obtain ⟨_, hB⟩ := h.at hbx
      obtain rfl := hz
      cases hB with
      | lit _ _ _ ty k' xs hz hρ ho hk' hl hs h1 hh =>
        refine .stay h (x := .pointer (some ⟨k', 0 + j.toNat * sizeT P e', none⟩)) ?_ ?_
        · rw [hρ] at hxr
          simp [execOp, hop, hxr, hi, Instr.indexAt, asIntOf, run_underlying hu, hb.1, hb.2, run_sizeT_pos hz, addp]
        · rw [Nat.zero_add]
          exact .wptr r _ _ 0 k' n n hlt hρ
  · cases he

theorem slLen_len (h : Rel base w0 ks st a w c) {V0 : V} {x : Value} {n : Nat} (hs : slLen st.h V0 = some n) (hv : Rv w c V0 x) : ∃ A cap, x = .slice A n cap := by
  unfold slLen at hs
  split at hs
  · cases hs
    cases hv with
    | im _ _ hd => cases hd <;> exact ⟨_, _, rfl⟩
  · obtain ⟨_, rfl, _⟩ := hv.own_inv
    split at hs <;> (try cases hs)
    · rename_i hbx
      obtain ⟨_, hB⟩ := h.at hbx
      cases hB with
      | rowNil wr sz g hz hρ ho => exact ⟨_, _, hρ⟩
      | rowFull wr _ _ _ A2 hz hw hρ ho hd2 => exact ⟨_, _, hρ⟩
      | row wr _ _ cap _ ty k' xs fz hz hρ ho hk' hfz hs hc h1 hg hh => exact ⟨_, _, hρ⟩
    · rename_i hbx
      obtain ⟨_, hB⟩ := h.at hbx
      cases hB with
      | lit _ _ _ ty k' xs hz hρ ho hk' hl hs h1 hh => exact ⟨_, _, hρ⟩
    · rename_i hbx
      obtain ⟨_, hB⟩ := h.at hbx
      cases hB with
      | bsNil _ hρ => exact ⟨_, _, hρ⟩
      | bs _ _ _ _ _ _ hρ => exact ⟨_, _, hρ⟩
    · rename_i hbx
      obtain ⟨_, hB⟩ := h.at hbx
      cases hB with
      | finNil _ hρ => exact ⟨_, _, hρ⟩
      | fin _ _ _ _ _ _ hρ => exact ⟨_, _, hρ⟩
  · cases hs

theorem mono_len (h : Rel base w0 ks st a w c) {args : Array Operand} {tys : Array TypeId} (hop : o.op = .call { callee := .builtin .len, args := args, argTypes := tys }) (he : evMono P st st.h.length o.type o.op = some (b, v, bs)) : MonoOK P base w0 ks st a w c o v bs := by
  rw [hop] at he
  simp only [evMono] at he
  split at he <;> (try cases he)
  rename_i x t hax hat
  have hargs : args = #[x] := by apply Array.ext'; exact hax
  have htys : tys = #[t] := by apply Array.ext'; exact hat
  subst hargs; subst htys
  have hx := h.ev x
  split at he
  · rename_i s hu e
    simp only [Option.some.injEq, Prod.mk.injEq] at he
    obtain ⟨rfl, rfl, rfl⟩ := he
    rw [e] at hx
    have := hx.str_inv
    exact .stay h (x := .int .i64 s.size) (by simp [execOp, hop, resolve, invoke, builtin, Builtin.len_, this, run_underlying hu, goInt]) (.im _ _ (.int _ _))
  · rename_i e' hu
    split at he <;> (try cases he)
    rename_i n hs
    obtain ⟨A, cap, hA⟩ := slLen_len h hs hx
    exact .stay h (x := .int .i64 n) (by simp [execOp, hop, resolve, invoke, builtin, Builtin.len_, hA, run_underlying hu, goInt]) (.im _ _ (.int _ _))
  · rename_i _ n e' hu
    simp only [Option.some.injEq, Prod.mk.injEq] at he
    obtain ⟨rfl, rfl, rfl⟩ := he
    exact .stay h (x := .int .i64 n) (by simp [execOp, hop, resolve, invoke, builtin, Builtin.len_, run_underlying hu, goInt]) (.im _ _ (.int _ _))
  · cases he

/-- min, max: of whole numbers of one kind. -/
theorem fold_int (f : Value → Value → Sem Value) (q : Int → Int → Int) (hf : ∀ (k : IntKind) (x y : Int), f (.int k x) (.int k y) = pure (.int k (q x y))) (k : IntKind) : ∀ (vs : List V) (xs : List Value) (m r : Int), vs.length = xs.length →
    (∀ (i : Nat) u y, vs[i]? = some u → xs[i]? = some y → Rv w c u y) →
    vs.foldl (fun acc v => acc.bind fun x => match v with | .int k' y => if k = k' then some (q x y) else none | _ => none) (some m) = some r → ∀ W, (xs.foldlM f (.int k m)).run P W = .ok (.int k r) W := by
  intro vs
  induction vs with
  | nil =>
    intro xs m r hl _ he W
    cases xs with
    | nil => simp only [List.foldl_nil, Option.some.injEq] at he; subst he; simp
    | cons x xs => simp at hl
  | cons v vs ih =>
    intro xs m r hl hr he W
    cases xs with
    | nil => simp at hl
    | cons x xs =>
      have none_stays : ∀ l : List V, l.foldl (fun acc v => acc.bind fun x => match v with | .int k' y => if k = k' then some (q x y) else none | _ => none) (none : Option Int) = none := by
        intro l; induction l with
        | nil => rfl
        | cons a l ih => simpa using ih
      simp only [List.foldl_cons, Option.bind_some] at he
      split at he
      · rename_i k' y
        split at he
        · rename_i hk
          subst hk
          have := (hr 0 _ x rfl rfl).int_inv
          subst this
          simp only [List.foldlM_cons, hf, pure_bind]
          exact ih xs _ r (by simpa using hl) (fun i u y hu hy => hr (i + 1) u y hu hy) he W
        · rw [none_stays] at he; cases he
      · rw [none_stays] at he; cases he

theorem mono_min (h : Rel base w0 ks st a w c) {args : Array Operand} {tys : Array TypeId} (hop : o.op = .call { callee := .builtin .min, args := args, argTypes := tys }) (he : evMono P st st.h.length o.type o.op = some (b, v, bs)) : MonoOK P base w0 ks st a w c o v bs := by
  rw [hop] at he
  simp only [evMono] at he
  obtain ⟨hl, hh⟩ := map_ev_sound h args
  split at he <;> (try cases he)
  rename_i k m rest hargs
  rw [Option.map_eq_some_iff] at he
  obtain ⟨r, hr, he⟩ := he
  simp only [Prod.mk.injEq] at he
  obtain ⟨_, rfl, rfl⟩ := he
  rw [hargs] at hl hh
  cases hx : (args.map a.eval).toList with
  | nil =>
    have := congrArg List.length hx
    simp only [Array.length_toList, List.length_nil] at this
    simp only [List.length_cons] at hl
    omega
  | cons x xs =>
    have hget : ∀ i : Nat, (args.map a.eval)[i]? = (x :: xs)[i]? := fun i => by rw [← hx]; simp
    have h0 := (hh 0 _ x rfl (by rw [hget]; rfl)).int_inv
    subst h0
    have hlen : rest.length = xs.length := by
      have := congrArg List.length hx
      simp only [List.length_cons, Array.length_toList] at this hl
      omega
    have hf := fold_int (P := P) Builtin.min2 (fun x y => bif decide (y < x) then y else x) (fun k x y => by by_cases e : y < x <;> simp [Builtin.min2, e]) k rest xs m r hlen (fun i u y hu hy => hh (i + 1) u y hu (by rw [hget]; exact hy)) hr w
    refine .stay h (x := .int k r) ?_ (.im _ _ (.int _ _))
    have hq : (Builtin.min_ tys o.type (args.map a.eval)).run P w = .ok (.int k r) w := by
      unfold Builtin.min_
      rw [hx]
      exact hf
    simp [execOp, hop, resolve, invoke, builtin, hq]

theorem mono_max (h : Rel base w0 ks st a w c) {args : Array Operand} {tys : Array TypeId} (hop : o.op = .call { callee := .builtin .max, args := args, argTypes := tys }) (he : evMono P st st.h.length o.type o.op = some (b, v, bs)) : MonoOK P base w0 ks st a w c o v bs := by
  rw [hop] at he
  simp only [evMono] at he
  obtain ⟨hl, hh⟩ := map_ev_sound h args
  split at he <;> (try cases he)
  rename_i k m rest hargs
  rw [Option.map_eq_some_iff] at he
  obtain ⟨r, hr, he⟩ := he
  simp only [Prod.mk.injEq] at he
  obtain ⟨_, rfl, rfl⟩ := he
  rw [hargs] at hl hh
  cases hx : (args.map a.eval).toList with
  | nil =>
    have := congrArg List.length hx
    simp only [Array.length_toList, List.length_nil] at this
    simp only [List.length_cons] at hl
    omega
  | cons x xs =>
    have hget : ∀ i : Nat, (args.map a.eval)[i]? = (x :: xs)[i]? := fun i => by rw [← hx]; simp
    have h0 := (hh 0 _ x rfl (by rw [hget]; rfl)).int_inv
    subst h0
    have hlen : rest.length = xs.length := by
      have := congrArg List.length hx
      simp only [List.length_cons, Array.length_toList] at this hl
      omega
    have hf := fold_int (P := P) Builtin.max2 (fun x y => bif decide (y > x) then y else x) (fun k x y => by by_cases e : y > x <;> simp [Builtin.max2, e]) k rest xs m r hlen (fun i u y hu hy => hh (i + 1) u y hu (by rw [hget]; exact hy)) hr w
    refine .stay h (x := .int k r) ?_ (.im _ _ (.int _ _))
    have hq : (Builtin.max_ tys o.type (args.map a.eval)).run P w = .ok (.int k r) w := by
      unfold Builtin.max_
      rw [hx]
      exact hf
    simp [execOp, hop, resolve, invoke, builtin, hq]

end
end Go.Rv
