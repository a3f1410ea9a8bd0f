/- Rv, part L: the evaluator's control is right. Of no program. -/
import Derived.Test.YtmoeohjaafpmgaaRvK
import Derived.LoopN
import Derived.Scope
set_option linter.unusedVariables false
set_option linter.unusedSimpArgs false
set_option linter.unusedSectionVars false
namespace Go.Rv
open Go Go.RowKit
variable [Fx]
section
variable {P : Program} {α : Type} {res : α}

/-- What is asked of a call. -/
def CallOK (P : Program) (call : CallT α) : Prop :=
  ∀ f args st k (res : α), call f args st k = some res → ∀ base w0 ks a w c (xs : Array Value), Rel base w0 ks st a w c → args.length = xs.size → (∀ (i : Nat) v x, args[i]? = some v → xs[i]? = some x → Rv w c v x) →
    Calls P f xs w fun e w' => ∃ x v st' c', e = .returned x ∧ k v st' = some res ∧ Rel base w0 ks st' a w' c' ∧ Rv w' c' v x

theorem okF_run {f : FuncId} (h : okF P f = true) (args : Array Value) (w : World) : (callFunc f args).run P w = .ok (.enter f args) w := by
  unfold okF at h
  cases hf : P.funcs[f]? with
  | none => rw [hf] at h; cases h
  | some F =>
    rw [hf] at h
    simp only [Bool.and_eq_true, Bool.not_eq_true'] at h
    have hb : F.body.isNone = false := by
      cases hb : F.body with
      | none => rw [hb] at h; cases h.1
      | some c => rfl
    have hne : ¬ F.name = "runtime.NumGoroutine" := by
      have := h.2
      simpa using this
    have hb' : ¬ F.body = none := by
      intro e; rw [e] at hb; cases hb
    simp [callFunc, hf, hne, hb']

theorem callMethod_run {t : TypeId} {name : String} {f : FuncId} (hm : methOf P t name = some f) (hok : okF P f = true) (y : Value) (A : Array Value) (w : World) :
    (do let some recv := (#[Value.iface t y] ++ A)[0]? | stuck "call: a method without a receiver"
        callMethod recv name ((#[Value.iface t y] ++ A).extract 1 (#[Value.iface t y] ++ A).size) : Sem Next).run P w = .ok (.enter f (#[y] ++ A)) w := by
  unfold methOf at hm
  split at hm <;> (try cases hm)
  rename_i i d hi hd
  split at hm <;> (try cases hm)
  rename_i hnp
  split at hm <;> (try cases hm)
  rename_i m hf
  split at hm <;> (try cases hm)
  rename_i hpe
  split at hm <;> (try cases hm)
  rename_i f' hfn
  have hinfo : (typeInfo t).run P w = .ok i w := by simp [typeInfo, hi]
  have hpath : m.path.toList = [] := by simpa using hpe
  have hex : (#[Value.iface t y] ++ A).extract 1 (#[Value.iface t y] ++ A).size = A := by simp
  have hget : (#[Value.iface t y] ++ A)[0]? = some (Value.iface t y) := by rw [Array.getElem?_append_left (by simp)]; rfl
  rw [hget, hex]
  have hfuel : ∃ n, P.types.size + Made.depth = n + 1 := ⟨P.types.size + 99, rfl⟩
  obtain ⟨n, hn⟩ := hfuel
  have hmeth : (method (P.types.size + Made.depth) t y name).run P w = .ok (f, y) w := by
    rw [hn]
    simp only [method, Sem.run_bind, hinfo, Result.andThen_ok, hf, hpath, follow, Sem.run_pure, hfn, receiverAt, run_underlying hd]
    cases d <;> simp_all [Place.get]
  simp only [callMethod, Sem.run_bind]
  simp [hmeth, okF_run hok]

theorem evArgs_sound {base : Base} {w0 : World} {ks : List (Array Value)} {st : St} {a : Act} {w : World} {c : Cx} (h : Rel base w0 ks st a w c) : ∀ (xs : List Operand) (ts : List TypeId), (evArgs P st xs ts).length = xs.length ∧ ∀ (i : Nat) u y, (evArgs P st xs ts)[i]? = some u → (xs.map a.eval)[i]? = some y → Rv w c u y := by
  intro xs
  induction xs with
  | nil => intro ts; exact ⟨rfl, fun i u y hu => by simp [evArgs] at hu⟩
  | cons x xs ih =>
    intro ts
    cases ts with
    | nil =>
      obtain ⟨h1, h2⟩ := ih []
      refine ⟨by simp [evArgs, h1], fun i u y hu hy => ?_⟩
      cases i with
      | zero => cases hu; cases hy; exact h.ev x
      | succ i => exact h2 i u y hu hy
    | cons t ts =>
      obtain ⟨h1, h2⟩ := ih ts
      refine ⟨by simp [evArgs, h1], fun i u y hu hy => ?_⟩
      cases i with
      | zero => cases hu; cases hy; exact h.evT t x
      | succ i => exact h2 i u y hu hy

theorem evOp_sound {call : CallT α} (hcall : CallOK P call) {o : Oper} {base : Base} {w0 : World} {ks : List (Array Value)} {st : St} {a : Act} {w : World} {c : Cx} (h : Rel base w0 ks st a w c) {k : V → St → Option α} (he : evOp P call o st k = some res)
    {next : Act → World → Prop} {Q : Exit → Act → World → Prop} (hn : ∀ x v st' w' c', k v st' = some res → Rel base w0 ks st' a w' c' → Rv w' c' v x → next (a.put o.dst x) w') : o.wp P a w next Q := by
  have plain : ∀ {op : Op}, o.op = op → evPlain P o.type st k op = some res → o.wp P a w next Q := by
    intro op hop he
    subst hop
    unfold evPlain at he
    obtain ⟨cf, h, _, _, _⟩ := h.frzs (preO st o.op)
    simp only at he
    revert he h
    generalize st.frzs (preO st o.op) = st
    intro he h
    split at he
    · rename_i b v bs hm
      cases b with
      | false => cases he
      | true =>
        obtain ⟨x, w', c', hrun, hrel, hrv, _⟩ := evMono_sound h hm rfl
        simp only [Oper.wp, hrun, Oper.upon_value]
        exact hn x v _ w' c' he hrel hrv
    · split at he
      · rename_i b v st' hm
        cases b with
        | false => cases he
        | true =>
          obtain ⟨x, w', c', hrun, hrel, hrv⟩ := evEff_sound h hm rfl
          rcases hrun with hrun | ⟨rfl, hrun⟩
          · simp only [Oper.wp, hrun, Oper.upon_value]
            exact hn x v _ w' c' he hrel hrv
          · simp only [Oper.wp, hrun, Oper.upon_skip]
            exact hn undef v _ w' c' he hrel hrv
      · cases he
  cases hop : o.op with
  | pick oc ox oy =>
    have hc := h.ev oc
    have hx := h.ev ox
    have hy := h.ev oy
    have hrun : ∀ t : Bool, a.eval oc = .bool t → (execOp a.eval o).run P w = .ok (.value (if t then a.eval ox else a.eval oy)) w := by
      intro t ht
      simp [execOp, hop, ht, asBool]
    simp only [evOp, hop] at he
    split at he
    · rename_i t x y e1 e2 e3
      rw [e1] at hc
      rw [e2] at hx
      rw [e3] at hy
      have hc := hc.bool_inv
      have hx' := hx.bool_inv
      have hy' := hy.bool_inv
      simp only [Oper.wp, hrun t hc, Oper.upon_value]
      refine hn _ _ _ w c he h ?_
      rw [hx', hy']
      cases t
      · exact .im _ _ (.bool _)
      · exact .im _ _ (.bool _)
    · rename_i e1 e2
      rename_i t
      rw [e1] at hc
      have hc := hc.bool_inv
      simp only [Oper.wp, hrun t hc, Oper.upon_value]
      cases t with
      | true => exact hn _ _ _ w c he h hx
      | false => exact hn _ _ _ w c he h hy
    · cases he
  | next x isS =>
    cases isS with
    | false => exact plain hop (by simpa only [evOp, hop] using he)
    | true =>
      simp only [evOp, hop] at he
      split at he <;> (try cases he)
      rename_i r hx
      split at he <;> (try cases he)
      rename_i s pos hbx
      have hv := h.ev x
      rw [hx] at hv
      obtain ⟨hr, b, hρ0, hxv⟩ := hv.ref_inv
      obtain ⟨_, hB⟩ := h.at hbx
      cases hB with
      | it _ _ k hρ ho hk =>
        rw [hρ] at hρ0
        simp only [Value.pointer.injEq, Option.some.injEq, Addr.mk.injEq, and_true] at hρ0
        subst hρ0
        cases hp : Nat.blt pos s.size with
        | true =>
          rw [hp, cond_true] at he
          have hlt : pos < s.size := by rw [Nat.blt_eq] at hp; exact hp
          have hkl : k < w.heap.size := (Array.getElem?_eq_some_iff.1 hk).1
          have hrun : (execOp a.eval o).run P w = .ok (.value (.tuple #[.bool true, .int .i64 pos, .int .i32 (Utf8.decode s pos).1])) { w with heap := w.heap.setIfInBounds k (.stringIter s (pos + (Utf8.decode s pos).2)) } := by
            simp [execOp, hop, hxv, Instr.next, getObj, setObj, Sem.run, hk, hlt, goInt]
          simp only [Oper.wp, hrun, Oper.upon_value]
          have hget : (w.heap.setIfInBounds k (Obj.stringIter s (pos + (Utf8.decode s pos).2)))[k]? = some (.stringIter s (pos + (Utf8.decode s pos).2)) := by rw [Array.getElem?_setIfInBounds_self, if_pos hkl]
          refine hn _ _ _ { w with heap := w.heap.setIfInBounds k (.stringIter s (pos + (Utf8.decode s pos).2)) } c he (h.write' (w' := { w with heap := w.heap.setIfInBounds k (.stringIter s (pos + (Utf8.decode s pos).2)) }) (b := .it s (pos + (Utf8.decode s pos).2)) hr ho (fun q hq => by simp [Array.getElem?_setIfInBounds, Ne.symm hq]) (by simp) rfl rfl rfl (.it _ _ k hρ ho hget)) (.im _ _ (.tup _ _ rfl fun i v x hv hx => ?_))
          match i, hv, hx with
          | 0, hv, hx => simp at hv hx; subst hv; subst hx; exact .bool _
          | 1, hv, hx => simp at hv hx; subst hv; subst hx; exact .int _ _
          | 2, hv, hx => simp at hv hx; subst hv; subst hx; exact .int _ _
          | i + 3, hv, hx => simp at hv
        | false =>
          rw [hp, cond_false] at he
          have hge : ¬ pos < s.size := by intro hh; rw [← Nat.blt_eq, hp] at hh; cases hh
          have hrun : (execOp a.eval o).run P w = .ok (.value (.tuple #[.bool false])) w := by
            simp [execOp, hop, hxv, Instr.next, getObj, Sem.run, hk, hge]
          simp only [Oper.wp, hrun, Oper.upon_value]
          refine hn _ _ _ w c he h (.im _ _ (.tup _ _ rfl fun i v x hv hx => ?_))
          match i, hv, hx with
          | 0, hv, hx => simp at hv hx; subst hv; subst hx; exact .bool _
          | i + 1, hv, hx => simp at hv
  | call cl =>
    obtain ⟨callee, args, tys⟩ := cl
    cases callee with
    | builtin bi =>
      refine plain hop ?_
      simpa only [evOp, hop] using he
    | invoke r m =>
      simp only [evOp, hop] at he
      split at he <;> (try cases he)
      rename_i t u eu
      split at he <;> (try cases he)
      rename_i fn hm
      split at he <;> (try cases he)
      rename_i hok
      have hr := h.ev r
      rw [eu] at hr
      obtain ⟨y, hy, hv⟩ := hr.iface_inv
      obtain ⟨hl3', h3'⟩ := evArgs_sound (P := P) h args.toList tys.toList
      have hl3 : (evArgs P st args.toList tys.toList).length = (args.map a.eval).size := by simpa using hl3'
      have h3 : ∀ (i : Nat) u y, (evArgs P st args.toList tys.toList)[i]? = some u → (args.map a.eval)[i]? = some y → Rv w c u y := fun i u y hu hy => h3' i u y hu (by simpa using hy)
      have hrun : (execOp a.eval o).run P w = .ok (.enter fn (#[y] ++ args.map a.eval)) w := by
        simp only [execOp, hop, resolve, invoke, hy, Sem.run_bind, Sem.run_pure, Result.andThen_ok]
        exact callMethod_run hm hok y _ w
      simp only [Oper.wp, hrun, Oper.upon_enter]
      refine (hcall fn _ st k res he base w0 ks a w c (#[y] ++ args.map a.eval) h ?_ ?_).mono ?_
      · rw [List.length_cons, Array.size_append, hl3]
        simp only [List.size_toArray, List.length_cons, List.length_nil]
        omega
      · intro i v x hv' hx
        cases i with
        | zero =>
          rw [Array.getElem?_append_left (by simp)] at hx
          simp at hv' hx
          subst hv'; subst hx; exact hv
        | succ i =>
          rw [List.getElem?_cons_succ] at hv'
          rw [Array.getElem?_append_right (by simp)] at hx
          exact h3 i v x hv' (by simpa using hx)
      · rintro e w' ⟨x, v, st', c', rfl, hk, hrel, hrv⟩
        exact hn x v st' w' c' hk hrel hrv
    | value f =>
      simp only [evOp, hop] at he
      split at he
      · rename_i fn first captured ef
        split at he
        · rename_i hok
          have hf := h.ev f
          rw [ef] at hf
          obtain ⟨ys, zs, hfv, hl1, hl2, h1, h2⟩ := hf.func_inv
          obtain ⟨hl3', h3'⟩ := evArgs_sound (P := P) h args.toList tys.toList
          have hl3 : (evArgs P st args.toList tys.toList).length = (args.map a.eval).size := by simpa using hl3'
          have h3 : ∀ (i : Nat) u y, (evArgs P st args.toList tys.toList)[i]? = some u → (args.map a.eval)[i]? = some y → Rv w c u y := fun i u y hu hy => h3' i u y hu (by simpa using hy)
          have hrun : (execOp a.eval o).run P w = .ok (.enter fn ((ys ++ args.map a.eval) ++ zs)) w := by
            simp [execOp, hop, resolve, Deferred.ofValue, hfv, invoke, okF_run hok]
          simp only [Oper.wp, hrun, Oper.upon_enter]
          refine (hcall fn _ st k res he base w0 ks a w c ((ys ++ args.map a.eval) ++ zs) h ?_ ?_).mono ?_
          · simp only [List.length_append, Array.size_append]
            omega
          · intro i v x hv hx
            by_cases hi1 : i < ys.size
            · rw [List.append_assoc, List.getElem?_append_left (by omega)] at hv
              rw [Array.append_assoc, Array.getElem?_append_left hi1] at hx
              exact h1 i v x hv hx
            · by_cases hi2 : i < ys.size + (args.map a.eval).size
              · rw [List.getElem?_append_left (by simp only [List.length_append]; omega), List.getElem?_append_right (by omega)] at hv
                rw [Array.getElem?_append_left (by simp only [Array.size_append]; omega), Array.getElem?_append_right (by omega)] at hx
                rw [hl1] at hv
                exact h3 _ v x hv hx
              · rw [List.getElem?_append_right (by simp only [List.length_append]; omega)] at hv
                rw [Array.getElem?_append_right (by simp only [Array.size_append]; omega)] at hx
                have e1 : (first ++ evArgs P st args.toList tys.toList).length = (ys ++ args.map a.eval).size := by simp only [List.length_append, Array.size_append]; omega
                rw [e1] at hv
                exact h2 _ v x hv hx
          · rintro e w' ⟨x, v, st', c', rfl, hk, hrel, hrv⟩
            exact hn x v st' w' c' hk hrel hrv
        · cases he
      · cases he
  | _ => exact plain hop (by simpa only [evOp, hop] using he)

/-- A temporary of which the machine knows the value. -/
theorem Rel.know {base : Base} {w0 : World} {ks : List (Array Value)} {st : St} {a : Act} {w : World} {c : Cx} (h : Rel base w0 ks st a w c) {d : Tmp} {t : Bool} (hd : a.tmps[d]? = some (.bool t)) : Rel base w0 ks (st.put (some d) (.bool t)) a w c := by
  refine ⟨by simpa [St.put] using h.len, fun i v x hv0 hx => ?_, h.ls, h.sv, h.hm, h.hp, h.inj, h.ge, h.nF, h.lt, h.bel, h.dn, h.bs, h.ff, h.pn⟩
  have hv : (st.t.set d (.bool t))[i]? = some v := hv0
  clear hv0
  rw [List.getElem?_set] at hv
  split at hv
  · rename_i e
    subst e
    split at hv <;> (try cases hv)
    rw [hd] at hx
    cases hx
    exact .im _ _ (.bool _)
  · exact h.tm i v x hv hx

theorem undef_rd {w : World} {F : Foot} : Rd w F (.tup []) undef := .tup [] #[] rfl fun i v x hv => by simp at hv
theorem undef_rv {w : World} {c : Cx} : Rv w c (.tup []) undef := .im _ _ undef_rd
/-- A guard that was skipped itself. -/
theorem guard_undef {base : Base} {w0 : World} {ks : List (Array Value)} {st : St} {a : Act} {w : World} {c : Cx} (h : Rel base w0 ks st a w c) {all : Array Oper} {o : Oper} {j d : Nat} {want : Bool} {vs : List V} (hg : o.guard = some (j, want)) (hd : (all[j]?).bind (·.dst) = some d)
    (ht : st.t.getD d .dead = .tup vs) : Region.wanted o (yielded all a.tmps) = false := by
  have hdt : st.t[d]? = some (.tup vs) := by
    rw [List.getD_eq_getElem?_getD] at ht
    cases e : st.t[d]? with
    | none => rw [e] at ht; cases ht
    | some v => rw [e] at ht; simp only [Option.getD_some] at ht; rw [ht]
  have hlt : d < a.tmps.size := by rw [← h.len]; exact (List.getElem?_eq_some_iff.1 hdt).1
  obtain ⟨xs, hx, _⟩ := (h.tm d _ _ hdt (Array.getElem?_eq_getElem hlt)).tup_inv
  have hyl : yielded all a.tmps j = none := by
    unfold yielded
    rw [hd]
    simp only [Option.bind_some, Array.getElem?_eq_getElem hlt, hx]
  simp [Region.wanted, hg, hyl]

/-- What a part of an array, made a text at once, is. -/
theorem fuseS_sound {base : Base} {w0 : World} {ks : List (Array Value)} {st : St} {a : Act} {w : World} {c : Cx} (h : Rel base w0 ks st a w c) {o o2 : Oper} {v : V} (he : fuseS P st o o2 = some (true, v)) :
    o2.guard = none ∧ ∃ x1 x2, (execOp a.eval o).run P w = .ok (.value x1) w ∧ (execOp (a.put o.dst x1).eval o2).run P w = .ok (.value x2) w ∧ Rv w c v x2 := by
  unfold fuseS at he
  split at he <;> (try cases he)
  rename_i t x lo hi mx hop
  split at he <;> (try cases he)
  rename_i s d q q' hop2 hdst hg2
  split at he <;> (try cases he)
  rename_i n e e' r e1 e2 e3 e4
  split at he <;> (try cases he)
  rename_i kl l ku u km m cs el eu em hrd
  split at he <;> (try cases he)
  rename_i hc
  obtain ⟨rfl, hq, hz, hby, hall⟩ := hc
  simp only [Option.some.injEq, Prod.mk.injEq, Bool.and_eq_true, decide_eq_true_eq] at he
  obtain ⟨⟨⟨⟨h0l, hlu⟩, hum⟩, hmn⟩, rfl⟩ := he
  refine ⟨hg2, ?_⟩
  have hx := h.ev x
  rw [e4] at hx
  obtain ⟨hrm, b, hρ, hxv⟩ := hx.ref_inv
  have hlo := h.ev lo
  rw [el] at hlo
  have hlo := hlo.int_inv
  have hhi := h.ev hi
  rw [eu] at hhi
  have hhi := hhi.int_inv
  have hmx := h.ev mx
  rw [em] at hmx
  have hmx := hmx.int_inv
  obtain ⟨b', off', ys, hpt, hlen, hcell, hrv⟩ := readAt_sound h hrd rfl hx
  rw [hxv] at hpt
  simp only [Value.pointer.injEq, Option.some.injEq, Addr.mk.injEq, and_true] at hpt
  obtain ⟨rfl, rfl⟩ := hpt
  have hmm : (m.toNat : Int) = m := by omega
  have huu : (u.toNat : Int) = u := by omega
  have hbm := run_sliceBound (P := P) (w := w) km m n .slice3Alen (by omega) (by omega)
  have hbu := run_sliceBound (P := P) (w := w) ku u m.toNat .slice3B (by omega) (by omega)
  have hbl := run_sliceBound (P := P) (w := w) kl l u.toNat .slice3C (by omega) (by omega)
  have hA : ∃ A : Addr, (execOp a.eval o).run P w = .ok (.value (.slice (some A) (u.toNat - l.toNat) (m.toNat - l.toNat))) w ∧ ∀ j, j < u.toNat - l.toNat → w.cell? (A.add j) = some (ys (l.toNat + j)) := by
    refine ⟨if m.toNat = l.toNat then ⟨b, 0, none⟩ else (⟨b, 0, none⟩ : Addr).add (l.toNat * sizeT P e), ?_, ?_⟩
    · simp only [execOp, hop, Instr.sliceAt, Sem.run_bind, run_underlying e1, Result.andThen_ok, hxv, Instr.sureAddr, Sem.run_pure, Option.map_some, hlo, hhi, hmx, Instr.sliceBounds, Option.isSome_some, if_true, Bool.false_eq_true, if_false, hbm, hbu, hbl, run_sizeT_pos (show 0 < sizeT P e by omega)]
    · intro j hj
      rw [if_neg (by omega), hz, addp, addp]
      have := (hcell (l.toNat + j) (by omega)).1
      simp only [Nat.zero_add] at this
      simpa using this
  obtain ⟨A, hrun, hAc⟩ := hA
  refine ⟨_, .string (bytesI (((cs.drop l.toNat).take (u.toNat - l.toNat)).map V.toI)), hrun, ?_, .im _ _ (.str _)⟩
  have hev : (a.put o.dst (.slice (some A) (u.toNat - l.toNat) (m.toNat - l.toNat))).eval (.tmp q) = .slice (some A) (u.toNat - l.toNat) (m.toNat - l.toNat) := by
    have hqs : q < a.tmps.size := by rw [← h.len]; exact hq
    rw [hdst]
    simp [Act.put, Act.eval, Array.getD_eq_getD_getElem?, Array.getElem?_setIfInBounds, hqs]
  have he8 : P.underlying e' = some (.int .u8) := by
    unfold bytesTy at hby
    rw [e2] at hby
    simp only at hby
    split at hby
    · assumption
    · cases hby
  have hint : ∀ j u', cs[j]? = some u' → j < n → ys j = .int .u8 u'.toI := by
    intro j u' hu hj
    have h1 := hrv j u' hu
    rw [List.all_eq_true] at hall
    have h2 := hall u' (List.mem_of_getElem? hu)
    cases u' with
    | int k z =>
      cases k <;> simp [u8V] at h2
      exact h1.int_inv
    | _ => simp [u8V] at h2
  have hl := run_loadCells_list (P := P) (w := w) A ((((cs.drop l.toNat).take (u.toNat - l.toNat)).map V.toI).map (Value.int .u8)) (by
    intro j v hj
    simp only [List.getElem?_map, Option.map_eq_some_iff] at hj
    obtain ⟨_, ⟨u', hu', rfl⟩, rfl⟩ := hj
    rw [List.getElem?_take] at hu'
    split at hu' <;> (try cases hu')
    rename_i hjl
    rw [List.getElem?_drop] at hu'
    rw [hAc j hjl, hint _ u' hu' (by omega)])
  have hlen2 : ((((cs.drop l.toNat).take (u.toNat - l.toNat)).map V.toI).map (Value.int .u8)).length = u.toNat - l.toNat := by
    simp only [List.length_map, List.length_take, List.length_drop, hlen]
    omega
  rw [hlen2] at hl
  have hconv : (convert s d (.slice (some A) (u.toNat - l.toNat) (m.toNat - l.toNat))).run P w = .ok (.string (bytesI (((cs.drop l.toNat).take (u.toNat - l.toNat)).map V.toI))) w := by
    rw [run_convert_bytes_string w s d e' _ _ _ e2 he8 e3, run_bytesToString w A _ _ _ hl, fold_bytes]
    rfl
  simp only [execOp, hop2, hev, Sem.run_bind, hconv, Result.andThen_ok, Sem.run_pure]

theorem evOps_sound {call : CallT α} (hcall : CallOK P call) {all : Array Oper} {base : Base} {w0 : World} {ks : List (Array Value)} {k : St → Option α} {Q : Exit → Act → World → Prop}
    (hQ : ∀ st' a' w' c', k st' = some res → Rel base w0 ks st' a' w' c' → Q .normal a' w') : ∀ (l : List Oper) (i : Nat), all.toList.drop i = l → ∀ (st : St) (a : Act) (w : World) (c : Cx), Rel base w0 ks st a w c → evOps P call all l st k = some res →
    wpOps P all Q (List.range' i l.length) a w := by
  intro l
  induction hn : l.length using Nat.strongRecOn generalizing l with
  | ind n ihn =>
  cases l with
  | nil =>
    intro i _ st a w c h he
    unfold evOps at he
    subst hn
    exact hQ st a w c he h
  | cons o l =>
    intro i hi st a w c h he
    have ih := ihn l.length (by rw [← hn]; simp) l rfl
    have ih2 : ∀ l2 : List Oper, l2.length < (o :: l).length → ∀ (i : Nat), all.toList.drop i = l2 → ∀ (st : St) (a : Act) (w : World) (c : Cx), Rel base w0 ks st a w c → evOps P call all l2 st k = some res → wpOps P all Q (List.range' i l2.length) a w := fun l2 hl2 => ihn l2.length (by rw [← hn]; exact hl2) l2 rfl
    subst hn
    have ho : all[i]? = some o := by
      have : (all.toList.drop i)[0]? = some o := by rw [hi]; rfl
      rw [List.getElem?_drop] at this
      simpa using this
    have hi' : all.toList.drop (i + 1) = l := by
      rw [← List.tail_drop, hi]; rfl
    simp only [List.length_cons, List.range'_succ, wpOps, ho]
    unfold evOps at he
    split at he
    · rename_i hg
      rw [if_pos (by simp [Region.wanted, hg])]
      left
      split at he
      · skip
        refine evOp_sound hcall h he fun x v st' w' c' hk hrel hrv => ?_
        exact ih (i + 1) hi' _ _ w' c' (hrel.put o.dst hrv) (by unfold evOps; exact hk)
      · rename_i o2 os2
        split at he
        · rename_i b v hf
          cases b with
          | false => cases he
          | true =>
            have ho2 : all[i + 1]? = some o2 := by
              have : (all.toList.drop (i + 1))[0]? = some o2 := by rw [hi']; rfl
              rw [List.getElem?_drop] at this
              simpa using this
            obtain ⟨hg2, x1, x2, hr1, hr2, hrv⟩ := fuseS_sound h hf
            simp only [Oper.wp, hr1, Oper.upon_value, List.length_cons, List.range'_succ, wpOps, ho2]
            rw [if_pos (by simp [Region.wanted, hg2])]
            left
            simp only [hr2, Oper.upon_value]
            exact ih2 os2 (by simp only [List.length_cons]; omega) (i + 2) (by rw [← List.tail_drop, hi']; rfl) _ _ w c ((h.put o.dst (.im _ _ (.dead _))).put o2.dst hrv) he
        · refine evOp_sound hcall h he fun x v st' w' c' hk hrel hrv => ?_
          exact ih (i + 1) hi' _ _ w' c' (hrel.put o.dst hrv) hk
    · rename_i j want hg
      split at he
      · rename_i d hd
        split at he
        · rename_i t ht
          have hdt : st.t[d]? = some (.bool t) := by
            rw [List.getD_eq_getElem?_getD] at ht
            cases e : st.t[d]? with
            | none => rw [e] at ht; cases ht
            | some v => rw [e] at ht; simp only [Option.getD_some] at ht; rw [ht]
          have hlt : d < a.tmps.size := by rw [← h.len]; exact (List.getElem?_eq_some_iff.1 hdt).1
          have hav : a.tmps[d]? = some (.bool t) := by
            have := (h.tm d _ _ hdt (Array.getElem?_eq_getElem hlt)).bool_inv
            rw [Array.getElem?_eq_getElem hlt, this]
          have hyl : yielded all a.tmps j = some t := by
            unfold yielded
            rw [hd]
            simp only [Option.bind_some, hav]
          by_cases hw : t = want
          · subst hw
            rw [if_pos (by simp [Region.wanted, hg, hyl])]
            left
            have hcond : (if t then t else !t) = true := by cases t <;> rfl
            rw [hcond] at he
            simp only [cond_true] at he
            refine evOp_sound hcall (h.know hav) he fun x v st' w' c' hk hrel hrv => ?_
            exact ih (i + 1) hi' _ _ w' c' (hrel.put o.dst hrv) hk
          · have hw' : t = !want := by cases t <;> cases want <;> simp_all
            rw [if_neg (by simp [Region.wanted, hg, hyl, hw])]
            have hcond : (if want then t else !t) = false := by subst hw'; cases want <;> rfl
            rw [hcond] at he
            simp only [cond_false] at he
            rw [hw'] at hav
            exact ih (i + 1) hi' _ _ w c ((h.know hav).put o.dst undef_rv) he
        · rename_i vs ht
          rw [if_neg (by rw [guard_undef h hg hd ht]; simp)]
          exact ih (i + 1) hi' _ _ w c (h.put o.dst undef_rv) he
        · cases he
      · cases he

end
end Go.Rv
