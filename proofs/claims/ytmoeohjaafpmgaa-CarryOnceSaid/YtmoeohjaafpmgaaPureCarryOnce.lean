/- The plain law of CarryOnce: each step has one parcel at most, which goes once, and comes back at most once. No condition. -/
import Derived.Test.YtmoeohjaafpmgaaE3
import Derived.Test.YtmoeohjaafpmgaaPureCarryBase
set_option linter.unusedVariables false
set_option linter.unusedSimpArgs false
namespace Go.Rv.Try
open Go Go.Rv Go.RowKit
variable {α : Type}
abbrev Ask1 := Int × Int × Int × Bool × Int × Int × Bool × Int × Unit

def apartP (p q : Par) : Prop := ¬ (p.2.1 = q.2.1 ∧ p.2.2.1 = q.2.2.1)
/-- Parcels, and the keys that they are of. -/
structure ParOk (K : List Key) (i : Nat) (L : List Par) : Prop where
  num : ∀ j p, L[j]? = some p → p.1 = ((i + j + 1 : Nat) : Int)
  key : ∀ p ∈ L, (findK K p.2.1 p.2.2.1).2 = true ∧ (findK K p.2.1 p.2.2.1).1.2.2.1 = markP p
  apt : L.Pairwise apartP
theorem parFrom_of (K : List Key) : ∀ (L pre : List Par) (i : Nat), ParOk K i L → (∀ p ∈ L, hasP pre p.2.1 p.2.2.1 = false) → parFrom K pre i L = true
  | [], _, _, _, _ => rfl
  | p :: L, pre, i, h, hp => by
    obtain ⟨h1, h2⟩ := h.key p List.mem_cons_self
    obtain ⟨h3, h4⟩ := List.pairwise_cons.1 h.apt
    have h5 := h.num 0 p rfl
    have ih := parFrom_of K L (pre ++ [p]) (i + 1) ⟨fun j q hq => by have := h.num (j + 1) q hq; rw [this]; congr 1; omega, fun q hq => h.key q (List.mem_cons_of_mem _ hq), h4⟩ (fun q hq => by
      have e1 := hp q (List.mem_cons_of_mem _ hq)
      unfold hasP at e1 ⊢
      rw [List.any_append, e1, List.any_cons, List.any_nil, Bool.or_false, Bool.false_or]
      cases hb : (p.2.1 == q.2.1 && p.2.2.1 == q.2.2.1) with
      | false => rfl
      | true =>
        simp only [Bool.and_eq_true, beq_iff_eq] at hb
        exact absurd hb (h3 q hq))
    have e1 : (p.1 == ((i + 1 : Nat) : Int)) = true := by rw [h5]; simp
    have e2 : ((findK K p.2.1 p.2.2.1).1.2.2.1 == markP p) = true := by rw [h2]; simp
    simp only [parFrom, e1, h1, e2, hp p List.mem_cons_self, ih, Bool.not_false, Bool.and_self]
structure InvD (d : Dep) : Prop where
  one : ∀ x ∈ toL d.1, oneK x = true
  srt : (toL d.1).Pairwise (fun a b => ltK a b = true)
  sum : sumT (toL d.1) = ((toL d.2.2.1).length : Int)
  par : ParOk (toL d.1) 0 (toL d.2.2.1)
  has : ∀ a b y, findK (toL d.1) a b = (y, true) → y.2.2.1 = 2 → ∃ p ∈ toL d.2.2.1, p.2.1 = a ∧ p.2.2.1 = b
theorem depB_of {d : Dep} (h : InvD d) (h1 : 1 ≤ d.2.1) (h2 : d.2.1 ≤ 1000) : depB d = true := by
  have e1 : fitK d.1 = true := (fitK_iff d.1).2 ⟨h.one, h.srt⟩
  have e2 : idB d.2.1 = true := by simp [idB]; omega
  have e3 : (sumT (toL d.1) == (d.2.2.1.n : Int)) = true := by rw [h.sum, toL_length]; simp
  simp only [depB, e1, e2, e3, parFrom_of (toL d.1) (toL d.2.2.1) [] 0 h.par (fun p hp => rfl), Bool.and_self]

theorem out_take : ∀ (L : List Par) (x : Ent) (p : Par), L.Pairwise apartP → p ∈ L → p.2.1 = x.2.1 → p.2.2.1 = x.2.2.1 → p.2.2.2.1 = false → outL (L.map (takeP x)) + 1 = outL L
  | [], _, _, _, h, _, _, _ => by cases h
  | q :: L, x, p, hp, h, e1, e2, e3 => by
    obtain ⟨h1, h2⟩ := List.pairwise_cons.1 hp
    rcases List.mem_cons.1 h with rfl | h
    · have hrest : L.map (takeP x) = L := by
        have : ∀ r ∈ L, takeP x r = r := by
          intro r hr
          have := h1 r hr
          unfold takeP
          cases hb : (r.2.1 == x.2.1 && r.2.2.1 == x.2.2.1) with
          | false => rfl
          | true =>
            simp only [Bool.and_eq_true, beq_iff_eq] at hb
            exact absurd ⟨by omega, by omega⟩ this
        conv => rhs; rw [← List.map_id L]
        exact List.map_congr_left this
      have ht : takeP x p = (p.1, p.2.1, p.2.2.1, true, ()) := by
        unfold takeP
        rw [e1, e2]; simp
      rw [List.map_cons, hrest, ht]
      simp only [outL, List.countP_cons, e3, Bool.not_true, Bool.not_false, Bool.false_eq_true, if_false, if_true, Nat.add_zero]
    · have ih := out_take L x p h2 h e1 e2 e3
      have hq : takeP x q = q := by
        have := h1 p h
        unfold takeP
        cases hb : (q.2.1 == x.2.1 && q.2.2.1 == x.2.2.1) with
        | false => rfl
        | true =>
          simp only [Bool.and_eq_true, beq_iff_eq] at hb
          exact absurd ⟨by omega, by omega⟩ this
      rw [List.map_cons, hq]
      simp only [outL, List.countP_cons] at ih ⊢
      omega
theorem out_app (L : List Par) (p : Par) (h : p.2.2.2.1 = false) : outL (L ++ [p]) = outL L + 1 := by
  simp [outL, List.countP_append, h]
theorem takeP_key (x : Ent) (p : Par) : (takeP x p).1 = p.1 ∧ (takeP x p).2.1 = p.2.1 ∧ (takeP x p).2.2.1 = p.2.2.1 := by
  unfold takeP
  cases (p.2.1 == x.2.1 && p.2.2.1 == x.2.2.1) <;> exact ⟨rfl, rfl, rfl⟩
theorem takeP_ne {x : Ent} {p : Par} (h : ¬ (p.2.1 = x.2.1 ∧ p.2.2.1 = x.2.2.1)) : takeP x p = p := by
  unfold takeP
  cases hb : (p.2.1 == x.2.1 && p.2.2.1 == x.2.2.1) with
  | false => rfl
  | true => simp only [Bool.and_eq_true, beq_iff_eq] at hb; exact absurd hb h
/-- A step: the keys, the parcels then, how many more are out. -/
theorem step_inv {K K' : List Key} {L : List Par} {x : Ent} {v t : Int} {did : Bool} (ho : oneB x = true) (h1 : ∀ x ∈ K, oneK x = true) (h2 : K.Pairwise (fun a b => ltK a b = true)) (hs : sumT K = (L.length : Int)) (hp : ParOk K 0 L)
    (hh : ∀ a b y, findK K a b = (y, true) → y.2.2.1 = 2 → ∃ p ∈ L, p.2.1 = a ∧ p.2.2.1 = b) (hc : Came K x v K' t did) :
    sumT K' = ((cond did (tookL L x) L).length : Int) ∧ ParOk K' 0 (cond did (tookL L x) L) ∧ (∀ a b y, findK K' a b = (y, true) → y.2.2.1 = 2 → ∃ p ∈ cond did (tookL L x) L, p.2.1 = a ∧ p.2.2.1 = b) ∧
    (did = true → t = 1) ∧
    (did = true → x.2.2.2.1 = true → outL (tookL L x) + 1 = outL L ∧ (tookL L x).length = L.length) ∧ (did = true → x.2.2.2.1 = false → outL (tookL L x) = outL L + 1 ∧ (tookL L x).length = L.length + 1) := by
  -- a key that is told nothing of
  have put0 : ∀ z : Key, z.2.2.2.1 = 0 → ¬ z.2.2.1 = 2 → (findK K z.1 z.2.1).2 = false → sumT (putL K z) = (L.length : Int) ∧ ParOk (putL K z) 0 L ∧ (∀ a b y, findK (putL K z) a b = (y, true) → y.2.2.1 = 2 → ∃ p ∈ L, p.2.1 = a ∧ p.2.2.1 = b) := by
    intro z z1 z2 hf
    obtain ⟨s1, _⟩ := sum_put h2 z
    rw [find_none hf] at s1
    have n1 : sumT ([] : List Key) = 0 := rfl
    have hne : ∀ p ∈ L, ¬ (z.1 = p.2.1 ∧ z.2.1 = p.2.2.1) := by
      intro p hpL e
      have := (hp.key p hpL).1
      rw [← e.1, ← e.2, hf] at this
      cases this
    refine ⟨by omega, ⟨hp.num, fun p hpL => ?_, hp.apt⟩, fun a b y hy hm => ?_⟩
    · rw [find_put_ne h2 z (hne p hpL)]
      exact hp.key p hpL
    · by_cases e : z.1 = a ∧ z.2.1 = b
      · rw [← e.1, ← e.2, find_put] at hy
        cases hy
        exact absurd hm z2
      · rw [find_put_ne h2 z e] at hy
        exact hh a b y hy hm
  have no : ∀ {Q : Prop}, (false = true → Q) := fun h => by cases h
  cases hc with
  | again => exact ⟨hs, hp, hh, no, no, no⟩
  | backDone y hf hb hm => exact ⟨hs, hp, hh, no, no, no⟩
  | thereDone y hf hb hm => exact ⟨hs, hp, hh, no, no, no⟩
  | thereNever y hf hb hm => exact ⟨hs, hp, hh, no, no, no⟩
  | backNone hf hb =>
    obtain ⟨g1, g2, g3⟩ := put0 (x.2.1, x.2.2.1, 3, 0, 0, x.2.2.2.2.2.1, ()) rfl (by show ¬ (3 : Int) = 2; decide) hf
    exact ⟨g1, g2, g3, no, no, no⟩
  | never hf hb =>
    obtain ⟨g1, g2, g3⟩ := put0 (x.2.1, x.2.2.1, 5, 0, 0, x.2.2.2.2.2.1, ()) rfl (by show ¬ (5 : Int) = 2; decide) hf
    exact ⟨g1, g2, g3, no, no, no⟩
  | there hf hb =>
    have hT : tookL L x = L ++ [(((L.length + 1 : Nat) : Int), x.2.1, x.2.2.1, false, ())] := by unfold tookL; rw [hb]; rfl
    simp only [cond_true]
    rw [hT]
    obtain ⟨s1, _⟩ := sum_put h2 (x.2.1, x.2.2.1, 2, 1, 0, x.2.2.2.2.2.1, ())
    rw [find_none (z := (x.2.1, x.2.2.1, 2, 1, 0, x.2.2.2.2.2.1, ())) hf] at s1
    have n1 : sumT ([] : List Key) = 0 := rfl
    have hne : ∀ p ∈ L, ¬ (x.2.1 = p.2.1 ∧ x.2.2.1 = p.2.2.1) := by
      intro p hpL e
      have := (hp.key p hpL).1
      rw [← e.1, ← e.2, hf] at this
      cases this
    refine ⟨?_, ⟨fun j p hj => ?_, fun p hpL => ?_, ?_⟩, fun a b y hy hm => ?_, fun _ => trivial, fun _ hb' => (by rw [hb] at hb'; cases hb'), fun _ _ => ⟨out_app L _ rfl, by simp⟩⟩
    · rw [List.length_append, List.length_singleton]
      simp only at s1
      omega
    · rcases Nat.lt_trichotomy j L.length with hlt | he | hgt
      · rw [List.getElem?_append_left hlt] at hj
        exact hp.num j p hj
      · subst he
        rw [List.getElem?_append_right (Nat.le_refl _), Nat.sub_self] at hj
        simp only [List.getElem?_cons_zero, Option.some.injEq] at hj
        subst hj
        show ((L.length + 1 : Nat) : Int) = _
        congr 1; omega
      · rw [List.getElem?_eq_none (by simp; omega)] at hj
        cases hj
    · rcases List.mem_append.1 hpL with hpL | hpL
      · rw [find_put_ne h2 (x.2.1, x.2.2.1, 2, 1, 0, x.2.2.2.2.2.1, ()) (hne p hpL)]
        exact hp.key p hpL
      · rw [List.mem_singleton] at hpL
        subst hpL
        have := find_put K (x.2.1, x.2.2.1, 2, 1, 0, x.2.2.2.2.2.1, ())
        simp only at this ⊢
        rw [this]
        exact ⟨rfl, rfl⟩
    · rw [List.pairwise_append]
      refine ⟨hp.apt, List.pairwise_singleton _ _, fun p hpL q hq => ?_⟩
      rw [List.mem_singleton] at hq
      subst hq
      exact fun e => hne p hpL ⟨e.1.symm, e.2.symm⟩
    · by_cases e : x.2.1 = a ∧ x.2.2.1 = b
      · exact ⟨_, List.mem_append_right _ List.mem_cons_self, e.1, e.2⟩
      · rw [find_put_ne h2 (x.2.1, x.2.2.1, 2, 1, 0, x.2.2.2.2.2.1, ()) e] at hy
        obtain ⟨p, hp1, hp2⟩ := hh a b y hy hm
        exact ⟨p, List.mem_append_left _ hp1, hp2⟩
  | back y hf hb hm =>
    have hT : tookL L x = L.map (takeP x) := by unfold tookL; rw [hb]; rfl
    simp only [cond_true]
    rw [hT]
    have hk := find_mem (l := K) (a := x.2.1) (b := x.2.2.1) (by rw [hf])
    rw [hf] at hk
    obtain ⟨hy, k1, k2⟩ := hk
    simp only at hy k1 k2
    obtain ⟨m1, m2⟩ := one_mark2 (h1 y hy) hm
    have hm' : y.2.2.1 = 2 := by simpa using hm
    obtain ⟨s1, _⟩ := sum_put h2 (y.1, y.2.1, 4, y.2.2.2.1, 1, y.2.2.2.2.2.1, ())
    rw [mid_one (z := (y.1, y.2.1, 4, y.2.2.2.1, 1, y.2.2.2.2.2.1, ())) K h2 hy (by simp [sameK])] at s1
    rw [sumT_cons] at s1
    have n1 : sumT ([] : List Key) = 0 := rfl
    obtain ⟨p0, q1, q2, q3⟩ := hh x.2.1 x.2.2.1 y hf hm'
    have q4 : p0.2.2.2.1 = false := by
      have := (hp.key p0 q1).2
      rw [q2, q3, hf] at this
      unfold markP at this
      cases hb0 : p0.2.2.2.1 with
      | false => rfl
      | true => rw [hb0] at this; simp only [cond_true] at this; omega
    refine ⟨?_, ⟨fun j p hj => ?_, fun p hpL => ?_, ?_⟩, fun a b y' hy' hmy => ?_, fun _ => trivial, fun _ _ => ⟨out_take L x p0 hp.apt q1 q2 q3 q4, by simp⟩, fun _ hb' => by rw [hb] at hb'; cases hb'⟩
    · rw [List.length_map]
      simp only at s1
      omega
    · rw [List.getElem?_map, Option.map_eq_some_iff] at hj
      obtain ⟨q, hq, rfl⟩ := hj
      rw [(takeP_key x q).1]
      exact hp.num j q hq
    · obtain ⟨q, hq, rfl⟩ := List.mem_map.1 hpL
      obtain ⟨t1, t2, t3⟩ := takeP_key x q
      rw [t2, t3]
      by_cases e : q.2.1 = x.2.1 ∧ q.2.2.1 = x.2.2.1
      · have hop := find_put K (y.1, y.2.1, 4, y.2.2.2.1, 1, y.2.2.2.2.2.1, ())
        simp only [k1, k2] at hop ⊢
        rw [e.1, e.2, hop]
        refine ⟨rfl, ?_⟩
        unfold takeP markP
        rw [e.1, e.2]
        simp
      · rw [find_put_ne h2 (y.1, y.2.1, 4, y.2.2.2.1, 1, y.2.2.2.2.2.1, ()) (fun e' => e ⟨by have := e'.1; simp only at this; omega, by have := e'.2; simp only at this; omega⟩), takeP_ne e]
        exact hp.key q hq
    · rw [List.pairwise_map]
      refine hp.apt.imp fun {p q} hpq => ?_
      intro e
      rw [(takeP_key x p).2.1, (takeP_key x p).2.2, (takeP_key x q).2.1, (takeP_key x q).2.2] at e
      exact hpq e
    · by_cases e : y.1 = a ∧ y.2.1 = b
      · have hop := find_put K (y.1, y.2.1, 4, y.2.2.2.1, 1, y.2.2.2.2.2.1, ())
        simp only [e.1, e.2] at hop
        have hy'' := hy'
        simp only [e.1, e.2] at hy''
        rw [hop] at hy''
        cases hy''
        exact absurd hmy (by show ¬ (4 : Int) = 2; decide)
      · rw [find_put_ne h2 (y.1, y.2.1, 4, y.2.2.2.1, 1, y.2.2.2.2.2.1, ()) e] at hy'
        obtain ⟨p, hp1, hp2, hp3⟩ := hh a b y' hy' hmy
        exact ⟨takeP x p, List.mem_map_of_mem hp1, by rw [(takeP_key x p).2.1]; exact hp2, by rw [(takeP_key x p).2.2]; exact hp3⟩

def entOf (a : Ask1) : Ent := (a.1, a.2.1, a.2.2.1, a.2.2.2.1, 4, a.2.2.2.2.2.1, a.2.2.2.2.2.2.1, ())
theorem once_loop (kr : Bool → Dep → Option α) (k0 : Dep → Option α) (res : Option α) (x4 : Seq Ask1) (hx : x4.n ≤ 40) (hk0 : ∀ d, InvD d → d.2.2.1.n ≤ 40 → k0 d = res) :
    ∀ (c i N : Nat) (d : Dep), i + c = x4.n → c < N → Nil0 d.1 → Nil0P d.2.2.1 → d.1.n ≤ i → d.2.2.1.n ≤ i → 1 ≤ d.2.1 → d.2.1 ≤ (i : Int) + 1 → InvD d →
    draymanlaw33_CarryOnce_l0_run draymanlaw33_awake carry_New carry_Out carry_Come carry_Fit kr k0 N x4 (i : Int) d = res := by
  intro c
  induction c with
  | zero =>
    intro i N d hi hN h0 h0p h1 h2 h3 h4 hI
    obtain ⟨N, rfl⟩ : ∃ M, N = M + 1 := ⟨N - 1, by omega⟩
    have h5 : ¬ ((i : Int) < (x4.n : Int)) := by omega
    simp only [draymanlaw33_CarryOnce_l0_run, draymanlaw33_CarryOnce_l0_step, ltF h5, cond_false]
    exact hk0 d hI (by omega)
  | succ c ih =>
    intro i N d hi hN h0 h0p h1 h2 h3 h4 hI
    obtain ⟨N, rfl⟩ : ∃ M, N = M + 1 := ⟨N - 1, by omega⟩
    have h5 : (i : Int) < (x4.n : Int) := by omega
    generalize hxx : x4.g i = a
    generalize hv : a.2.2.2.2.2.2.2.1 = v
    obtain ⟨r, c1, c2, c3, c4⟩ := come33_is (α := α) d h0 h0p (by omega) (by omega) (entOf a) v
    have c1' : ∀ k : Dep → Rep → Int → Option α, carry_Come d (a.1, a.2.1, a.2.2.1, a.2.2.2.1, 4, a.2.2.2.2.2.1, a.2.2.2.2.2.2.1, ()) v k = k r (repA d (entOf a) v) (comeE33 d (entOf a) v) := c1
    have hw : IntKind.i64.wrap ((i : Int) + 1) = ((i + 1 : Nat) : Int) := wrap_succ (by omega)
    have hdB := depB_of hI h3 (by omega)
    have hm : (d.2.1 == 1099511627776) = false := by rw [beq_eq_false_iff_ne]; omega
    have hE : comeE33 d (entOf a) v = comeE d.1 (entOf a) v := by
      have hs : (svc (entOf a).2.2.2.2.1 == 2) = true := rfl
      unfold comeE33
      rw [hdB, hs, hm]
      simp only [cond_true, cond_false]
      cases hb : (comeE d.1 (entOf a) v == 0) with
      | false => rfl
      | true => simp only [cond_true]; exact (by simpa using hb : comeE d.1 (entOf a) v = 0).symm
    simp only [draymanlaw33_CarryOnce_l0_run, draymanlaw33_CarryOnce_l0_step, ltT h5, nn, Bool.and_self, cond_true, toNatC, hxx, hv, out_is d (show d.2.2.1.n ≤ 900 by omega), c1', hw]
    have hf : fitK d.1 = true := (fitK_iff d.1).2 ⟨hI.one, hI.srt⟩
    cases he : (comeE33 d (entOf a) v == 0) with
    | false =>
      have e0 : (comeE33 d (entOf a) v != 0) = true := by simp only [bne, he, Bool.not_false]
      have e1 : comeE33 d (entOf a) v = 1 := by
        rw [hE] at he ⊢
        unfold comeE at he ⊢
        rw [hf] at he ⊢
        revert he
        cases oneB (entOf a) <;> cases decide (v < 1) <;> cases decide (v > 3) <;> intro he <;> first | rfl | cases he
      have e2 : (comeE33 d (entOf a) v != 1) = false := by rw [e1]; rfl
      simp only [e0, e2, cond_true, cond_false]
      exact ih (i + 1) N d (by omega) (by omega) h0 h0p (by omega) (by omega) h3 (by omega) hI
    | true =>
      have e0 : (comeE33 d (entOf a) v != 0) = false := by simp only [bne, he, Bool.not_true]
      have he' : comeE d.1 (entOf a) v = 0 := by rw [← hE]; simpa using he
      obtain ⟨_, ho, _, _⟩ := comeE_ok he'
      have hA : comeA d.1 (entOf a) v = comeL (toL d.1) (entOf a) v := by unfold comeA; rw [he']; rfl
      have hc := comeL_came (toL d.1) (entOf a) v
      obtain ⟨g1, g2, g3, g4, g5, g6⟩ := step_inv ho hI.one hI.srt hI.sum hI.par hI.has hc
      obtain ⟨f1, f2⟩ := came_fit hc ho hI.one hI.srt
      have hlen := came_len hc hI.srt
      unfold depA at c2
      rw [he, hA] at c2
      simp only [absD, cond_true, Prod.mk.injEq] at c2
      obtain ⟨d1, d2, d3⟩ := c2
      rw [← d1] at f1 f2 g1 g2 g3 hlen
      rw [← d3] at g1 g2 g3
      rw [toL_length, toL_length] at hlen
      have hI2 : InvD r := ⟨f1, f2, g1, g2, g3⟩
      have hdB2 := depB_of hI2 (by omega) (by omega)
      have hrep : repA d (entOf a) v = (2, d.2.1, (entOf a).2.1, (entOf a).2.2.1, (entOf a).2.2.2.1, (entOf a).1, (comeL (toL d.1) (entOf a) v).2.1, ()) := by unfold repA; rw [he, hA]; rfl
      have hpn : r.2.2.1.n = (cond (comeL (toL d.1) (entOf a) v).2.2 (tookL (toL d.2.2.1) (entOf a)) (toL d.2.2.1)).length := by rw [← d3, toL_length]
      have hout : outL (toL r.2.2.1) = outL (cond (comeL (toL d.1) (entOf a) v).2.2 (tookL (toL d.2.2.1) (entOf a)) (toL d.2.2.1)) := by rw [← d3]
      have hle : outL (toL d.2.2.1) ≤ d.2.2.1.n := by rw [← toL_length]; exact List.countP_le_length
      have hbk : (entOf a).2.2.2.1 = a.2.2.2.1 := rfl
      have hrn : r.2.2.1.n ≤ i + 1 := by
        rw [hpn]
        cases hd : (comeL (toL d.1) (entOf a) v).2.2 with
        | false => simp only [cond_false, toL_length]; omega
        | true =>
          simp only [cond_true]
          cases hb : (entOf a).2.2.2.1 with
          | true => have := (g5 hd hb).2; rw [toL_length] at this; omega
          | false => have := (g6 hd hb).2; rw [toL_length] at this; omega
      have last := ih (i + 1) N r (by omega) (by omega) c3 c4 (by omega) (by omega) (by omega) (by omega) hI2
      have hrle : outL (toL r.2.2.1) ≤ r.2.2.1.n := by rw [← toL_length]; exact List.countP_le_length
      have w1 : IntKind.i64.wrap ((r.2.2.1.n : Int) - (d.2.2.1.n : Int)) = (r.2.2.1.n : Int) - (d.2.2.1.n : Int) := wrap64 (by omega) (by omega)
      have w2 : IntKind.i64.wrap (((outL (toL r.2.2.1) : Nat) : Int) - ((outL (toL d.2.2.1) : Nat) : Int)) = ((outL (toL r.2.2.1) : Nat) : Int) - ((outL (toL d.2.2.1) : Nat) : Int) := wrap64 (by omega) (by omega)
      have w3 : IntKind.i64.wrap ((r.2.2.1.n : Int) - (d.2.2.1.n : Int) + (((outL (toL r.2.2.1) : Nat) : Int) - ((outL (toL d.2.2.1) : Nat) : Int))) = (r.2.2.1.n : Int) - (d.2.2.1.n : Int) + (((outL (toL r.2.2.1) : Nat) : Int) - ((outL (toL d.2.2.1) : Nat) : Int)) := wrap64 (by omega) (by omega)
      have hid : ((repA d (entOf a) v).2.1 != d.2.1) = false := by rw [hrep]; simp
      have hvd : (repA d (entOf a) v).2.2.2.2.2.2.1 = (comeL (toL d.1) (entOf a) v).2.1 := by rw [hrep]
      simp only [e0, cond_false, out_is r (show r.2.2.1.n ≤ 900 by omega), depFit_is r (show r.1.n ≤ 900 by omega) (show r.2.2.1.n ≤ 900 by omega), hdB2, Bool.not_true, Bool.not_false, cond_true, w1, w2, w3, hid, hvd]
      cases hd : (comeL (toL d.1) (entOf a) v).2.2 with
      | false =>
        rw [hd] at hpn hout
        simp only [cond_false, toL_length] at hpn hout
        have m1 : (r.2.2.1.n : Int) - (d.2.2.1.n : Int) = 0 := by omega
        have m2 : ((outL (toL r.2.2.1) : Nat) : Int) - ((outL (toL d.2.2.1) : Nat) : Int) = 0 := by omega
        rw [m1, m2]
        cases a.2.2.2.1 <;> exact last
      | true =>
        rw [hd] at hpn hout
        simp only [cond_true] at hpn hout
        have ht : (comeL (toL d.1) (entOf a) v).2.1 = 1 := g4 hd
        rw [ht]
        cases hb : a.2.2.2.1 with
        | true =>
          obtain ⟨p1, p2⟩ := g5 hd (hbk.trans hb)
          rw [toL_length] at p2
          have m1 : (r.2.2.1.n : Int) - (d.2.2.1.n : Int) = 0 := by omega
          have m2 : ((outL (toL r.2.2.1) : Nat) : Int) - ((outL (toL d.2.2.1) : Nat) : Int) = -1 := by omega
          rw [m1, m2]
          exact last
        | false =>
          obtain ⟨p1, p2⟩ := g6 hd (hbk.trans hb)
          rw [toL_length] at p2
          have m1 : (r.2.2.1.n : Int) - (d.2.2.1.n : Int) = 1 := by omega
          have m2 : ((outL (toL r.2.2.1) : Nat) : Int) - ((outL (toL d.2.2.1) : Nat) : Int) = 1 := by omega
          rw [m1, m2]
          exact last
theorem pair_loop (kr : Bool → Dep → Option α) (k4 : Int → Dep → Option α) (d : Dep) (hn : d.2.2.1.n ≤ 900) (hp : (toL d.2.2.1).Pairwise apartP) (i : Nat) (hi : i < d.2.2.1.n) : ∀ (c j N : Nat), j + c = i → c < N →
    draymanlaw33_CarryOnce_l1_run draymanlaw33_awake carry_New carry_Out carry_Come carry_Fit kr k4 N (i : Int) (j : Int) d = k4 (i : Int) d := by
  intro c
  induction c with
  | zero =>
    intro j N hj hN
    obtain ⟨N, rfl⟩ : ∃ M, N = M + 1 := ⟨N - 1, by omega⟩
    have h3 : ¬ ((j : Int) < (i : Int)) := by omega
    simp only [draymanlaw33_CarryOnce_l1_run, draymanlaw33_CarryOnce_l1_step, ltF h3, cond_false]
  | succ c ih =>
    intro j N hj hN
    obtain ⟨N, rfl⟩ : ∃ M, N = M + 1 := ⟨N - 1, by omega⟩
    have h3 : (j : Int) < (i : Int) := by omega
    have h4 : (i : Int) < (d.2.2.1.n : Int) := by omega
    have h5 : (j : Int) < (d.2.2.1.n : Int) := by omega
    have i1 := ih (j + 1) N (by omega) (by omega)
    have hap : apartP (d.2.2.1.g j) (d.2.2.1.g i) := by
      have := List.pairwise_iff_getElem.1 hp j i (by rw [toL_length]; omega) (by rw [toL_length]; exact hi) (by omega)
      simpa [toL] using this
    simp only [draymanlaw33_CarryOnce_l1_run, draymanlaw33_CarryOnce_l1_step, ltT h3, ltT h4, ltT h5, nn, Bool.and_self, cond_true, toNatC, wrap_succ (show j < 9223372036854775807 by omega), i1]
    cases e1 : ((d.2.2.1.g i).2.1 == (d.2.2.1.g j).2.1) with
    | false => rfl
    | true =>
      cases e2 : ((d.2.2.1.g i).2.2.1 == (d.2.2.1.g j).2.2.1) with
      | false => rfl
      | true =>
        simp only [beq_iff_eq] at e1 e2
        exact absurd ⟨e1.symm, e2.symm⟩ hap
theorem end_loop (kr : Bool → Dep → Option α) (k2 : Dep → Option α) (d : Dep) (hn : d.2.2.1.n ≤ 900) (hp : (toL d.2.2.1).Pairwise apartP) : ∀ (c i N : Nat), i + c = d.2.2.1.n → c < N →
    draymanlaw33_CarryOnce_l2_run draymanlaw33_awake carry_New carry_Out carry_Come carry_Fit kr k2 N (i : Int) d = k2 d := by
  intro c
  induction c with
  | zero =>
    intro i N hi hN
    obtain ⟨N, rfl⟩ : ∃ M, N = M + 1 := ⟨N - 1, by omega⟩
    have h3 : ¬ ((i : Int) < (d.2.2.1.n : Int)) := by omega
    simp only [draymanlaw33_CarryOnce_l2_run, draymanlaw33_CarryOnce_l2_step, ltF h3, cond_false]
  | succ c ih =>
    intro i N hi hN
    obtain ⟨N, rfl⟩ : ∃ M, N = M + 1 := ⟨N - 1, by omega⟩
    have h3 : (i : Int) < (d.2.2.1.n : Int) := by omega
    simp only [draymanlaw33_CarryOnce_l2_run, draymanlaw33_CarryOnce_l2_step, ltT h3, cond_true]
    refine (pair_loop _ _ d hn hp i (by omega) i 0 1000 (by omega) (by omega)).trans ?_
    simp only [wrap_succ (show i < 9223372036854775807 by omega)]
    exact ih (i + 1) N (by omega) (by omega)
theorem CarryOnce_is (x1 : Seq Ask1) (k : Bool → Option α) : draymanlaw33_CarryOnce x1 k = k true := by
  simp only [draymanlaw33_CarryOnce, draymanlaw33_CarryOnce_g, awake33_is]
  by_cases h : (x1.n : Int) > 40
  · simp only [decide_eq_true h, cond_true]
  · simp only [decide_eq_false h, cond_false, carry_New]
    refine once_loop (α := α) _ _ (k true) x1 (by omega) (fun d hI hn => ?_) x1.n 0 1000 _ (by omega) (by omega) (fun _ => rfl) (fun _ => rfl) (by simp) (by simp) (by simp) (by simp)
      ⟨fun x hx => by simp [toL] at hx, by simp [toL], by simp [toL, sumT], ⟨fun j p hj => by simp [toL] at hj, fun p hp => by simp [toL] at hp, by simp [toL]⟩, fun a b y hy hm => by simp [toL, findK] at hy⟩
    exact end_loop _ _ d (by omega) hI.par.apt d.2.2.1.n 0 1000 (by omega) (by omega)
theorem CarryOnce_true (x0 : Tup (.sl (.int .i64 (.int .i64 (.int .i64 (.bool (.int .i64 (.int .i64 (.bool (.int .i64 (.nil))))))))) (.nil))) (o0 : OkT (.sl (.int .i64 (.int .i64 (.int .i64 (.bool (.int .i64 (.int .i64 (.bool (.int .i64 (.nil))))))))) (.nil)) x0) (k : Bool → Option Unit) : draymanlaw33_CarryOnce x0.1 k = k true :=
  CarryOnce_is (α := Unit) x0.1 k
end Go.Rv.Try
