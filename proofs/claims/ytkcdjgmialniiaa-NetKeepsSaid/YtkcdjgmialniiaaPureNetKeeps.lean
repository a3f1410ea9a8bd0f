/- The plain law of NetKeeps: nothing comes off a net but what was put on it, once. No condition. -/
import Derived.Test.YtkcdjgmialniiaaE5
import Derived.Test.YtkcdjgmialniiaaPureNetDoes
set_option linter.unusedVariables false
set_option linter.unusedSimpArgs false
namespace Go.Rv.Try
open Go Go.Rv Go.RowKit
variable {α : Type}
abbrev Act34 := Int × Int × Env1

theorem hasI_iff {l : List Int} {x : Int} : hasI l x = true ↔ x ∈ l := by
  simp [hasI]
theorem okFrom_iff (next : Int) : ∀ (l : List Env1) (pre : List Int), okFrom next pre l = true ↔ (∀ x ∈ l, envB x = true ∧ x.1 < next) ∧ (l.map (·.1)).Nodup ∧ ∀ x ∈ l, x.1 ∉ pre
  | [], pre => by simp [okFrom]
  | x :: l, pre => by
    have ih := okFrom_iff next l (pre ++ [x.1])
    have hh : hasI pre x.1 = false ↔ x.1 ∉ pre := by rw [← hasI_iff]; cases hasI pre x.1 <;> simp
    have hge : (¬ x.1 ≥ next) ↔ x.1 < next := by omega
    simp only [okFrom, Bool.and_eq_true, Bool.not_eq_true', decide_eq_false_iff_not, ih, hh, hge, List.mem_cons, List.map_cons, List.nodup_cons, List.mem_append, List.mem_singleton]
    constructor
    · rintro ⟨h1, h2, h3, h4, h5, h6⟩
      refine ⟨?_, ⟨?_, h5⟩, ?_⟩
      · rintro y (rfl | hy)
        · exact ⟨h1, h2⟩
        · exact h4 y hy
      · intro hm
        obtain ⟨y, hy, he⟩ := List.mem_map.1 hm
        exact h6 y hy (.inr (.inl he))
      · rintro y (rfl | hy)
        · exact h3
        · exact fun h => h6 y hy (.inl h)
    · rintro ⟨h1, ⟨h2, h3⟩, h4⟩
      refine ⟨(h1 x (.inl rfl)).1, (h1 x (.inl rfl)).2, h4 x (.inl rfl), fun y hy => h1 y (.inr hy), h3, fun y hy hm => ?_⟩
      rcases hm with hm | hm
      · exact h4 y (.inr hy) hm
      · rcases hm with hm | hm
        · exact h2 (List.mem_map.2 ⟨y, hy, hm⟩)
        · cases hm
theorem netB_iff (n : Net) : netB n = true ↔ idB n.1 = true ∧ n.2.1.n ≤ 64 ∧ (∀ x ∈ toL n.2.1, envB x = true ∧ x.1 < n.1) ∧ ((toL n.2.1).map (·.1)).Nodup := by
  simp only [netB, Bool.and_eq_true, decide_eq_true_eq, okFrom_iff, List.not_mem_nil, not_false_iff, implies_true, and_true]

structure Inv (n : Net) (H C : List Env1) : Prop where
  fit : netB n = true
  hn : (H.map (·.1)).Nodup
  hl : ∀ x ∈ H, x.1 < n.1
  cl : ((C ++ toL n.2.1).map (·.1)).Nodup
  ch : ∀ x ∈ C ++ toL n.2.1, x ∈ H

noncomputable def tailF (kr : Bool → Net → Envs → Envs → Option α) (rec' : Net → Envs → Envs → Option α) (x6 : Net) (q7 q8 : Envs) (r9 : Net) : Option α :=
            (net_Fit r9 fun r10 =>
              (cond (!(!r10))
                (cond (!(decide (r9.1 < x6.1)))
                  (cond (decide (r9.1 > (IntKind.i64.wrap (x6.1 + 1))))
                    (kr false r9 q7 q8)
                    (cond (r9.1 == (IntKind.i64.wrap (x6.1 + 1)))
                      (cond (decide ((r9.2.1.n : Int) > 0))
                        (cond ((decide ((0 : Int) ≤ (IntKind.i64.wrap ((r9.2.1.n : Int) - 1)))) && (decide ((IntKind.i64.wrap ((r9.2.1.n : Int) - 1)) < (r9.2.1.n : Int))))
                          (cond ((r9.2.1.g (IntKind.i64.wrap ((r9.2.1.n : Int) - 1)).toNat).1 == x6.1)
                            (cond ((decide ((0 : Int) ≤ (IntKind.i64.wrap ((r9.2.1.n : Int) - 1)))) && (decide ((IntKind.i64.wrap ((r9.2.1.n : Int) - 1)) < (r9.2.1.n : Int))))
                              (cond (decide (((q7.n + 1)) * 136 ≤ 140737488355328))
                                (rec' r9 (⟨(q7.nl && false), (q7.n + 1), (tApp q7.n q7.g (fun _ => (r9.2.1.g (IntKind.i64.wrap ((r9.2.1.n : Int) - 1)).toNat)))⟩ : Envs) q8)
                                none)
                              none)
                            (rec' r9 q7 q8))
                          none)
                        (rec' r9 q7 q8))
                      (rec' r9 q7 q8)))
                  (kr false r9 q7 q8))
                (kr false r9 q7 q8)))
theorem tail_same (kr : Bool → Net → Envs → Envs → Option α) (rec' : Net → Envs → Envs → Option α) (n : Net) (q7 q8 : Envs) (r : Net) (hf : netB r = true) (h1 : r.1 = n.1) (hb : n.1 ≤ 1000 ∧ 0 ≤ n.1) : tailF kr rec' n q7 q8 r = rec' r q7 q8 := by
  have hr := ((netB_iff r).1 hf).2.1
  have hw : IntKind.i64.wrap (n.1 + 1) = n.1 + 1 := wrap64 (by omega) (by omega)
  have e1 : ¬ r.1 < n.1 := by omega
  have e2 : ¬ r.1 > n.1 + 1 := by omega
  have e3 : (r.1 == n.1 + 1) = false := by rw [beq_eq_false_iff_ne]; omega
  simp only [tailF, netFit_is r (by omega), hf, hw, decide_eq_false e1, decide_eq_false e2, e3, Bool.not_true, Bool.not_false, cond_true, cond_false]
theorem tail_put (kr : Bool → Net → Envs → Envs → Option α) (rec' : Net → Envs → Envs → Option α) (n : Net) (q7 q8 : Envs) (hq : q7.n ≤ 900) (r : Net) (x : Env1) (hf : netB r = true) (h1 : r.1 = n.1 + 1) (hb : n.1 ≤ 1000 ∧ 0 ≤ n.1) (hL : toL r.2.1 = toL n.2.1 ++ [x]) (hx : x.1 = n.1) :
    ∃ q : Envs, toL q = toL q7 ++ [x] ∧ q.n = q7.n + 1 ∧ tailF kr rec' n q7 q8 r = rec' r q q8 := by
  have hr := ((netB_iff r).1 hf).2.1
  have hlen : r.2.1.n = n.2.1.n + 1 := by
    have := congrArg List.length hL
    simpa only [toL_length, List.length_append, List.length_cons, List.length_nil] using this
  have hw : IntKind.i64.wrap (n.1 + 1) = n.1 + 1 := wrap64 (by omega) (by omega)
  have hw2 : IntKind.i64.wrap ((r.2.1.n : Int) - 1) = ((n.2.1.n : Nat) : Int) := by rw [wrap64 (by omega) (by omega)]; omega
  have e1 : ¬ r.1 < n.1 := by omega
  have e2 : ¬ r.1 > n.1 + 1 := by omega
  have e3 : (r.1 == n.1 + 1) = true := by simpa using h1
  have e4 : (r.2.1.n : Int) > 0 := by omega
  have e5 : ((n.2.1.n : Nat) : Int) < (r.2.1.n : Int) := by omega
  have hg : r.2.1.g n.2.1.n = x := by
    have h2 := toL_get r.2.1 (i := n.2.1.n) (by omega)
    rw [hL, List.getElem?_append_right (by rw [toL_length]; omega), toL_length, Nat.sub_self] at h2
    simpa using h2.symm
  have e6 : ((r.2.1.g n.2.1.n).1 == n.1) = true := by rw [hg]; simpa using hx
  have e7 : decide (((q7.n + 1)) * 136 ≤ 140737488355328) = true := decide_eq_true (by omega)
  refine ⟨(⟨(q7.nl && false), (q7.n + 1), (tApp q7.n q7.g (fun _ => (r.2.1.g (IntKind.i64.wrap ((r.2.1.n : Int) - 1)).toNat)))⟩ : Envs), ?_, rfl, ?_⟩
  · rw [toL_app _ q7.nl false, toL_one, hw2, toNatC, hg]
  · simp only [tailF, netFit_is r (by omega), hf, hw, hw2, toNatC, decide_eq_false e1, decide_eq_false e2, e3, decide_eq_true e4, ltT e5, nn, e6, e7, Bool.and_self, Bool.not_true, Bool.not_false, cond_true, cond_false]
theorem tail_full (kr : Bool → Net → Envs → Envs → Option α) (rec' : Net → Envs → Envs → Option α) (n : Net) (q7 q8 : Envs) (r : Net) (hf : netB r = true) (h1 : r.1 = n.1 + 1) (hb : n.1 ≤ 1000 ∧ 0 ≤ n.1) (hL : toL r.2.1 = toL n.2.1) (hx : ∀ x ∈ toL n.2.1, x.1 < n.1) (h0 : 0 < n.2.1.n) :
    tailF kr rec' n q7 q8 r = rec' r q7 q8 := by
  have hr := ((netB_iff r).1 hf).2.1
  have hlen : r.2.1.n = n.2.1.n := by
    have := congrArg List.length hL
    simpa only [toL_length] using this
  have hw : IntKind.i64.wrap (n.1 + 1) = n.1 + 1 := wrap64 (by omega) (by omega)
  have hw2 : IntKind.i64.wrap ((r.2.1.n : Int) - 1) = ((n.2.1.n - 1 : Nat) : Int) := by rw [wrap64 (by omega) (by omega)]; omega
  have e1 : ¬ r.1 < n.1 := by omega
  have e2 : ¬ r.1 > n.1 + 1 := by omega
  have e3 : (r.1 == n.1 + 1) = true := by simpa using h1
  have e4 : (r.2.1.n : Int) > 0 := by omega
  have e5 : ((n.2.1.n - 1 : Nat) : Int) < (r.2.1.n : Int) := by omega
  have hg := hx (r.2.1.g (n.2.1.n - 1)) (by rw [← hL]; exact List.mem_of_getElem? (toL_get r.2.1 (i := n.2.1.n - 1) (by omega)))
  have e6 : ((r.2.1.g (n.2.1.n - 1)).1 == n.1) = false := by rw [beq_eq_false_iff_ne]; omega
  simp only [tailF, netFit_is r (by omega), hf, hw, hw2, toNatC, decide_eq_false e1, decide_eq_false e2, e3, decide_eq_true e4, ltT e5, nn, e6, Bool.and_self, Bool.not_true, Bool.not_false, cond_true, cond_false]

theorem netB_abs {n r : Net} (h : absN r = absN n) : netB r = netB n := by
  have h2 := absN_n h
  simp only [absN, Prod.mk.injEq] at h
  simp only [netB, h.1, h.2, h2]
theorem Inv.abs {n r : Net} {H C : List Env1} (h : Inv n H C) (ha : absN r = absN n) : Inv r H C := by
  have h2 := ha
  simp only [absN, Prod.mk.injEq] at h2
  exact ⟨(netB_abs ha).trans h.fit, h.hn, fun x hx => by rw [h2.1]; exact h.hl x hx, by rw [h2.2]; exact h.cl, by rw [h2.2]; exact h.ch⟩
/-- What is put: it is had, or nothing is. -/
theorem put_step (kr : Bool → Net → Envs → Envs → Option α) (rec' : Net → Envs → Envs → Option α) {n r : Net} {x : Env1} {q7 q8 : Envs} (h : Inv n (toL q7) (toL q8)) (hq : q7.n ≤ 900) (hb : n.1 ≤ 1000) (hx : x.1 = n.1) (ha : absN r = putN n x) :
    ∃ q : Envs, Inv r (toL q) (toL q8) ∧ q.n ≤ q7.n + 1 ∧ r.1 ≤ n.1 + 1 ∧ tailF kr rec' n q7 q8 r = rec' r q q8 := by
  obtain ⟨i1, i2, i3, i4⟩ := (netB_iff n).1 h.fit
  have hid := le_of_id i1
  unfold putN at ha
  have hm : (n.1 == 1099511627776) = false := by rw [beq_eq_false_iff_ne]; omega
  rw [h.fit, hm] at ha
  cases he : envB x with
  | false =>
    rw [he] at ha
    have ha : absN r = absN n := ha
    have hI := h.abs ha
    have h1 : r.1 = n.1 := congrArg (fun p : Int × List Env1 => p.1) ha
    exact ⟨q7, hI, by omega, by omega, tail_same kr rec' n q7 q8 r hI.fit h1 ⟨hb, by omega⟩⟩
  | true =>
    rw [he] at ha
    have hid2 : idB (n.1 + 1) = true := by simp [idB]; omega
    by_cases hlt : n.2.1.n < 64
    · rw [decide_eq_true hlt] at ha
      simp only [absN, cond_true, cond_false, Prod.mk.injEq] at ha
      obtain ⟨h1, hL⟩ := ha
      have hlen : r.2.1.n = n.2.1.n + 1 := by
        have := congrArg List.length hL
        simpa only [toL_length, List.length_append, List.length_cons, List.length_nil] using this
      have hnew : ∀ l : List Env1, (∀ y ∈ l, y.1 < n.1) → (l.map (·.1)).Nodup → ((l ++ [x]).map (·.1)).Nodup := by
        intro l hl hnd
        rw [List.map_append, List.nodup_append]
        refine ⟨hnd, by simp, fun a ha b hb => ?_⟩
        obtain ⟨y, hy, rfl⟩ := List.mem_map.1 ha
        simp only [List.map_cons, List.map_nil, List.mem_singleton] at hb
        subst hb
        have := hl y hy
        intro e; omega
      have hf : netB r = true := by
        rw [netB_iff, h1, hL, hlen]
        refine ⟨hid2, by omega, fun y hy => ?_, hnew _ (fun y hy => (i3 y hy).2) i4⟩
        rcases List.mem_append.1 hy with hy | hy
        · have := i3 y hy; exact ⟨this.1, by omega⟩
        · rw [List.mem_singleton] at hy; subst hy; exact ⟨he, by omega⟩
      obtain ⟨q, g1, g2, g3⟩ := tail_put kr rec' n q7 q8 hq r x hf h1 ⟨hb, by omega⟩ hL hx
      refine ⟨q, ⟨hf, ?_, ?_, ?_, ?_⟩, by omega, by omega, g3⟩
      · rw [g1]; exact hnew _ h.hl h.hn
      · intro y hy
        rw [g1] at hy
        rcases List.mem_append.1 hy with hy | hy
        · have := h.hl y hy; omega
        · rw [List.mem_singleton] at hy; subst hy; omega
      · rw [hL, ← List.append_assoc]
        exact hnew _ (fun y hy => h.hl y (h.ch y hy)) h.cl
      · intro y hy
        rw [hL, ← List.append_assoc] at hy
        rw [g1]
        rcases List.mem_append.1 hy with hy | hy
        · exact List.mem_append_left _ (h.ch y hy)
        · exact List.mem_append_right _ hy
    · rw [decide_eq_false hlt] at ha
      simp only [absN, cond_true, cond_false, Prod.mk.injEq] at ha
      obtain ⟨h1, hL⟩ := ha
      have hlen : r.2.1.n = n.2.1.n := by
        have := congrArg List.length hL
        simpa only [toL_length] using this
      have hf : netB r = true := by
        rw [netB_iff, h1, hL, hlen]
        exact ⟨hid2, i2, fun y hy => by have := i3 y hy; exact ⟨this.1, by omega⟩, i4⟩
      refine ⟨q7, ⟨hf, h.hn, fun y hy => by have := h.hl y hy; omega, by rw [hL]; exact h.cl, by rw [hL]; exact h.ch⟩, by omega, by omega, tail_full kr rec' n q7 q8 r hf h1 ⟨hb, by omega⟩ hL (fun y hy => (i3 y hy).2) (by omega)⟩

theorem look_mem {n : Net} {i : Nat} (h : (lookA n (i : Int)).2 = true) : i < n.2.1.n ∧ (lookA n (i : Int)).1 = n.2.1.g i := by
  obtain ⟨h1, h2⟩ := look_in h
  refine ⟨by omega, ?_⟩
  have e1 : ¬ ((i : Int) < 0) := by omega
  have e2 : ¬ ((i : Int) ≥ (n.2.1.n : Int)) := by omega
  simp only [lookA, if_neg e1, if_neg e2, toNatC]
theorem take_inv {n r : Net} {i : Int} {H C : List Env1} (h : Inv n H C) (he : takeE n i = 0) (ha : absN r = takeN n i) : Inv r H (C ++ [takeX n i]) ∧ r.1 = n.1 := by
  obtain ⟨hb, hl⟩ := takeE_ok he
  obtain ⟨h1, h2⟩ := look_in hl
  obtain ⟨i, rfl⟩ : ∃ m : Nat, i = (m : Int) := ⟨i.toNat, by omega⟩
  obtain ⟨h3, h4⟩ := look_mem hl
  have hx : takeX n (i : Int) = n.2.1.g i := by unfold takeX; rw [hb, hl, ← h4]; rfl
  unfold takeN at ha
  rw [hb, hl] at ha
  simp only [absN, cond_true, Prod.mk.injEq, toNatC] at ha
  obtain ⟨g1, g2⟩ := ha
  obtain ⟨i1, i2, i3, i4⟩ := (netB_iff n).1 h.fit
  have hlen : i < (toL n.2.1).length := by rw [toL_length]; exact h3
  have hget : (toL n.2.1)[i] = n.2.1.g i := by simp [toL]
  have hsplit : toL n.2.1 = (toL n.2.1).take i ++ n.2.1.g i :: (toL n.2.1).drop (i + 1) := by
    rw [← hget, ← List.drop_eq_getElem_cons hlen, List.take_append_drop]
  have hsub : ((toL n.2.1).take i ++ (toL n.2.1).drop (i + 1)).Sublist (toL n.2.1) := by
    conv => rhs; rw [hsplit]
    exact (List.Sublist.refl _).append (List.sublist_cons_self _ _)
  have hperm : (C ++ [n.2.1.g i] ++ ((toL n.2.1).take i ++ (toL n.2.1).drop (i + 1))).Perm (C ++ toL n.2.1) := by
    conv => rhs; rw [hsplit]
    rw [List.append_assoc]
    refine List.Perm.append_left C ?_
    rw [List.singleton_append]
    exact (List.perm_middle).symm
  refine ⟨⟨?_, h.hn, by rw [g1]; exact h.hl, ?_, ?_⟩, g1⟩
  · have hl2 : r.2.1.n ≤ 64 := by
      have := congrArg List.length g2
      simp only [toL_length, List.length_append, List.length_take, List.length_drop] at this
      omega
    rw [netB_iff, g1, g2]
    exact ⟨i1, hl2, fun y hy => i3 y (hsub.subset hy), i4.sublist (hsub.map _)⟩
  · rw [g2, hx]
    exact ((hperm.map (·.1)).nodup_iff).2 h.cl
  · intro y hy
    rw [g2, hx] at hy
    exact h.ch y (hperm.subset hy)

theorem keeps_loop (kr : Bool → Net → Envs → Envs → Option α) (k0 : Net → Envs → Envs → Option α) (res : Option α) (x4 : Seq Act34) (hx : x4.n ≤ 90) (hk0 : ∀ n q7 q8, Inv n (toL q7) (toL q8) → q7.n ≤ 90 → q8.n ≤ 90 → k0 n q7 q8 = res) :
    ∀ (m i N : Nat) (n : Net) (q7 q8 : Envs), i + m = x4.n → m < N → Inv n (toL q7) (toL q8) → n.1 ≤ (i : Int) + 1 → q7.n ≤ i → q8.n ≤ i →
    draymanlaw34_NetKeeps_l0_run draymanlaw34_awake net_New net_Ask net_Fit net_Tell net_Take net_Copy kr k0 N x4 (i : Int) n q7 q8 = res := by
  intro m
  induction m with
  | zero =>
    intro i N n q7 q8 hi hN hI h1 h2 h3
    obtain ⟨N, rfl⟩ : ∃ M, N = M + 1 := ⟨N - 1, by omega⟩
    have : ¬ ((i : Int) < (x4.n : Int)) := by omega
    simp only [draymanlaw34_NetKeeps_l0_run, draymanlaw34_NetKeeps_l0_step, ltF this, cond_false]
    exact hk0 n q7 q8 hI (by omega) (by omega)
  | succ m ih =>
    intro i N n q7 q8 hi hN hI h1 h2 h3
    obtain ⟨N, rfl⟩ : ∃ M, N = M + 1 := ⟨N - 1, by omega⟩
    have hlt : (i : Int) < (x4.n : Int) := by omega
    have hn9 : n.2.1.n ≤ 900 := by have := ((netB_iff n).1 hI.fit).2.1; omega
    have hid := le_of_id ((netB_iff n).1 hI.fit).1
    have hw : IntKind.i64.wrap ((i : Int) + 1) = ((i + 1 : Nat) : Int) := wrap_succ (by omega)
    let rec' : Net → Envs → Envs → Option α := fun r q7 q8 => draymanlaw34_NetKeeps_l0_run draymanlaw34_awake net_New net_Ask net_Fit net_Tell net_Take net_Copy kr k0 N x4 ((i + 1 : Nat) : Int) r q7 q8
    have step : ∀ (r : Net) (q q' : Envs), Inv r (toL q) (toL q') → r.1 ≤ n.1 + 1 → q.n ≤ i + 1 → q'.n ≤ i + 1 → rec' r q q' = res := fun r q q' hI' h1' h2' h3' => ih (i + 1) N r q q' (by omega) (by omega) hI' (by omega) h2' h3'
    have same : ∀ q : Envs, tailF kr rec' n q7 q8 n = res := fun q => (tail_same kr rec' n q7 q8 n hI.fit rfl ⟨by omega, by omega⟩).trans (step n q7 q8 hI (by omega) (by omega) (by omega))
    simp only [draymanlaw34_NetKeeps_l0_run, draymanlaw34_NetKeeps_l0_step, ltT hlt, nn, Bool.and_self, cond_true, toNatC, hw]
    cases k1 : ((x4.g i).1 == 1) with
    | true =>
      obtain ⟨r, a1, a2⟩ := ask_is (α := α) n hn9 (entOf (x4.g i).2.2)
      obtain ⟨q, b1, b2, b3, b4⟩ := put_step kr rec' (x := askX n (entOf (x4.g i).2.2)) hI (by omega) (by omega) rfl a2
      simp only [cond_true]
      refine (a1 _).trans ?_
      exact Eq.trans b4 (step r q q8 b1 b3 (by omega) (by omega))
    | false =>
    cases k2 : ((x4.g i).1 == 2) with
    | true =>
      obtain ⟨r, a1, a2⟩ := tell_is (α := α) n hn9 (repOf (x4.g i).2.2)
      obtain ⟨q, b1, b2, b3, b4⟩ := put_step kr rec' (x := tellX n (repOf (x4.g i).2.2)) hI (by omega) (by omega) rfl a2
      simp only [cond_true, cond_false]
      refine (a1 _).trans ?_
      exact Eq.trans b4 (step r q q8 b1 b3 (by omega) (by omega))
    | false =>
    cases k3 : ((x4.g i).1 == 3) with
    | true =>
      obtain ⟨r, a1, a2⟩ := take_is (α := α) n hn9 (x4.g i).2.1
      simp only [cond_true, cond_false, a1]
      cases he : (takeE n (x4.g i).2.1 == 0) with
      | true =>
        obtain ⟨hI', hr⟩ := take_inv hI (by simpa using he) a2
        have e7 : decide (((q8.n + 1)) * 136 ≤ 140737488355328) = true := decide_eq_true (by omega)
        have hL : toL (⟨(q8.nl && false), (q8.n + 1), (tApp q8.n q8.g (fun _ => takeX n (x4.g i).2.1))⟩ : Envs) = toL q8 ++ [takeX n (x4.g i).2.1] := by
          rw [toL_app _ q8.nl false, toL_one]
        simp only [cond_true, e7]
        refine Eq.trans (tail_same kr rec' n q7 (⟨(q8.nl && false), (q8.n + 1), (tApp q8.n q8.g (fun _ => takeX n (x4.g i).2.1))⟩ : Envs) r hI'.fit hr ⟨by omega, by omega⟩) ?_
        exact step r q7 _ (by rw [hL]; exact hI') (by omega) (by omega) (by simp only; omega)
      | false =>
        simp only [cond_false]
        exact same q7
    | false =>
      obtain ⟨r, a1, a2⟩ := copy_is (α := α) n hn9 (x4.g i).2.1
      simp only [cond_false, a1]
      cases he : (copyE n (x4.g i).2.1 == 0) with
      | true =>
        unfold copyN at a2
        rw [he] at a2
        obtain ⟨q, b1, b2, b3, b4⟩ := put_step kr rec' (x := numbered n (lookA n (x4.g i).2.1).1) hI (by omega) (by omega) rfl a2
        simp only [cond_true]
        exact Eq.trans b4 (step r q q8 b1 b3 (by omega) (by omega))
      | false =>
        simp only [cond_false]
        exact same q7

/-! ### In the end -/
theorem count_loop (k5 : Int → Int → Net → Envs → Envs → Option α) (n : Net) (q7 q8 : Envs) (i : Nat) (hi : i < q8.n) (hq : q7.n ≤ 900) : ∀ (d j N c : Nat), j + d = q7.n → d < N → c ≤ j →
    draymanlaw34_NetKeeps_l1_run draymanlaw34_awake net_New net_Ask net_Fit net_Tell net_Take net_Copy k5 N (i : Int) (c : Int) (j : Int) n q7 q8 = k5 (i : Int) ((c + ((toL q7).drop j).countP (fun y => eqE y (q8.g i)) : Nat) : Int) n q7 q8 := by
  intro d
  induction d with
  | zero =>
    intro j N c hj hN hc
    obtain ⟨N, rfl⟩ : ∃ M, N = M + 1 := ⟨N - 1, by omega⟩
    have : ¬ ((j : Int) < (q7.n : Int)) := by omega
    simp only [draymanlaw34_NetKeeps_l1_run, draymanlaw34_NetKeeps_l1_step, ltF this, cond_false, toL_end q7 (show q7.n ≤ j by omega), List.countP_nil, Nat.add_zero]
  | succ d ih =>
    intro j N c hj hN hc
    obtain ⟨N, rfl⟩ : ∃ M, N = M + 1 := ⟨N - 1, by omega⟩
    have h1 : (j : Int) < (q7.n : Int) := by omega
    have h2 : (i : Int) < (q8.n : Int) := by omega
    have h3 : Nat.blt j q7.n = true := by rw [Nat.blt_eq]; omega
    have h4 : Nat.blt i q8.n = true := by rw [Nat.blt_eq]; omega
    have i1 := ih (j + 1) N (c + 1) (by omega) (by omega) (by omega)
    have i2 := ih (j + 1) N c (by omega) (by omega) (by omega)
    simp only [draymanlaw34_NetKeeps_l1_run, draymanlaw34_NetKeeps_l1_step, ltT h1, ltT h2, nn, Bool.and_self, h3, h4, cond_true, toNatC, wrap_succ (show j < 9223372036854775807 by omega), wrap_succ (show c < 9223372036854775807 by omega), i1, i2]
    show cond (eqE (q7.g j) (q8.g i)) _ _ = _
    rw [toL_drop q7 (show j < q7.n by omega), List.countP_cons]
    cases eqE (q7.g j) (q8.g i) with
    | true => simp only [cond_true, if_true]; rw [show c + 1 + List.countP (fun y => eqE y (q8.g i)) (List.drop (j + 1) (toL q7)) = c + (List.countP (fun y => eqE y (q8.g i)) (List.drop (j + 1) (toL q7)) + 1) by omega]
    | false => simp only [cond_false, Bool.false_eq_true, if_false, Nat.add_zero]
theorem apart_loop (kr : Bool → Net → Envs → Envs → Option α) (k7 : Int → Int → Net → Envs → Envs → Option α) (n : Net) (q7 q8 : Envs) (i : Nat) (c : Int) (hi : i < q8.n) (hq : q8.n ≤ 900) (hne : ∀ j, j < i → q8.g j ≠ q8.g i) : ∀ (d j N : Nat), j + d = i → d < N →
    draymanlaw34_NetKeeps_l2_run draymanlaw34_awake net_New net_Ask net_Fit net_Tell net_Take net_Copy kr k7 N (i : Int) c (j : Int) n q7 q8 = k7 (i : Int) c n q7 q8 := by
  intro d
  induction d with
  | zero =>
    intro j N hj hN
    obtain ⟨N, rfl⟩ : ∃ M, N = M + 1 := ⟨N - 1, by omega⟩
    have : ¬ ((j : Int) < (i : Int)) := by omega
    simp only [draymanlaw34_NetKeeps_l2_run, draymanlaw34_NetKeeps_l2_step, ltF this, cond_false]
  | succ d ih =>
    intro j N hj hN
    obtain ⟨N, rfl⟩ : ∃ M, N = M + 1 := ⟨N - 1, by omega⟩
    have h1 : (j : Int) < (i : Int) := by omega
    have h2 : (i : Int) < (q8.n : Int) := by omega
    have h5 : (j : Int) < (q8.n : Int) := by omega
    have h3 : Nat.blt j q8.n = true := by rw [Nat.blt_eq]; omega
    have h4 : Nat.blt i q8.n = true := by rw [Nat.blt_eq]; omega
    have i1 := ih (j + 1) N (by omega) (by omega)
    simp only [draymanlaw34_NetKeeps_l2_run, draymanlaw34_NetKeeps_l2_step, ltT h1, ltT h2, ltT h5, nn, Bool.and_self, h3, h4, cond_true, toNatC, wrap_succ (show j < 9223372036854775807 by omega), i1]
    show cond (eqE (q8.g j) (q8.g i)) _ _ = _
    rw [eqE_is, decide_eq_false (hne j (by omega))]
    rfl
theorem count_one : ∀ (l : List Env1) (c : Env1), (l.map (·.1)).Nodup → c ∈ l → l.countP (fun y => eqE y c) = 1
  | [], c, _, h => by cases h
  | x :: l, c, hnd, h => by
    simp only [List.map_cons, List.nodup_cons] at hnd
    rw [List.countP_cons]
    rcases List.mem_cons.1 h with rfl | h
    · have : l.countP (fun y => eqE y c) = 0 := by
        rw [List.countP_eq_zero]
        intro y hy
        rw [eqE_is, decide_eq_true_eq]
        intro e
        subst e
        exact hnd.1 (List.mem_map_of_mem (f := (·.1)) hy)
      rw [this, eqE_is]; simp
    · rw [count_one l c hnd.2 h]
      have : eqE x c = false := by
        rw [eqE_is, decide_eq_false_iff_not]
        intro e
        subst e
        exact hnd.1 (List.mem_map_of_mem (f := (·.1)) h)
      rw [this]; rfl
theorem end_loop (kr : Bool → Net → Envs → Envs → Option α) (k3 : Net → Envs → Envs → Option α) (n : Net) (q7 q8 : Envs) (hI : Inv n (toL q7) (toL q8)) (h7 : q7.n ≤ 90) (h8 : q8.n ≤ 90) : ∀ (d i N : Nat), i + d = q8.n → d < N →
    draymanlaw34_NetKeeps_l3_run draymanlaw34_awake net_New net_Ask net_Fit net_Tell net_Take net_Copy kr k3 N (i : Int) n q7 q8 = k3 n q7 q8 := by
  intro d
  induction d with
  | zero =>
    intro i N hi hN
    obtain ⟨N, rfl⟩ : ∃ M, N = M + 1 := ⟨N - 1, by omega⟩
    have : ¬ ((i : Int) < (q8.n : Int)) := by omega
    simp only [draymanlaw34_NetKeeps_l3_run, draymanlaw34_NetKeeps_l3_step, ltF this, cond_false]
  | succ d ih =>
    intro i N hi hN
    obtain ⟨N, rfl⟩ : ∃ M, N = M + 1 := ⟨N - 1, by omega⟩
    have h1 : (i : Int) < (q8.n : Int) := by omega
    have hi' : i < q8.n := by omega
    have i1 := ih (i + 1) N (by omega) (by omega)
    have hmem : q8.g i ∈ toL q7 := hI.ch _ (List.mem_append_left _ (List.mem_of_getElem? (toL_get q8 hi')))
    have hone := count_one (toL q7) (q8.g i) hI.hn hmem
    have hnd : ((toL q8).map (·.1)).Nodup := by
      have := hI.cl
      rw [List.map_append, List.nodup_append] at this
      exact this.1
    have hne : ∀ j, j < i → q8.g j ≠ q8.g i := by
      intro j hj e
      have e2 : ((toL q8).map (·.1))[j]'(by simp [toL_length]; omega) = ((toL q8).map (·.1))[i]'(by simp [toL_length]; omega) := by
        simp [toL, e]
      have := (List.getElem_inj hnd).1 e2
      omega
    simp only [draymanlaw34_NetKeeps_l3_run, draymanlaw34_NetKeeps_l3_step, ltT h1, cond_true]
    refine (count_loop _ n q7 q8 i hi' (by omega) q7.n 0 1000 0 (by omega) (by omega) (by omega)).trans ?_
    rw [List.drop_zero, hone]
    refine (apart_loop _ _ n q7 q8 i _ hi' (by omega) hne i 0 1000 (by omega) (by omega)).trans ?_
    simp only [wrap_succ (show i < 9223372036854775807 by omega)]
    exact i1

theorem NetKeeps_is (x : Seq Act34) (k : Bool → Option α) : draymanlaw34_NetKeeps x k = k true := by
  simp only [draymanlaw34_NetKeeps, draymanlaw34_NetKeeps_g, awake34_is]
  by_cases h : (x.n : Int) > 90
  · simp only [decide_eq_true h, cond_true]
  · simp only [decide_eq_false h, cond_false, net_New]
    exact keeps_loop (α := α) _ _ (k true) x (by omega) (fun n q7 q8 hI h7 h8 => end_loop _ _ n q7 q8 hI h7 h8 q8.n 0 1000 (by omega) (by omega)) x.n 0 1000 _ _ _ (by omega) (by omega)
      ⟨by rfl, by simp [toL], by simp [toL], by simp [toL], by simp [toL]⟩ (by simp) (by simp) (by simp)
theorem NetKeeps_true (x0 : Tup (.sl (.int .i64 (.int .i64 (.int .i64 (.bool (.int .i64 (.int .i64 (.int .i64 (.int .i64 (.bool (.int .i64 (.int .i64 (.bool (.int .i64 (.int .i64 (.int .i64 (.int .i64 (.bool (.int .i64 (.int .i64 (.nil)))))))))))))))))))) (.nil))) (o0 : OkT (.sl (.int .i64 (.int .i64 (.int .i64 (.bool (.int .i64 (.int .i64 (.int .i64 (.int .i64 (.bool (.int .i64 (.int .i64 (.bool (.int .i64 (.int .i64 (.int .i64 (.int .i64 (.bool (.int .i64 (.int .i64 (.nil)))))))))))))))))))) (.nil)) x0) (k : Bool → Option Unit) : draymanlaw34_NetKeeps x0.1 k = k true :=
  NetKeeps_is (α := Unit) x0.1 k
end Go.Rv.Try
