/- Balance: the reference's best places; what is left over. -/
import Derived.Test.YtjgpnbchnenbeaaB4
namespace Go.Proofs.Ytjgpnbchnenbeaa
set_option linter.unusedSimpArgs false
set_option linter.unusedVariables false
open Go
open Go.RowKit (Below)

set_option maxHeartbeats 1000000 in
set_option maxRecDepth 100000 in
theorem sBestPlaces_ct (w : World) (v : Value) (ws : List WV) (h : WtV w v ws) (hok : ∀ d ∈ ws, Wok d) (hp : Pulls (0, 0) ws)
    (hm : ∀ i k, i < 8 → k < 8 → lineB i k = false → MasOK (pullW (0, 0) ws).1 (pullW (0, 0) ws).2 i k) :
    Ct Try.prog 59 #[v] w (Is (bestV (outerB (pullW (0, 0) ws).1 (pullW (0, 0) ws).2 8)) w) := by
  (refine fn_of_W Try.func59 rfl (by kernel_rfl) (by kernel_rfl) (Nat.le_of_ble_eq_true (by kernel_rfl)) ?_; (try simp only [RS, RF, cond_true, cond_false, List.nil_append, List.cons_append, List.toList_toArray, Option.isSome_some, Option.map_some, Option.map_none, Nat.reduceBEq, isShift, kEq, fEq, binInt, binFloat, shiftInt, binStr, Try.f59]))
  (refine (l07Ok_ct w v ws h hok).mono ?_; rintro _ w1 ⟨rfl, hw1⟩)
  (try simp only [RS, RF, cond_true, cond_false, List.nil_append, List.cons_append, List.toList_toArray, Option.isSome_some, Option.map_some, Option.map_none, Nat.reduceBEq, isShift, kEq, fEq, binInt, binFloat, shiftInt, binStr])
  (refine (l07Pull_ct w1 v ws (h.bl hw1) hp).mono ?_; rintro _ w1' ⟨rfl, hw1'⟩)
  have hb1 := hw1.trans hw1'
  (try simp only [RS, RF, cond_true, cond_false, List.nil_append, List.cons_append, List.toList_toArray, Option.isSome_some, Option.map_some, Option.map_none, Nat.reduceBEq, isShift, kEq, fEq, binInt, binFloat, shiftInt, binStr])
  generalize hpx : (pullW (0, 0) ws).1 = px at *
  generalize hpy : (pullW (0, 0) ws).2 = py at *
  refine loop_W (σ := Nat) (fun i => [(6, cx px py), (7, .int .i64 (encX (outerB px py i))), (8, .int .i64 (encY (outerB px py i))), (9, fl (encB (outerB px py i))), (10, .int .i64 i)]) (fun i w' => i ≤ 8 ∧ Bl w w') (fun i => 8 - i) 0 (agr_cons rfl (agr_cons rfl (agr_cons rfl (agr_cons rfl (agr_cons rfl (agr_nil)))))) ⟨by omega, hb1⟩ ?_
  rintro i w2 e2 ⟨hi, hb2⟩
  (try simp only [RS, RF, cond_true, cond_false, List.nil_append, List.cons_append, List.toList_toArray, Option.isSome_some, Option.map_some, Option.map_none, Nat.reduceBEq, isShift, kEq, fEq, binInt, binFloat, shiftInt, binStr])
  intro b1 h1
  cases b1
  · have hi8 : i = 8 := by have := h1.symm; simp at this; omega
    subst hi8
    (try simp only [RS, RF, cond_true, cond_false, List.nil_append, List.cons_append, List.toList_toArray, Option.isSome_some, Option.map_some, Option.map_none, Nat.reduceBEq, isShift, kEq, fEq, binInt, binFloat, shiftInt, binStr])
    intro b2 h2
    cases hst : outerB px py 8 with
    | none =>
      rw [hst] at h2
      have : b2 = true := by rw [h2]; rfl
      subst this
      (try simp only [RS, RF, cond_true, cond_false, List.nil_append, List.cons_append, List.toList_toArray, Option.isSome_some, Option.map_some, Option.map_none, Nat.reduceBEq, isShift, kEq, fEq, binInt, binFloat, shiftInt, binStr])
      exact ⟨rfl, hb2⟩
    | some t =>
      obtain ⟨a, b, s⟩ := t
      rw [hst] at h2
      have : b2 = false := by rw [h2]; exact decide_eq_false (by show ¬ ((a : Nat) : Int) < 0; omega)
      subst this
      (try simp only [RS, RF, cond_true, cond_false, List.nil_append, List.cons_append, List.toList_toArray, Option.isSome_some, Option.map_some, Option.map_none, Nat.reduceBEq, isShift, kEq, fEq, binInt, binFloat, shiftInt, binStr])
      exact ⟨rfl, hb2⟩
  · have hi8 : i < 8 := by have := h1.symm; simp at this; omega
    (try simp only [RS, RF, cond_true, cond_false, List.nil_append, List.cons_append, List.toList_toArray, Option.isSome_some, Option.map_some, Option.map_none, Nat.reduceBEq, isShift, kEq, fEq, binInt, binFloat, shiftInt, binStr])
    rw [IntWalk.i64_in ((i : Int) + 1) (by omega), show (i : Int) + 1 = ((i + 1 + 0 : Nat) : Int) by omega]
    refine loop_W (σ := Nat) (fun n => [(6, cx px py), (7, .int .i64 (encX (innerB px py i (outerB px py i) n))), (8, .int .i64 (encY (innerB px py i (outerB px py i) n))), (9, fl (encB (innerB px py i (outerB px py i) n))), (10, .int .i64 i), (11, .int .i64 ((i + 1 + n : Nat) : Int))]) (fun n w' => i + 1 + n ≤ 8 ∧ Bl w w') (fun n => 8 - (i + 1 + n)) 0 (agr_cons rfl (agr_cons rfl (agr_cons rfl (agr_cons rfl (agr_cons rfl (agr_cons rfl (agr_nil))))))) ⟨by omega, hb2⟩ ?_
    rintro n w3 e3 ⟨hn, hb3⟩
    (try simp only [RS, RF, cond_true, cond_false, List.nil_append, List.cons_append, List.toList_toArray, Option.isSome_some, Option.map_some, Option.map_none, Nat.reduceBEq, isShift, kEq, fEq, binInt, binFloat, shiftInt, binStr])
    intro b2 h2
    cases b2
    · have hn8 : n = 7 - i := by have := h2.symm; simp at this; omega
      subst hn8
      (try simp only [RS, RF, cond_true, cond_false, List.nil_append, List.cons_append, List.toList_toArray, Option.isSome_some, Option.map_some, Option.map_none, Nat.reduceBEq, isShift, kEq, fEq, binInt, binFloat, shiftInt, binStr])
      rw [IntWalk.i64_in ((i : Int) + 1) (by omega), show (i : Int) + 1 = ((i + 1 : Nat) : Int) by omega]
      exact ⟨i + 1, (agr_cons rfl (agr_cons rfl (agr_cons rfl (agr_cons rfl (agr_cons rfl (agr_nil)))))), ⟨by omega, hb3⟩, by omega⟩
    · have hn8 : i + 1 + n < 8 := by have := h2.symm; simp at this; omega
      (try simp only [RS, RF, cond_true, cond_false, List.nil_append, List.cons_append, List.toList_toArray, Option.isSome_some, Option.map_some, Option.map_none, Nat.reduceBEq, isShift, kEq, fEq, binInt, binFloat, shiftInt, binStr])
      (refine (l07Place_ct w3 i hi8).mono ?_; rintro _ w4 ⟨rfl, hw4⟩)
      (try simp only [RS, RF, cond_true, cond_false, List.nil_append, List.cons_append, List.toList_toArray, Option.isSome_some, Option.map_some, Option.map_none, Nat.reduceBEq, isShift, kEq, fEq, binInt, binFloat, shiftInt, binStr])
      (refine (l07Place_ct w4 (i + 1 + n) hn8).mono ?_; rintro _ w5 ⟨rfl, hw5⟩)
      (try simp only [RS, RF, cond_true, cond_false, List.nil_append, List.cons_append, List.toList_toArray, Option.isSome_some, Option.map_some, Option.map_none, Nat.reduceBEq, isShift, kEq, fEq, binInt, binFloat, shiftInt, binStr])
      have hb5 := (hb3.trans hw4).trans hw5
      (refine (l07Masses_ct w5 px py i (i + 1 + n) hi8 hn8 (hm i (i + 1 + n) hi8 hn8)).mono ?_; rintro _ w6 ⟨e6, hw6⟩)
      have hb6 := hb5.trans hw6
      have fin : ∀ (w7 : World) (e7 : Env), Bl w w7 → (∀ st, st = innerB px py i (outerB px py i) (n + 1) → agrees e7 [(6, cx px py), (7, .int .i64 (encX st)), (8, .int .i64 (encY st)), (9, fl (encB st)), (10, .int .i64 i), (11, .int .i64 ((i + 1 + n + 1 : Nat) : Int))]) →
          ∃ s2 : Nat, agrees e7 [(6, cx px py), (7, .int .i64 (encX (innerB px py i (outerB px py i) s2))), (8, .int .i64 (encY (innerB px py i (outerB px py i) s2))), (9, fl (encB (innerB px py i (outerB px py i) s2))), (10, .int .i64 i), (11, .int .i64 ((i + 1 + s2 : Nat) : Int))] ∧ (i + 1 + s2 ≤ 8 ∧ Bl w w7) ∧ 8 - (i + 1 + s2) < 8 - (i + 1 + n) := fun w7 e7 hb7 ha => ⟨n + 1, ha _ rfl, ⟨by omega, hb7⟩, by omega⟩
      have hstep : innerB px py i (outerB px py i) (n + 1) = nextB px py (innerB px py i (outerB px py i) n) i (i + 1 + n) := rfl
      generalize innerB px py i (outerB px py i) n = st at *
      rcases masV_cases px py i (i + 1 + n) (hm i (i + 1 + n) hi8 hn8) with ⟨c, hV, hc, hr⟩ | ⟨x, y, hV, hr, hx, hy, hsum, hsb⟩
      · rw [hV] at e6
        subst e6
        have hc0 : (c == 0) = false := by rcases hc with rfl | rfl <;> rfl
        (try simp only [RS, RF, cond_true, cond_false, List.nil_append, List.cons_append, List.toList_toArray, Option.isSome_some, Option.map_some, Option.map_none, Nat.reduceBEq, isShift, kEq, fEq, binInt, binFloat, shiftInt, binStr, forall_eq, hc0])
        rw [IntWalk.i64_in (((i + 1 + n : Nat) : Int) + 1) (by omega), show ((i + 1 + n : Nat) : Int) + 1 = ((i + 1 + n + 1 : Nat) : Int) by omega]
        refine fin _ _ hb6 ?_
        intro st' hst'
        rw [hstep] at hst'
        unfold nextB at hst'
        rw [hr] at hst'
        subst hst'
        exact (agr_cons rfl (agr_cons rfl (agr_cons rfl (agr_cons rfl (agr_cons rfl (agr_cons rfl (agr_nil)))))))
      · rw [hV] at e6
        subst e6
        cases st with
        | none =>
          have e1 : decide (encX (none : St) < 0) = true := rfl
          (try simp only [RS, RF, cond_true, cond_false, List.nil_append, List.cons_append, List.toList_toArray, Option.isSome_some, Option.map_some, Option.map_none, Nat.reduceBEq, isShift, kEq, fEq, binInt, binFloat, shiftInt, binStr, forall_eq, beq_self_eq_true, e1])
          intro r m hr2
          rw [Okf.word hsum hr2]
          (try simp only [RS, RF, cond_true, cond_false, List.nil_append, List.cons_append, List.toList_toArray, Option.isSome_some, Option.map_some, Option.map_none, Nat.reduceBEq, isShift, kEq, fEq, binInt, binFloat, shiftInt, binStr])
          rw [IntWalk.i64_in (((i + 1 + n : Nat) : Int) + 1) (by omega), show ((i + 1 + n : Nat) : Int) + 1 = ((i + 1 + n + 1 : Nat) : Int) by omega]
          refine fin _ _ (hb6.trans (Bl.drewN _ _)) ?_
          intro st' hst'
          rw [hstep] at hst'
          unfold nextB at hst'
          rw [hr] at hst'
          subst hst'
          exact (agr_cons rfl (agr_cons rfl (agr_cons rfl (agr_cons rfl (agr_cons rfl (agr_cons rfl (agr_nil)))))))
        | some t =>
          obtain ⟨a, b, s⟩ := t
          have e1 : decide (encX (some (a, b, s)) < 0) = false := decide_eq_false (by show ¬ ((a : Nat) : Int) < 0; omega)
          (try simp only [RS, RF, cond_true, cond_false, List.nil_append, List.cons_append, List.toList_toArray, Option.isSome_some, Option.map_some, Option.map_none, Nat.reduceBEq, isShift, kEq, fEq, binInt, binFloat, shiftInt, binStr, forall_eq, beq_self_eq_true, e1])
          intro r m hr2
          rw [Okf.word hsum hr2]
          cases hlt : flt .f32 (fadd x y) s
          · have hlt' : flt .f32 (fop .add x y) (encB (some (a, b, s))) = false := hlt
            (try simp only [RS, RF, cond_true, cond_false, List.nil_append, List.cons_append, List.toList_toArray, Option.isSome_some, Option.map_some, Option.map_none, Nat.reduceBEq, isShift, kEq, fEq, binInt, binFloat, shiftInt, binStr, forall_eq, e1, hlt'])
            rw [IntWalk.i64_in (((i + 1 + n : Nat) : Int) + 1) (by omega), show ((i + 1 + n : Nat) : Int) + 1 = ((i + 1 + n + 1 : Nat) : Int) by omega]
            refine fin _ _ (hb6.trans (Bl.drewN _ _)) ?_
            intro st' hst'
            rw [hstep] at hst'
            unfold nextB at hst'
            rw [hr] at hst'
            simp only [hlt, cond_false] at hst'
            subst hst'
            exact (agr_cons rfl (agr_cons rfl (agr_cons rfl (agr_cons rfl (agr_cons rfl (agr_cons rfl (agr_nil)))))))
          · have hlt' : flt .f32 (fop .add x y) (encB (some (a, b, s))) = true := hlt
            (try simp only [RS, RF, cond_true, cond_false, List.nil_append, List.cons_append, List.toList_toArray, Option.isSome_some, Option.map_some, Option.map_none, Nat.reduceBEq, isShift, kEq, fEq, binInt, binFloat, shiftInt, binStr, forall_eq, e1, hlt'])
            intro r' m' hr3
            rw [Okf.word hsum hr3]
            (try simp only [RS, RF, cond_true, cond_false, List.nil_append, List.cons_append, List.toList_toArray, Option.isSome_some, Option.map_some, Option.map_none, Nat.reduceBEq, isShift, kEq, fEq, binInt, binFloat, shiftInt, binStr])
            rw [IntWalk.i64_in (((i + 1 + n : Nat) : Int) + 1) (by omega), show ((i + 1 + n : Nat) : Int) + 1 = ((i + 1 + n + 1 : Nat) : Int) by omega]
            refine fin _ _ ((hb6.trans (Bl.drewN _ _)).trans (Bl.drewN _ _)) ?_
            intro st' hst'
            rw [hstep] at hst'
            unfold nextB at hst'
            rw [hr] at hst'
            simp only [hlt, cond_true] at hst'
            subst hst'
            exact (agr_cons rfl (agr_cons rfl (agr_cons rfl (agr_cons rfl (agr_cons rfl (agr_cons rfl (agr_nil)))))))

/-! ### What is left over -/
set_option maxRecDepth 100000 in
theorem LeftOver_ct (w : World) (v u : Value) (ws ms : List WV) (h : WtV w v ws) (hu : WtV w u ms) (hok : ∀ d ∈ ws, Wok d) (hom : ∀ d ∈ ms, Wok d) (hl : ws.length + ms.length ≤ 20) (hp : Pulls (0, 0) ws) (hq : Pulls (pullW (0, 0) ws) ms)
    (hd : Dot (pullW (pullW (0, 0) ws) ms).1 (pullW (pullW (0, 0) ws) ms).2 (pullW (pullW (0, 0) ws) ms).1 (pullW (pullW (0, 0) ws) ms).2) :
    Ct Try.prog 63 #[v, u] w (Is (.tuple #[fl (dotW (pullW (pullW (0, 0) ws) ms).1 (pullW (pullW (0, 0) ws) ms).2 (pullW (pullW (0, 0) ws) ms).1 (pullW (pullW (0, 0) ws) ms).2), .int .i64 0]) w) := by
  have h' := h
  have hu' := hu
  obtain ⟨a, cap, rfl, hl1, hc1⟩ := h
  obtain ⟨a2, cap2, rfl, hl2, hc⟩ := hu
  (refine fn_of_W Try.func63 rfl (by kernel_rfl) (by kernel_rfl) (Nat.le_of_ble_eq_true (by kernel_rfl)) ?_; (try simp only [RS, RF, cond_true, cond_false, List.nil_append, List.cons_append, List.toList_toArray, Option.isSome_some, Option.map_some, Option.map_none, Nat.reduceBEq, isShift, kEq, fEq, binInt, binFloat, shiftInt, binStr, Try.f63]))
  (refine (ValidWeights_ct w _ ws h' hok).mono ?_; rintro _ w1 ⟨rfl, hw1⟩)
  (try simp only [RS, RF, cond_true, cond_false, List.nil_append, List.cons_append, List.toList_toArray, Option.isSome_some, Option.map_some, Option.map_none, Nat.reduceBEq, isShift, kEq, fEq, binInt, binFloat, shiftInt, binStr])
  (refine (ValidWeights_ct w1 _ ms (hu'.bl hw1) hom).mono ?_; rintro _ w2 ⟨rfl, hw2⟩)
  (try simp only [RS, RF, cond_true, cond_false, List.nil_append, List.cons_append, List.toList_toArray, Option.isSome_some, Option.map_some, Option.map_none, Nat.reduceBEq, isShift, kEq, fEq, binInt, binFloat, shiftInt, binStr])
  intro b hb
  have : b = false := by rw [hb, IntWalk.i64_in _ (by omega)]; exact decide_eq_false (by omega)
  subst this
  (try simp only [RS, RF, cond_true, cond_false, List.nil_append, List.cons_append, List.toList_toArray, Option.isSome_some, Option.map_some, Option.map_none, Nat.reduceBEq, isShift, kEq, fEq, binInt, binFloat, shiftInt, binStr])
  have hb2 := hw1.trans hw2
  (refine (pullOf_ct w2 _ ws (h'.bl hb2) hp).mono ?_; rintro _ w3 ⟨rfl, hw3⟩)
  (try simp only [RS, RF, cond_true, cond_false, List.nil_append, List.cons_append, List.toList_toArray, Option.isSome_some, Option.map_some, Option.map_none, Nat.reduceBEq, isShift, kEq, fEq, binInt, binFloat, shiftInt, binStr])
  have hb3 := hb2.trans hw3
  generalize pullW (0, 0) ws = p at *
  refine loop_W (σ := Nat) (fun k => [(6, cx (pullW p (ms.take k)).1 (pullW p (ms.take k)).2), (27, .slice a2 ms.length cap2), (28, .int .i64 ms.length), (29, .int .i64 k)]) (fun k w' => k ≤ ms.length ∧ Bl w w') (fun k => ms.length - k) 0 (agr_cons rfl (agr_cons rfl (agr_cons rfl (agr_cons rfl (agr_nil))))) ⟨by omega, hb3⟩ ?_
  rintro k w4 e4 ⟨hk, hb4⟩
  (try simp only [RS, RF, cond_true, cond_false, List.nil_append, List.cons_append, List.toList_toArray, Option.isSome_some, Option.map_some, Option.map_none, Nat.reduceBEq, isShift, kEq, fEq, binInt, binFloat, shiftInt, binStr])
  intro b1 h1
  cases b1
  · (try simp only [RS, RF, cond_true, cond_false, List.nil_append, List.cons_append, List.toList_toArray, Option.isSome_some, Option.map_some, Option.map_none, Nat.reduceBEq, isShift, kEq, fEq, binInt, binFloat, shiftInt, binStr])
    have hkn : k = ms.length := by have := h1.symm; simp at this; omega
    rw [List.take_of_length_le (by omega)]
    (refine (Square_ct w4 _ _ hd).mono ?_; rintro _ w5 ⟨rfl, hw5⟩)
    (try simp only [RS, RF, cond_true, cond_false, List.nil_append, List.cons_append, List.toList_toArray, Option.isSome_some, Option.map_some, Option.map_none, Nat.reduceBEq, isShift, kEq, fEq, binInt, binFloat, shiftInt, binStr])
    exact ⟨rfl, hb4.trans hw5⟩
  · have hlt : k < ms.length := by have := h1.symm; simp at this; omega
    obtain ⟨b, o, rfl, hW⟩ := hc (by omega)
    have hget : ms[k]? = some ms[k] := List.getElem?_eq_getElem hlt
    obtain ⟨c1, c2⟩ := (hW.bl hb4).cells k _ hget
    obtain ⟨s1, s2, s3, s4⟩ := Pulls_step hget hq
    have hst := pullW_step (p := p) hget
    generalize ms[k] = d at *
    (try simp only [RS, RF, cond_true, cond_false, List.nil_append, List.cons_append, List.toList_toArray, Option.isSome_some, Option.map_some, Option.map_none, Nat.reduceBEq, isShift, kEq, fEq, binInt, binFloat, shiftInt, binStr, Int.toNat_natCast])
    refine ⟨by omega, _, ldn (cs := wcells d) (by kernel_rfl) (fun j u hu => ?_), ?_⟩
    · rw [add_off]
      match j, hu with
      | 0, hu => rw [← hu]; exact c1
      | 1, hu => rw [← hu]; exact c2
    (try simp only [RS, RF, cond_true, cond_false, List.nil_append, List.cons_append, List.toList_toArray, Option.isSome_some, Option.map_some, Option.map_none, Nat.reduceBEq, isShift, kEq, fEq, binInt, binFloat, shiftInt, binStr])
    obtain ⟨w5, hr5, hb5, hx5, hsz5⟩ := stn (P := Try.prog) 77 (b := w4.heap.size) 0 (l := [cx 0 0, fl 0]) (vs := wcells d) (by kernel_rfl) (by simp [wcells]) (by simp [wcells, Value.oneCell']) (alloc_new w4 _) (by simp [wcells])
    refine ⟨_, hr5, ?_⟩
    (try simp only [RS, RF, cond_true, cond_false, List.nil_append, List.cons_append, List.toList_toArray, Option.isSome_some, Option.map_some, Option.map_none, Nat.reduceBEq, isShift, kEq, fEq, binInt, binFloat, shiftInt, binStr])
    have hb5 : w5.heap[w4.heap.size]? = some (.cells [cx d.1 d.2.1, fl d.2.2].toArray 77 (0, 0)) := hb5
    have hb45 : Bl w4 w5 := Bl.of_bx (Bl.alloc w4 _) hx5 (Nat.le_refl _)
    refine ⟨_, ldb (by kernel_rfl) hb5 rfl, ?_⟩
    (try simp only [RS, RF, cond_true, cond_false, List.nil_append, List.cons_append, List.toList_toArray, Option.isSome_some, Option.map_some, Option.map_none, Nat.reduceBEq, isShift, kEq, fEq, binInt, binFloat, shiftInt, binStr])
    refine ⟨_, ldb (by kernel_rfl) hb5 rfl, ?_⟩
    (try simp only [RS, RF, cond_true, cond_false, List.nil_append, List.cons_append, List.toList_toArray, Option.isSome_some, Option.map_some, Option.map_none, Nat.reduceBEq, isShift, kEq, fEq, binInt, binFloat, shiftInt, binStr])
    (refine (Part_ct w5 d.1 d.2.1 d.2.2 s1 s2).mono ?_; rintro _ w6 ⟨rfl, hw6⟩)
    (try simp only [RS, RF, cond_true, cond_false, List.nil_append, List.cons_append, List.toList_toArray, Option.isSome_some, Option.map_some, Option.map_none, Nat.reduceBEq, isShift, kEq, fEq, binInt, binFloat, shiftInt, binStr])
    (refine (Plus_ct w6 _ _ _ _ s3 s4).mono ?_; rintro _ w7 ⟨rfl, hw7⟩)
    (try simp only [RS, RF, cond_true, cond_false, List.nil_append, List.cons_append, List.toList_toArray, Option.isSome_some, Option.map_some, Option.map_none, Nat.reduceBEq, isShift, kEq, fEq, binInt, binFloat, shiftInt, binStr])
    rw [IntWalk.i64_in ((k : Int) + 1) (by omega)]
    refine ⟨k + 1, ?_, ⟨by omega, ((hb4.trans hb45).trans hw6).trans hw7⟩, by omega⟩
    rw [hst]
    exact (agr_cons rfl (agr_cons rfl (agr_cons rfl (agr_cons rfl (agr_nil)))))
end Go.Proofs.Ytjgpnbchnenbeaa
