/- Weights: valid ones, their pull. -/
import Derived.Test.YtjgpnbchnenbeaaB1
namespace Go.Proofs.Ytjgpnbchnenbeaa
set_option linter.unusedSimpArgs false
set_option linter.unusedVariables false
open Go
open Go.RowKit (Below)

set_option maxRecDepth 100000 in
theorem ValidWeights_ct (w : World) (v : Value) (ws : List WV) (h : WtV w v ws) (hok : ∀ d ∈ ws, Wok d) : Ct Try.prog 54 #[v] w (Is (.bool true) w) := by
  obtain ⟨a, cap, rfl, hl, hc⟩ := h
  (refine fn_of_W Try.func54 rfl (by kernel_rfl) (by kernel_rfl) (Nat.le_of_ble_eq_true (by kernel_rfl)) ?_; (try simp only [RS, RF, cond_true, cond_false, List.nil_append, List.cons_append, List.toList_toArray, Option.isSome_some, Option.map_some, Option.map_none, Nat.reduceBEq, isShift, kEq, fEq, binInt, binFloat, shiftInt, binStr, Try.f54]))
  refine loop_W (σ := Nat) (fun k => [(0, .slice a ws.length cap), (5, .slice a ws.length cap), (6, .int .i64 ws.length), (7, .int .i64 k)]) (fun k w' => k ≤ ws.length ∧ Bl w w') (fun k => ws.length - k) 0 (agr_cons rfl (agr_cons rfl (agr_cons rfl (agr_cons rfl (agr_nil))))) ⟨by omega, Bl.refl w⟩ ?_
  rintro k w1 e1 ⟨hk, hb1⟩
  (try simp only [RS, RF, cond_true, cond_false, List.nil_append, List.cons_append, List.toList_toArray, Option.isSome_some, Option.map_some, Option.map_none, Nat.reduceBEq, isShift, kEq, fEq, binInt, binFloat, shiftInt, binStr])
  intro b1 h1
  cases b1
  · (try simp only [RS, RF, cond_true, cond_false, List.nil_append, List.cons_append, List.toList_toArray, Option.isSome_some, Option.map_some, Option.map_none, Nat.reduceBEq, isShift, kEq, fEq, binInt, binFloat, shiftInt, binStr])
    intro b2 h2
    exact ⟨by rw [h2, decide_eq_true (by omega)], hb1⟩
  · have hlt : k < ws.length := by have := h1.symm; simp at this; omega
    obtain ⟨b, o, rfl, hW⟩ := hc (by omega)
    have hget : ws[k]? = some ws[k] := List.getElem?_eq_getElem hlt
    obtain ⟨c1, c2⟩ := (hW.bl hb1).cells k _ hget
    obtain ⟨q1, q2, q3, q4⟩ := hok _ (List.getElem_mem hlt)
    generalize ws[k] = d at *
    (try simp only [RS, RF, cond_true, cond_false, List.nil_append, List.cons_append, List.toList_toArray, Option.isSome_some, Option.map_some, Option.map_none, Nat.reduceBEq, isShift, kEq, fEq, binInt, binFloat, shiftInt, binStr, Int.toNat_natCast])
    refine ⟨by omega, _, ldn (cs := wcells d) (by kernel_rfl) (fun j u hu => ?_), ?_⟩
    · rw [add_off]
      match j, hu with
      | 0, hu => rw [← hu]; exact c1
      | 1, hu => rw [← hu]; exact c2
    (try simp only [RS, RF, cond_true, cond_false, List.nil_append, List.cons_append, List.toList_toArray, Option.isSome_some, Option.map_some, Option.map_none, Nat.reduceBEq, isShift, kEq, fEq, binInt, binFloat, shiftInt, binStr])
    obtain ⟨w2, hr2, hb2, hx2, hsz2⟩ := stn (P := Try.prog) 77 (b := w1.heap.size) 0 (l := [cx 0 0, fl 0]) (vs := wcells d) (by kernel_rfl) (by simp [wcells]) (by simp [wcells, Value.oneCell']) (alloc_new w1 _) (by simp [wcells])
    refine ⟨_, hr2, ?_⟩
    (try simp only [RS, RF, cond_true, cond_false, List.nil_append, List.cons_append, List.toList_toArray, Option.isSome_some, Option.map_some, Option.map_none, Nat.reduceBEq, isShift, kEq, fEq, binInt, binFloat, shiftInt, binStr])
    have hb2 : w2.heap[w1.heap.size]? = some (.cells [cx d.1 d.2.1, fl d.2.2].toArray 77 (0, 0)) := hb2
    have hb12 : Bl w1 w2 := Bl.of_bx (Bl.alloc w1 _) hx2 (Nat.le_refl _)
    refine ⟨_, ldb (by kernel_rfl) hb2 rfl, ?_⟩
    (try simp only [RS, RF, cond_true, cond_false, List.nil_append, List.cons_append, List.toList_toArray, Option.isSome_some, Option.map_some, Option.map_none, Nat.reduceBEq, isShift, kEq, fEq, binInt, binFloat, shiftInt, binStr])
    (refine (IsPoint_ct w2 d.1 d.2.1 q1 q2).mono ?_; rintro _ w3 ⟨rfl, hw3⟩)
    (try simp only [RS, RF, cond_true, cond_false, List.nil_append, List.cons_append, List.toList_toArray, Option.isSome_some, Option.map_some, Option.map_none, Nat.reduceBEq, isShift, kEq, fEq, binInt, binFloat, shiftInt, binStr])
    refine ⟨_, ldb (by kernel_rfl) (hw3.block hb2) rfl, ?_⟩
    (try simp only [RS, RF, cond_true, cond_false, List.nil_append, List.cons_append, List.toList_toArray, Option.isSome_some, Option.map_some, Option.map_none, Nat.reduceBEq, isShift, kEq, fEq, binInt, binFloat, shiftInt, binStr])
    (refine (isAmount_ct w3 d.2.2).mono ?_; rintro _ w4 ⟨rfl, hw4⟩)
    rw [q3]
    (try simp only [RS, RF, cond_true, cond_false, List.nil_append, List.cons_append, List.toList_toArray, Option.isSome_some, Option.map_some, Option.map_none, Nat.reduceBEq, isShift, kEq, fEq, binInt, binFloat, shiftInt, binStr])
    rw [IntWalk.i64_in ((k : Int) + 1) (by omega)]
    exact ⟨k + 1, (agr_cons rfl (agr_cons rfl (agr_cons rfl (agr_cons rfl (agr_nil))))), ⟨by omega, ((hb1.trans hb12).trans hw3).trans hw4⟩, by omega⟩
set_option maxRecDepth 100000 in
theorem l07Ok_ct (w : World) (v : Value) (ws : List WV) (h : WtV w v ws) (hok : ∀ d ∈ ws, Wok d) : Ct Try.prog 136 #[v] w (Is (.bool true) w) := by
  obtain ⟨a, cap, rfl, hl, hc⟩ := h
  (refine fn_of_W Try.func136 rfl (by kernel_rfl) (by kernel_rfl) (Nat.le_of_ble_eq_true (by kernel_rfl)) ?_; (try simp only [RS, RF, cond_true, cond_false, List.nil_append, List.cons_append, List.toList_toArray, Option.isSome_some, Option.map_some, Option.map_none, Nat.reduceBEq, isShift, kEq, fEq, binInt, binFloat, shiftInt, binStr, Try.f136]))
  refine loop_W (σ := Nat) (fun k => [(0, .slice a ws.length cap), (3, .int .i64 k)]) (fun k w' => k ≤ ws.length ∧ Bl w w') (fun k => ws.length - k) 0 (agr_cons rfl (agr_cons rfl (agr_nil))) ⟨by omega, Bl.refl w⟩ ?_
  rintro k w1 e1 ⟨hk, hb1⟩
  (try simp only [RS, RF, cond_true, cond_false, List.nil_append, List.cons_append, List.toList_toArray, Option.isSome_some, Option.map_some, Option.map_none, Nat.reduceBEq, isShift, kEq, fEq, binInt, binFloat, shiftInt, binStr])
  intro b1 h1
  cases b1
  · (try simp only [RS, RF, cond_true, cond_false, List.nil_append, List.cons_append, List.toList_toArray, Option.isSome_some, Option.map_some, Option.map_none, Nat.reduceBEq, isShift, kEq, fEq, binInt, binFloat, shiftInt, binStr])
    intro b2 h2
    exact ⟨by rw [h2, decide_eq_true (by omega)], hb1⟩
  · have hlt : k < ws.length := by have := h1.symm; simp at this; omega
    obtain ⟨b, o, rfl, hW⟩ := hc (by omega)
    have hget : ws[k]? = some ws[k] := List.getElem?_eq_getElem hlt
    obtain ⟨c1, c2⟩ := (hW.bl hb1).cells k _ hget
    obtain ⟨q1, q2, q3, q4⟩ := hok _ (List.getElem_mem hlt)
    obtain ⟨q5, q6⟩ := amount_plain q3 q4
    generalize ws[k] = d at *
    (try simp only [RS, RF, cond_true, cond_false, List.nil_append, List.cons_append, List.toList_toArray, Option.isSome_some, Option.map_some, Option.map_none, Nat.reduceBEq, isShift, kEq, fEq, binInt, binFloat, shiftInt, binStr, Int.toNat_natCast])
    refine ⟨by omega, _, ld1 (by kernel_rfl) c1, ?_⟩
    (try simp only [RS, RF, cond_true, cond_false, List.nil_append, List.cons_append, List.toList_toArray, Option.isSome_some, Option.map_some, Option.map_none, Nat.reduceBEq, isShift, kEq, fEq, binInt, binFloat, shiftInt, binStr])
    (refine (lPoint_ct w1 d.1 d.2.1 q1 q2).mono ?_; rintro _ w2 ⟨rfl, hw2⟩)
    (try simp only [RS, RF, cond_true, cond_false, List.nil_append, List.cons_append, List.toList_toArray, Option.isSome_some, Option.map_some, Option.map_none, Nat.reduceBEq, isShift, kEq, fEq, binInt, binFloat, shiftInt, binStr, Int.toNat_natCast])
    refine ⟨by omega, _, ld1 (by kernel_rfl) (hw2.cell c2), ?_⟩
    (try simp only [RS, RF, cond_true, cond_false, List.nil_append, List.cons_append, List.toList_toArray, Option.isSome_some, Option.map_some, Option.map_none, Nat.reduceBEq, isShift, kEq, fEq, binInt, binFloat, shiftInt, binStr])
    (refine (plain_ct w2 d.2.2).mono ?_; rintro _ w3 ⟨rfl, hw3⟩)
    rw [q5]
    (try simp only [RS, RF, cond_true, cond_false, List.nil_append, List.cons_append, List.toList_toArray, Option.isSome_some, Option.map_some, Option.map_none, Nat.reduceBEq, isShift, kEq, fEq, binInt, binFloat, shiftInt, binStr, Int.toNat_natCast])
    refine ⟨by omega, _, ld1 (by kernel_rfl) ((hw2.trans hw3).cell c2), ?_⟩
    (try simp only [RS, RF, cond_true, cond_false, List.nil_append, List.cons_append, List.toList_toArray, Option.isSome_some, Option.map_some, Option.map_none, Nat.reduceBEq, isShift, kEq, fEq, binInt, binFloat, shiftInt, binStr, forall_eq, q6])
    rw [IntWalk.i64_in ((k : Int) + 1) (by omega)]
    exact ⟨k + 1, (agr_cons rfl (agr_cons rfl (agr_nil))), ⟨by omega, (hb1.trans hw2).trans hw3⟩, by omega⟩

/-! ### The pull -/
def pullW (p : Nat × Nat) : List WV → Nat × Nat
  | [] => p
  | d :: l => pullW (fadd p.1 (fmul d.1 d.2.2), fadd p.2 (fmul d.2.1 d.2.2)) l
/-- each step comes to numbers -/
def Pulls (p : Nat × Nat) : List WV → Prop
  | [] => True
  | d :: l => Okf .mul d.1 d.2.2 ∧ Okf .mul d.2.1 d.2.2 ∧ Okf .add p.1 (fmul d.1 d.2.2) ∧ Okf .add p.2 (fmul d.2.1 d.2.2) ∧ Pulls (fadd p.1 (fmul d.1 d.2.2), fadd p.2 (fmul d.2.1 d.2.2)) l
theorem pullW_step {p : Nat × Nat} {ws : List WV} {k : Nat} {d : WV} (hd : ws[k]? = some d) :
    pullW p (ws.take (k + 1)) = (fadd (pullW p (ws.take k)).1 (fmul d.1 d.2.2), fadd (pullW p (ws.take k)).2 (fmul d.2.1 d.2.2)) := by
  induction ws generalizing p k with
  | nil => simp at hd
  | cons x l ih =>
    cases k with
    | zero =>
      simp only [List.getElem?_cons_zero, Option.some.injEq] at hd
      subst hd
      rfl
    | succ k =>
      simp only [List.getElem?_cons_succ] at hd
      exact ih hd
theorem Pulls_step {p : Nat × Nat} {ws : List WV} {k : Nat} {d : WV} (hd : ws[k]? = some d) (h : Pulls p ws) :
    Okf .mul d.1 d.2.2 ∧ Okf .mul d.2.1 d.2.2 ∧ Okf .add (pullW p (ws.take k)).1 (fmul d.1 d.2.2) ∧ Okf .add (pullW p (ws.take k)).2 (fmul d.2.1 d.2.2) := by
  induction ws generalizing p k with
  | nil => simp at hd
  | cons x l ih =>
    cases k with
    | zero =>
      simp only [List.getElem?_cons_zero, Option.some.injEq] at hd
      subst hd
      exact ⟨h.1, h.2.1, h.2.2.1, h.2.2.2.1⟩
    | succ k =>
      simp only [List.getElem?_cons_succ] at hd
      exact ih hd h.2.2.2.2
theorem pullW_app (p : Nat × Nat) (l r : List WV) : pullW p (l ++ r) = pullW (pullW p l) r := by
  induction l generalizing p with
  | nil => rfl
  | cons d l ih => exact ih _
theorem Pulls_app {p : Nat × Nat} {l r : List WV} (h : Pulls p l) (k : Pulls (pullW p l) r) : Pulls p (l ++ r) := by
  induction l generalizing p with
  | nil => exact k
  | cons d l ih => exact ⟨h.1, h.2.1, h.2.2.1, h.2.2.2.1, ih h.2.2.2.2 k⟩
theorem lin_pull {k : Rat} (h0 : 0 ≤ k) (h1 : k ≤ 20) : 392 * k + 391 + ((392 * k + 391) / 16777216 + tin) ≤ 392 * k + 392 ∧ 392 * k + 391 ≤ 9000 := by
  unfold tin; constructor <;> grind
theorem pull_bd (ws : List WV) (hok : ∀ d ∈ ws, WOK d) : ∀ (p : Nat × Nat) (k : Nat), Bd p.1 (392 * (k : Rat)) → Bd p.2 (392 * (k : Rat)) → k + ws.length ≤ 20 →
    Pulls p ws ∧ Bd (pullW p ws).1 (392 * ((k + ws.length : Nat) : Rat)) ∧ Bd (pullW p ws).2 (392 * ((k + ws.length : Nat) : Rat)) := by
  induction ws with
  | nil => exact fun p k h1 h2 _ => ⟨trivial, h1, h2⟩
  | cons d l ih =>
    intro p k h1 h2 hk
    simp only [List.length_cons] at hk
    obtain ⟨q1, q2, q3⟩ := hok d (by simp)
    have hk20 : (k : Rat) ≤ 20 := by have := cast_le (show k ≤ 20 by omega); exact this
    have hk0 := cast_nonneg k
    have h99 : (9000 : Rat) ≤ p2 99 := by rw [p2_99]; decide
    have m1 := q1.bd.mul q3.bd.1 (C := 391) (by unfold tin; grind) (by grind)
    have m2 := q2.bd.mul q3.bd.1 (C := 391) (by unfold tin; grind) (by grind)
    have e : (392 : Rat) * ((k + 1 : Nat) : Rat) = 392 * k + 392 := by rw [cast_add]; have : ((1 : Nat) : Rat) = 1 := rfl; rw [this]; grind
    have a1 := h1.add m1.2.1 (C := 392 * ((k + 1 : Nat) : Rat)) (by rw [e]; exact (lin_pull hk0 hk20).1) (Rat.le_trans (lin_pull hk0 hk20).2 h99)
    have a2 := h2.add m2.2.1 (C := 392 * ((k + 1 : Nat) : Rat)) (by rw [e]; exact (lin_pull hk0 hk20).1) (Rat.le_trans (lin_pull hk0 hk20).2 h99)
    have := ih (fun d hd => hok d (List.mem_cons_of_mem _ hd)) (fadd p.1 (fmul d.1 d.2.2), fadd p.2 (fmul d.2.1 d.2.2)) (k + 1) a1.2.1 a2.2.1 (by omega)
    refine ⟨⟨m1.1, m2.1, a1.1, a2.1, this.1⟩, ?_, ?_⟩
    · rw [List.length_cons, show k + (l.length + 1) = k + 1 + l.length by omega]; exact this.2.1
    · rw [List.length_cons, show k + (l.length + 1) = k + 1 + l.length by omega]; exact this.2.2
theorem pull0_bd {ws : List WV} (hok : ∀ d ∈ ws, WOK d) (h5 : ws.length ≤ 5) : Pulls (0, 0) ws ∧ Bd (pullW (0, 0) ws).1 1960 ∧ Bd (pullW (0, 0) ws).2 1960 := by
  have z : Bd 0 (392 * ((0 : Nat) : Rat)) := by
    have e : (392 : Rat) * ((0 : Nat) : Rat) = 0 := by have : ((0 : Nat) : Rat) = 0 := rfl; rw [this]; grind
    rw [e]
    exact ⟨val_zero.1, by rw [val_zero.2]; grind, by rw [val_zero.2]; grind⟩
  obtain ⟨h1, h2, h3⟩ := pull_bd ws hok (0, 0) 0 z z (by omega)
  have hle : (392 : Rat) * ((0 + ws.length : Nat) : Rat) ≤ 1960 := by
    have := cast_le (show 0 + ws.length ≤ 5 by omega)
    have e : ((5 : Nat) : Rat) = 5 := rfl
    rw [e] at this
    grind
  exact ⟨h1, h2.mono hle, h3.mono hle⟩

set_option maxRecDepth 100000 in
theorem pullOf_ct (w : World) (v : Value) (ws : List WV) (h : WtV w v ws) (hp : Pulls (0, 0) ws) : Ct Try.prog 135 #[v] w (Is (cx (pullW (0, 0) ws).1 (pullW (0, 0) ws).2) w) := by
  obtain ⟨a, cap, rfl, hl, hc⟩ := h
  (refine fn_of_W Try.func135 rfl (by kernel_rfl) (by kernel_rfl) (Nat.le_of_ble_eq_true (by kernel_rfl)) ?_; (try simp only [RS, RF, cond_true, cond_false, List.nil_append, List.cons_append, List.toList_toArray, Option.isSome_some, Option.map_some, Option.map_none, Nat.reduceBEq, isShift, kEq, fEq, binInt, binFloat, shiftInt, binStr, Try.f135]))
  refine loop_W (σ := Nat) (fun k => [(3, cx (pullW (0, 0) (ws.take k)).1 (pullW (0, 0) (ws.take k)).2), (6, .slice a ws.length cap), (7, .int .i64 ws.length), (8, .int .i64 k)]) (fun k w' => k ≤ ws.length ∧ Bl w w') (fun k => ws.length - k) 0 (agr_cons rfl (agr_cons rfl (agr_cons rfl (agr_cons rfl (agr_nil))))) ⟨by omega, Bl.refl w⟩ ?_
  rintro k w1 e1 ⟨hk, hb1⟩
  (try simp only [RS, RF, cond_true, cond_false, List.nil_append, List.cons_append, List.toList_toArray, Option.isSome_some, Option.map_some, Option.map_none, Nat.reduceBEq, isShift, kEq, fEq, binInt, binFloat, shiftInt, binStr])
  intro b1 h1
  cases b1
  · (try simp only [RS, RF, cond_true, cond_false, List.nil_append, List.cons_append, List.toList_toArray, Option.isSome_some, Option.map_some, Option.map_none, Nat.reduceBEq, isShift, kEq, fEq, binInt, binFloat, shiftInt, binStr])
    have hkn : k = ws.length := by have := h1.symm; simp at this; omega
    rw [List.take_of_length_le (by omega)]
    exact ⟨rfl, hb1⟩
  · have hlt : k < ws.length := by have := h1.symm; simp at this; omega
    obtain ⟨b, o, rfl, hW⟩ := hc (by omega)
    have hget : ws[k]? = some ws[k] := List.getElem?_eq_getElem hlt
    obtain ⟨c1, c2⟩ := (hW.bl hb1).cells k _ hget
    obtain ⟨s1, s2, s3, s4⟩ := Pulls_step hget hp
    have hst := pullW_step (p := (0, 0)) hget
    generalize ws[k] = d at *
    (try simp only [RS, RF, cond_true, cond_false, List.nil_append, List.cons_append, List.toList_toArray, Option.isSome_some, Option.map_some, Option.map_none, Nat.reduceBEq, isShift, kEq, fEq, binInt, binFloat, shiftInt, binStr, Int.toNat_natCast])
    refine ⟨by omega, _, ldn (cs := wcells d) (by kernel_rfl) (fun j u hu => ?_), ?_⟩
    · rw [add_off]
      match j, hu with
      | 0, hu => rw [← hu]; exact c1
      | 1, hu => rw [← hu]; exact c2
    (try simp only [RS, RF, cond_true, cond_false, List.nil_append, List.cons_append, List.toList_toArray, Option.isSome_some, Option.map_some, Option.map_none, Nat.reduceBEq, isShift, kEq, fEq, binInt, binFloat, shiftInt, binStr])
    obtain ⟨w2, hr2, hb2, hx2, hsz2⟩ := stn (P := Try.prog) 77 (b := w1.heap.size) 0 (l := [cx 0 0, fl 0]) (vs := wcells d) (by kernel_rfl) (by simp [wcells]) (by simp [wcells, Value.oneCell']) (alloc_new w1 _) (by simp [wcells])
    refine ⟨_, hr2, ?_⟩
    (try simp only [RS, RF, cond_true, cond_false, List.nil_append, List.cons_append, List.toList_toArray, Option.isSome_some, Option.map_some, Option.map_none, Nat.reduceBEq, isShift, kEq, fEq, binInt, binFloat, shiftInt, binStr])
    have hb2 : w2.heap[w1.heap.size]? = some (.cells [cx d.1 d.2.1, fl d.2.2].toArray 77 (0, 0)) := hb2
    have hb12 : Bl w1 w2 := Bl.of_bx (Bl.alloc w1 _) hx2 (Nat.le_refl _)
    refine ⟨_, ldb (by kernel_rfl) hb2 rfl, ?_⟩
    (try simp only [RS, RF, cond_true, cond_false, List.nil_append, List.cons_append, List.toList_toArray, Option.isSome_some, Option.map_some, Option.map_none, Nat.reduceBEq, isShift, kEq, fEq, binInt, binFloat, shiftInt, binStr])
    refine ⟨_, ldb (by kernel_rfl) hb2 rfl, ?_⟩
    (try simp only [RS, RF, cond_true, cond_false, List.nil_append, List.cons_append, List.toList_toArray, Option.isSome_some, Option.map_some, Option.map_none, Nat.reduceBEq, isShift, kEq, fEq, binInt, binFloat, shiftInt, binStr])
    (refine (Part_ct w2 d.1 d.2.1 d.2.2 s1 s2).mono ?_; rintro _ w3 ⟨rfl, hw3⟩)
    (try simp only [RS, RF, cond_true, cond_false, List.nil_append, List.cons_append, List.toList_toArray, Option.isSome_some, Option.map_some, Option.map_none, Nat.reduceBEq, isShift, kEq, fEq, binInt, binFloat, shiftInt, binStr])
    (refine (Plus_ct w3 _ _ _ _ s3 s4).mono ?_; rintro _ w4 ⟨rfl, hw4⟩)
    (try simp only [RS, RF, cond_true, cond_false, List.nil_append, List.cons_append, List.toList_toArray, Option.isSome_some, Option.map_some, Option.map_none, Nat.reduceBEq, isShift, kEq, fEq, binInt, binFloat, shiftInt, binStr])
    rw [IntWalk.i64_in ((k : Int) + 1) (by omega)]
    refine ⟨k + 1, ?_, ⟨by omega, ((hb1.trans hb12).trans hw3).trans hw4⟩, by omega⟩
    rw [hst]
    exact (agr_cons rfl (agr_cons rfl (agr_cons rfl (agr_cons rfl (agr_nil)))))
set_option maxRecDepth 100000 in
theorem l07Pull_ct (w : World) (v : Value) (ws : List WV) (h : WtV w v ws) (hp : Pulls (0, 0) ws) : Ct Try.prog 137 #[v] w (Is (cx (pullW (0, 0) ws).1 (pullW (0, 0) ws).2) w) := by
  obtain ⟨a, cap, rfl, hl, hc⟩ := h
  (refine fn_of_W Try.func137 rfl (by kernel_rfl) (by kernel_rfl) (Nat.le_of_ble_eq_true (by kernel_rfl)) ?_; (try simp only [RS, RF, cond_true, cond_false, List.nil_append, List.cons_append, List.toList_toArray, Option.isSome_some, Option.map_some, Option.map_none, Nat.reduceBEq, isShift, kEq, fEq, binInt, binFloat, shiftInt, binStr, Try.f137]))
  refine loop_W (σ := Nat) (fun k => [(0, .slice a ws.length cap), (3, cx (pullW (0, 0) (ws.take k)).1 (pullW (0, 0) (ws.take k)).2), (4, .int .i64 k)]) (fun k w' => k ≤ ws.length ∧ Bl w w') (fun k => ws.length - k) 0 (agr_cons rfl (agr_cons rfl (agr_cons rfl (agr_nil)))) ⟨by omega, Bl.refl w⟩ ?_
  rintro k w1 e1 ⟨hk, hb1⟩
  (try simp only [RS, RF, cond_true, cond_false, List.nil_append, List.cons_append, List.toList_toArray, Option.isSome_some, Option.map_some, Option.map_none, Nat.reduceBEq, isShift, kEq, fEq, binInt, binFloat, shiftInt, binStr])
  intro b1 h1
  cases b1
  · (try simp only [RS, RF, cond_true, cond_false, List.nil_append, List.cons_append, List.toList_toArray, Option.isSome_some, Option.map_some, Option.map_none, Nat.reduceBEq, isShift, kEq, fEq, binInt, binFloat, shiftInt, binStr])
    have hkn : k = ws.length := by have := h1.symm; simp at this; omega
    rw [List.take_of_length_le (by omega)]
    exact ⟨rfl, hb1⟩
  · have hlt : k < ws.length := by have := h1.symm; simp at this; omega
    obtain ⟨b, o, rfl, hW⟩ := hc (by omega)
    have hget : ws[k]? = some ws[k] := List.getElem?_eq_getElem hlt
    obtain ⟨c1, c2⟩ := (hW.bl hb1).cells k _ hget
    obtain ⟨s1, s2, s3, s4⟩ := Pulls_step hget hp
    have hst := pullW_step (p := (0, 0)) hget
    generalize ws[k] = d at *
    (try simp only [RS, RF, cond_true, cond_false, List.nil_append, List.cons_append, List.toList_toArray, Option.isSome_some, Option.map_some, Option.map_none, Nat.reduceBEq, isShift, kEq, fEq, binInt, binFloat, shiftInt, binStr])
    refine draw_rule 12 (fun _ _ u => u = cx (fmul d.1 d.2.2) (fmul d.2.1 d.2.2)) mixed (by kernel_rfl) ?_
    (try simp only [RS, RF, cond_true, cond_false, List.nil_append, List.cons_append, List.toList_toArray, Option.isSome_some, Option.map_some, Option.map_none, Nat.reduceBEq, isShift, kEq, fEq, binInt, binFloat, shiftInt, binStr, Int.toNat_natCast])
    refine ⟨by omega, _, ldc (by kernel_rfl) c1, by omega, _, ldc (by kernel_rfl) c2, ?_⟩
    (try simp only [RS, RF, cond_true, cond_false, List.nil_append, List.cons_append, List.toList_toArray, Option.isSome_some, Option.map_some, Option.map_none, Nat.reduceBEq, isShift, kEq, fEq, binInt, binFloat, shiftInt, binStr])
    refine ⟨fun w2 hw2 => (lPart_ct w2 d.1 d.2.1 d.2.2 s1 s2).mono ?_, ?_⟩
    · rintro _ w3 ⟨rfl, hw3⟩
      exact ⟨rfl, hw2.trans hw3⟩
    rintro _ rfl
    (try simp only [RS, RF, cond_true, cond_false, List.nil_append, List.cons_append, List.toList_toArray, Option.isSome_some, Option.map_some, Option.map_none, Nat.reduceBEq, isShift, kEq, fEq, binInt, binFloat, shiftInt, binStr])
    intro w2 hw2
    (try simp only [RS, RF, cond_true, cond_false, List.nil_append, List.cons_append, List.toList_toArray, Option.isSome_some, Option.map_some, Option.map_none, Nat.reduceBEq, isShift, kEq, fEq, binInt, binFloat, shiftInt, binStr])
    (refine (lPlus_ct w2 _ _ _ _ s3 s4).mono ?_; rintro _ w3 ⟨rfl, hw3⟩)
    (try simp only [RS, RF, cond_true, cond_false, List.nil_append, List.cons_append, List.toList_toArray, Option.isSome_some, Option.map_some, Option.map_none, Nat.reduceBEq, isShift, kEq, fEq, binInt, binFloat, shiftInt, binStr])
    rw [IntWalk.i64_in ((k : Int) + 1) (by omega)]
    refine ⟨k + 1, ?_, ⟨by omega, (hb1.trans hw2).trans hw3⟩, by omega⟩
    rw [hst]
    exact (agr_cons rfl (agr_cons rfl (agr_cons rfl (agr_nil))))
set_option maxRecDepth 100000 in
theorem PullOf_ct (w : World) (v : Value) (ws : List WV) (h : WtV w v ws) (hok : ∀ d ∈ ws, Wok d) (hp : Pulls (0, 0) ws) : Ct Try.prog 48 #[v] w (Is (.tuple #[cx (pullW (0, 0) ws).1 (pullW (0, 0) ws).2, .int .i64 0]) w) := by
  (refine fn_of_W Try.func48 rfl (by kernel_rfl) (by kernel_rfl) (Nat.le_of_ble_eq_true (by kernel_rfl)) ?_; (try simp only [RS, RF, cond_true, cond_false, List.nil_append, List.cons_append, List.toList_toArray, Option.isSome_some, Option.map_some, Option.map_none, Nat.reduceBEq, isShift, kEq, fEq, binInt, binFloat, shiftInt, binStr, Try.f48]))
  (refine (ValidWeights_ct w v ws h hok).mono ?_; rintro _ w1 ⟨rfl, hw1⟩)
  (try simp only [RS, RF, cond_true, cond_false, List.nil_append, List.cons_append, List.toList_toArray, Option.isSome_some, Option.map_some, Option.map_none, Nat.reduceBEq, isShift, kEq, fEq, binInt, binFloat, shiftInt, binStr])
  (refine (pullOf_ct w1 v ws (h.bl hw1) hp).mono ?_; rintro _ w2 ⟨rfl, hw2⟩)
  (try simp only [RS, RF, cond_true, cond_false, List.nil_append, List.cons_append, List.toList_toArray, Option.isSome_some, Option.map_some, Option.map_none, Nat.reduceBEq, isShift, kEq, fEq, binInt, binFloat, shiftInt, binStr])
  exact ⟨rfl, hw1.trans hw2⟩
set_option maxRecDepth 100000 in
theorem sPullOf_ct (w : World) (v : Value) (ws : List WV) (h : WtV w v ws) (hok : ∀ d ∈ ws, Wok d) (hp : Pulls (0, 0) ws) : Ct Try.prog 49 #[v] w (Is (.tuple #[cx (pullW (0, 0) ws).1 (pullW (0, 0) ws).2, .int .i64 0]) w) := by
  (refine fn_of_W Try.func49 rfl (by kernel_rfl) (by kernel_rfl) (Nat.le_of_ble_eq_true (by kernel_rfl)) ?_; (try simp only [RS, RF, cond_true, cond_false, List.nil_append, List.cons_append, List.toList_toArray, Option.isSome_some, Option.map_some, Option.map_none, Nat.reduceBEq, isShift, kEq, fEq, binInt, binFloat, shiftInt, binStr, Try.f49]))
  (refine (l07Ok_ct w v ws h hok).mono ?_; rintro _ w1 ⟨rfl, hw1⟩)
  (try simp only [RS, RF, cond_true, cond_false, List.nil_append, List.cons_append, List.toList_toArray, Option.isSome_some, Option.map_some, Option.map_none, Nat.reduceBEq, isShift, kEq, fEq, binInt, binFloat, shiftInt, binStr])
  (refine (l07Pull_ct w1 v ws (h.bl hw1) hp).mono ?_; rintro _ w2 ⟨rfl, hw2⟩)
  (try simp only [RS, RF, cond_true, cond_false, List.nil_append, List.cons_append, List.toList_toArray, Option.isSome_some, Option.map_some, Option.map_none, Nat.reduceBEq, isShift, kEq, fEq, binInt, binFloat, shiftInt, binStr])
  exact ⟨rfl, hw1.trans hw2⟩
set_option maxRecDepth 100000 in
theorem A2Weights_ct (w : World) (v : Value) (h : Byt w v) (hl : ∀ a len cap, v = .slice a len cap → len ≤ 100000) :
    Ct Try.prog 46 #[v] w fun v w' => ∃ ws, WtV w' v ws ∧ ws.length ≤ 5 ∧ (∀ d ∈ ws, WOK d) ∧ Bl w w' := by
  obtain ⟨a, len, cap, rfl, hc⟩ := h
  have hl := hl a len cap rfl
  (refine fn_of_W Try.func46 rfl (by kernel_rfl) (by kernel_rfl) (Nat.le_of_ble_eq_true (by kernel_rfl)) ?_; (try simp only [RS, RF, cond_true, cond_false, List.nil_append, List.cons_append, List.toList_toArray, Option.isSome_some, Option.map_some, Option.map_none, Nat.reduceBEq, isShift, kEq, fEq, binInt, binFloat, shiftInt, binStr, Try.f46]))
  (refine (from_ct w a len cap (by omega) hc).mono ?_; rintro _ w1 ⟨rfl, hs, hb⟩)
  (try simp only [RS, RF, cond_true, cond_false, List.nil_append, List.cons_append, List.toList_toArray, Option.isSome_some, Option.map_some, Option.map_none, Nat.reduceBEq, isShift, kEq, fEq, binInt, binFloat, shiftInt, binStr])
  (refine (drawn_ct w1 w.heap.size 0 hs (by omega)).mono ?_; rintro _ w2 ⟨ws, hown, h5, hok, hx⟩)
  (try simp only [RS, RF, cond_true, cond_false, List.nil_append, List.cons_append, List.toList_toArray, Option.isSome_some, Option.map_some, Option.map_none, Nat.reduceBEq, isShift, kEq, fEq, binInt, binFloat, shiftInt, binStr])
  exact ⟨ws, WtV.of_own hown (by omega), h5, hok, hb.new hx (Nat.le_refl _)⟩
set_option maxRecDepth 100000 in
theorem A2Point_ct (w : World) (v : Value) (h : Byt w v) (hl : ∀ a len cap, v = .slice a len cap → len ≤ 100000) :
    Ct Try.prog 47 #[v] w fun v w' => ∃ x y, v = cx x y ∧ PtOK x ∧ PtOK y ∧ Bl w w' := by
  obtain ⟨a, len, cap, rfl, hc⟩ := h
  have hl := hl a len cap rfl
  (refine fn_of_W Try.func47 rfl (by kernel_rfl) (by kernel_rfl) (Nat.le_of_ble_eq_true (by kernel_rfl)) ?_; (try simp only [RS, RF, cond_true, cond_false, List.nil_append, List.cons_append, List.toList_toArray, Option.isSome_some, Option.map_some, Option.map_none, Nat.reduceBEq, isShift, kEq, fEq, binInt, binFloat, shiftInt, binStr, Try.f47]))
  (refine (from_ct w a len cap (by omega) hc).mono ?_; rintro _ w1 ⟨rfl, hs, hb⟩)
  (try simp only [RS, RF, cond_true, cond_false, List.nil_append, List.cons_append, List.toList_toArray, Option.isSome_some, Option.map_some, Option.map_none, Nat.reduceBEq, isShift, kEq, fEq, binInt, binFloat, shiftInt, binStr])
  (refine (l07Few_ct w1 w.heap.size 0 hs (by omega)).mono ?_; rintro _ w2 ⟨x, y, rfl, h1, h2, _, hx⟩)
  (try simp only [RS, RF, cond_true, cond_false, List.nil_append, List.cons_append, List.toList_toArray, Option.isSome_some, Option.map_some, Option.map_none, Nat.reduceBEq, isShift, kEq, fEq, binInt, binFloat, shiftInt, binStr])
  exact ⟨x, y, rfl, h1, h2, hb.new hx (Nat.le_refl _)⟩
end Go.Proofs.Ytjgpnbchnenbeaa
