/- Boxes: the same, valid. -/
import Derived.Test.YtjgpnbchnenbeaaDoorX1
namespace Go.Proofs.YtjgpnbchnenbeaaDoor
set_option linter.unusedSimpArgs false
set_option linter.unusedVariables false
open Go
open Go.RowKit (Below)

theorem Iv.at0 {w : World} {g : Nat} {zs : List Int} (h : Iv w g 0 zs) {k : Nat} {z : Int} (hk : zs[k]? = some z) : w.cell? ⟨g, k, none⟩ = some (i16 z) := by
  have := h.cell k z hk
  rwa [Nat.zero_add] at this
set_option maxRecDepth 100000 in
theorem eqInt16S_ct (w : World) (g g' : Nat) (zs : List Int) (h : Iv w g 0 zs) (h' : Iv w g' 0 zs) (hn : zs.length ≤ 1048576) : Ct Tryd.prog 16 #[rowV g zs, rowV g' zs] w (Is (.bool true) w) := by
  (refine fn_of_W Tryd.func16 rfl (by kernel_rfl) (by kernel_rfl) (Nat.le_of_ble_eq_true (by kernel_rfl)) ?_; (try simp only [RS, RF, cond_true, cond_false, List.nil_append, List.cons_append, List.toList_toArray, Option.isSome_some, Option.map_some, Option.map_none, Nat.reduceBEq, isShift, kEq, fEq, binInt, binFloat, shiftInt, binStr, Tryd.f16]))
  intro b0 hb0
  have : b0 = false := by rw [hb0]; simp
  subst this
  (try simp only [RS, RF, cond_true, cond_false, List.nil_append, List.cons_append, List.toList_toArray, Option.isSome_some, Option.map_some, Option.map_none, Nat.reduceBEq, isShift, kEq, fEq, binInt, binFloat, shiftInt, binStr])
  refine loop_W (σ := Nat) (fun k => [(0, rowV g zs), (1, rowV g' zs), (5, .int .i64 k)]) (fun k w' => k ≤ zs.length ∧ Bl w w') (fun k => zs.length - k) 0 (agr_cons rfl (agr_cons rfl (agr_cons rfl (agr_nil)))) ⟨Nat.zero_le _, Bl.refl w⟩ ?_
  rintro k w2 e2 ⟨hk, hb2⟩
  (try simp only [RS, RF, cond_true, cond_false, List.nil_append, List.cons_append, List.toList_toArray, Option.isSome_some, Option.map_some, Option.map_none, Nat.reduceBEq, isShift, kEq, fEq, binInt, binFloat, shiftInt, binStr])
  intro b1 hb1
  cases b1
  · (try simp only [RS, RF, cond_true, cond_false, List.nil_append, List.cons_append, List.toList_toArray, Option.isSome_some, Option.map_some, Option.map_none, Nat.reduceBEq, isShift, kEq, fEq, binInt, binFloat, shiftInt, binStr])
    exact ⟨rfl, hb2⟩
  · have hlt : k < zs.length := by have := hb1.symm; simp at this; omega
    obtain ⟨z, hz⟩ : ∃ z, zs[k]? = some z := ⟨_, List.getElem?_eq_getElem hlt⟩
    (try simp only [RS, RF, cond_true, cond_false, List.nil_append, List.cons_append, List.toList_toArray, Option.isSome_some, Option.map_some, Option.map_none, Nat.reduceBEq, isShift, kEq, fEq, binInt, binFloat, shiftInt, binStr])
    refine draw_rule 8 (fun _ _ _ => False) mixed (by kernel_rfl) ?_
    (try simp only [RS, RF, cond_true, cond_false, List.nil_append, List.cons_append, List.toList_toArray, Option.isSome_some, Option.map_some, Option.map_none, Nat.reduceBEq, isShift, kEq, fEq, binInt, binFloat, shiftInt, binStr, Int.toNat_natCast])
    refine ⟨by omega, _, ldc (by kernel_rfl) (hb2.cell (h.at0 hz)), by omega, _, ldc (by kernel_rfl) (hb2.cell (h'.at0 hz)), ?_⟩
    (try simp only [RS, RF, cond_true, cond_false, List.nil_append, List.cons_append, List.toList_toArray, Option.isSome_some, Option.map_some, Option.map_none, Nat.reduceBEq, isShift, kEq, fEq, binInt, binFloat, shiftInt, binStr])
    intro w3 hw3
    unfold i16
    (try simp only [RS, RF, cond_true, cond_false, List.nil_append, List.cons_append, List.toList_toArray, Option.isSome_some, Option.map_some, Option.map_none, Nat.reduceBEq, isShift, kEq, fEq, binInt, binFloat, shiftInt, binStr])
    intro b3 hb3
    have : b3 = false := by rw [hb3]; simp
    subst this
    (try simp only [RS, RF, cond_true, cond_false, List.nil_append, List.cons_append, List.toList_toArray, Option.isSome_some, Option.map_some, Option.map_none, Nat.reduceBEq, isShift, kEq, fEq, binInt, binFloat, shiftInt, binStr])
    rw [IntWalk.i64_in ((k : Int) + 1) (by omega)]
    exact ⟨k + 1, (agr_cons rfl (agr_cons rfl (agr_cons rfl (agr_nil)))), ⟨hlt, hb2.trans hw3⟩, by omega⟩

/-! ### What is valid -/
def gtP (p : Option Int) (z : Int) : Bool := match p with | some y => decide (y < z) | none => true
theorem gtP_some (y z : Int) : gtP (some y) z = decide (y < z) := rfl
def asc : Option Int → List Int → Bool
  | _, [] => true
  | p, z :: r => teeth z && gtP p z && asc (some z) r
def okB (zs : List Int) : Bool := asc none zs && (decide (2 ≤ (zs.length : Int)) && decide ((zs.length : Int) ≤ 24))
def prv (zs : List Int) : Nat → Option Int
  | 0 => none
  | k + 1 => zs[k]?
theorem asc_step {zs : List Int} {k : Nat} {z : Int} (h : zs[k]? = some z) : asc (prv zs k) (zs.drop k) = (teeth z && gtP (prv zs k) z && asc (prv zs (k + 1)) (zs.drop (k + 1))) := by
  obtain ⟨hk, hz⟩ := List.getElem?_eq_some_iff.1 h
  rw [List.drop_eq_getElem_cons hk, hz]
  show (teeth z && _ && asc (some z) (zs.drop (k + 1))) = _
  rw [show prv zs (k + 1) = some z from h]
theorem le_not_lt (y z : Int) : decide (z ≤ y) = !decide (y < z) := by
  by_cases h : y < z
  · rw [decide_eq_true h, decide_eq_false (by omega)]; rfl
  · rw [decide_eq_false h, decide_eq_true (by omega)]; rfl
set_option maxRecDepth 100000 in
theorem ValidBox_ct (w : World) (g : Nat) (zs : List Int) (h : Iv w g 0 zs) (hn : zs.length ≤ 1048576) : Ct Tryd.prog 69 #[rowV g zs] w (Is (.bool (okB zs)) w) := by
  (refine fn_of_W Tryd.func69 rfl (by kernel_rfl) (by kernel_rfl) (Nat.le_of_ble_eq_true (by kernel_rfl)) ?_; (try simp only [RS, RF, cond_true, cond_false, List.nil_append, List.cons_append, List.toList_toArray, Option.isSome_some, Option.map_some, Option.map_none, Nat.reduceBEq, isShift, kEq, fEq, binInt, binFloat, shiftInt, binStr, Tryd.f69]))
  refine loop_W (σ := Nat) (fun k => [(0, rowV g zs), (5, rowV g zs), (6, .int .i64 zs.length), (7, .int .i64 k)]) (fun k w' => k ≤ zs.length ∧ asc none zs = asc (prv zs k) (zs.drop k) ∧ Bl w w') (fun k => zs.length - k) 0 (agr_cons rfl (agr_cons rfl (agr_cons rfl (agr_cons rfl (agr_nil))))) ⟨Nat.zero_le _, rfl, Bl.refl w⟩ ?_
  rintro k w2 e2 ⟨hk, hasc, hb2⟩
  (try simp only [RS, RF, cond_true, cond_false, List.nil_append, List.cons_append, List.toList_toArray, Option.isSome_some, Option.map_some, Option.map_none, Nat.reduceBEq, isShift, kEq, fEq, binInt, binFloat, shiftInt, binStr])
  intro b1 hb1
  cases b1
  · have hk2 : k = zs.length := by have := hb1.symm; simp at this; omega
    subst hk2
    (try simp only [RS, RF, cond_true, cond_false, List.nil_append, List.cons_append, List.toList_toArray, Option.isSome_some, Option.map_some, Option.map_none, Nat.reduceBEq, isShift, kEq, fEq, binInt, binFloat, shiftInt, binStr])
    (refine (within_ct w2 zs.length 2 24).mono ?_; rintro _ w3 ⟨rfl, hw3⟩)
    (try simp only [RS, RF, cond_true, cond_false, List.nil_append, List.cons_append, List.toList_toArray, Option.isSome_some, Option.map_some, Option.map_none, Nat.reduceBEq, isShift, kEq, fEq, binInt, binFloat, shiftInt, binStr])
    refine ⟨?_, hb2.trans hw3⟩
    rw [List.drop_length] at hasc
    unfold okB
    rw [hasc]
    cases prv zs zs.length <;> rfl
  · have hlt : k < zs.length := by have := hb1.symm; simp at this; omega
    obtain ⟨z, hz⟩ : ∃ z, zs[k]? = some z := ⟨_, List.getElem?_eq_getElem hlt⟩
    have hzb := h.small z (List.mem_of_getElem? hz)
    have hst := asc_step hz
    (try simp only [RS, RF, cond_true, cond_false, List.nil_append, List.cons_append, List.toList_toArray, Option.isSome_some, Option.map_some, Option.map_none, Nat.reduceBEq, isShift, kEq, fEq, binInt, binFloat, shiftInt, binStr, Int.toNat_natCast])
    refine ⟨by omega, _, ld1 (by kernel_rfl) (hb2.cell (h.at0 hz)), ?_⟩
    unfold i16
    (try simp only [RS, RF, cond_true, cond_false, List.nil_append, List.cons_append, List.toList_toArray, Option.isSome_some, Option.map_some, Option.map_none, Nat.reduceBEq, isShift, kEq, fEq, binInt, binFloat, shiftInt, binStr])
    rw [IntWalk.i64_in z (by omega)]
    (refine (areTeeth_ct w2 z).mono ?_; rintro _ w3 ⟨rfl, hw3⟩)
    have hb3 := hb2.trans hw3
    have bad : asc (prv zs k) (zs.drop k) = false → Is (.bool (okB zs)) w (.bool false) w3 := fun hf => ⟨by unfold okB; rw [hasc, hf]; rfl, hb3⟩
    have next : asc (prv zs k) (zs.drop k) = asc (prv zs (k + 1)) (zs.drop (k + 1)) → asc none zs = asc (prv zs (k + 1)) (zs.drop (k + 1)) := fun hf => hasc.trans hf
    cases ht : teeth z
    · (try simp only [RS, RF, cond_true, cond_false, List.nil_append, List.cons_append, List.toList_toArray, Option.isSome_some, Option.map_some, Option.map_none, Nat.reduceBEq, isShift, kEq, fEq, binInt, binFloat, shiftInt, binStr])
      rw [ht] at hst
      exact bad hst
    · (try simp only [RS, RF, cond_true, cond_false, List.nil_append, List.cons_append, List.toList_toArray, Option.isSome_some, Option.map_some, Option.map_none, Nat.reduceBEq, isShift, kEq, fEq, binInt, binFloat, shiftInt, binStr])
      rw [ht] at hst
      cases k with
      | zero =>
        intro b4 hb4
        have : b4 = false := by rw [hb4]; simp
        subst this
        (try simp only [RS, RF, cond_true, cond_false, List.nil_append, List.cons_append, List.toList_toArray, Option.isSome_some, Option.map_some, Option.map_none, Nat.reduceBEq, isShift, kEq, fEq, binInt, binFloat, shiftInt, binStr])
        exact ⟨0 + 1, (agr_cons rfl (agr_cons rfl (agr_cons rfl (agr_cons rfl (agr_nil))))), ⟨hlt, next hst, hb3⟩, by omega⟩
      | succ j =>
        intro b4 hb4
        have : b4 = true := by rw [hb4]; simp
        subst this
        obtain ⟨y, hy⟩ : ∃ y, zs[j]? = some y := ⟨_, List.getElem?_eq_getElem (by omega)⟩
        rw [show prv zs (j + 1) = some y from hy, gtP_some] at hst
        (try simp only [RS, RF, cond_true, cond_false, List.nil_append, List.cons_append, List.toList_toArray, Option.isSome_some, Option.map_some, Option.map_none, Nat.reduceBEq, isShift, kEq, fEq, binInt, binFloat, shiftInt, binStr])
        rw [IntWalk.i64_in (((j + 1 : Nat) : Int) - 1) (by omega), show ((j + 1 : Nat) : Int) - 1 = (j : Int) by omega]
        (try simp only [RS, RF, cond_true, cond_false, List.nil_append, List.cons_append, List.toList_toArray, Option.isSome_some, Option.map_some, Option.map_none, Nat.reduceBEq, isShift, kEq, fEq, binInt, binFloat, shiftInt, binStr, Int.toNat_natCast])
        refine ⟨by omega, _, ld1 (by kernel_rfl) (hb3.cell (h.at0 hy)), ?_⟩
        unfold i16
        (try simp only [RS, RF, cond_true, cond_false, List.nil_append, List.cons_append, List.toList_toArray, Option.isSome_some, Option.map_some, Option.map_none, Nat.reduceBEq, isShift, kEq, fEq, binInt, binFloat, shiftInt, binStr])
        intro b5 hb5
        rw [le_not_lt] at hb5
        cases hlty : decide (y < z)
        · rw [hlty] at hb5 hst
          rw [Bool.not_false] at hb5
          subst hb5
          (try simp only [RS, RF, cond_true, cond_false, List.nil_append, List.cons_append, List.toList_toArray, Option.isSome_some, Option.map_some, Option.map_none, Nat.reduceBEq, isShift, kEq, fEq, binInt, binFloat, shiftInt, binStr])
          exact bad (by rw [show prv zs (j + 1) = some y from hy]; exact hst)
        · rw [hlty] at hb5 hst
          rw [Bool.not_true] at hb5
          subst hb5
          (try simp only [RS, RF, cond_true, cond_false, List.nil_append, List.cons_append, List.toList_toArray, Option.isSome_some, Option.map_some, Option.map_none, Nat.reduceBEq, isShift, kEq, fEq, binInt, binFloat, shiftInt, binStr])
          rw [IntWalk.i64_in (((j + 1 : Nat) : Int) + 1) (by omega)]
          exact ⟨j + 1 + 1, (agr_cons rfl (agr_cons rfl (agr_cons rfl (agr_cons rfl (agr_nil))))), ⟨hlt, next (by rw [show prv zs (j + 1) = some y from hy]; exact hst), hb3⟩, by omega⟩
set_option maxRecDepth 100000 in
theorem l05Ok_ct (w : World) (g : Nat) (zs : List Int) (h : Iv w g 0 zs) (hn : zs.length ≤ 1048576) : Ct Tryd.prog 67 #[rowV g zs] w (Is (.bool (okB zs)) w) := by
  (refine fn_of_W Tryd.func67 rfl (by kernel_rfl) (by kernel_rfl) (Nat.le_of_ble_eq_true (by kernel_rfl)) ?_; (try simp only [RS, RF, cond_true, cond_false, List.nil_append, List.cons_append, List.toList_toArray, Option.isSome_some, Option.map_some, Option.map_none, Nat.reduceBEq, isShift, kEq, fEq, binInt, binFloat, shiftInt, binStr, Tryd.f67]))
  refine loop_W (σ := Nat) (fun k => [(0, rowV g zs), (3, .int .i64 k)]) (fun k w' => k ≤ zs.length ∧ asc none zs = asc (prv zs k) (zs.drop k) ∧ Bl w w') (fun k => zs.length - k) 0 (agr_cons rfl (agr_cons rfl (agr_nil))) ⟨Nat.zero_le _, rfl, Bl.refl w⟩ ?_
  rintro k w2 e2 ⟨hk, hasc, hb2⟩
  (try simp only [RS, RF, cond_true, cond_false, List.nil_append, List.cons_append, List.toList_toArray, Option.isSome_some, Option.map_some, Option.map_none, Nat.reduceBEq, isShift, kEq, fEq, binInt, binFloat, shiftInt, binStr])
  intro b1 hb1
  cases b1
  · have hk2 : k = zs.length := by have := hb1.symm; simp at this; omega
    subst hk2
    (try simp only [RS, RF, cond_true, cond_false, List.nil_append, List.cons_append, List.toList_toArray, Option.isSome_some, Option.map_some, Option.map_none, Nat.reduceBEq, isShift, kEq, fEq, binInt, binFloat, shiftInt, binStr])
    (refine (in_ct w2 zs.length 2 24).mono ?_; rintro _ w3 ⟨rfl, hw3⟩)
    (try simp only [RS, RF, cond_true, cond_false, List.nil_append, List.cons_append, List.toList_toArray, Option.isSome_some, Option.map_some, Option.map_none, Nat.reduceBEq, isShift, kEq, fEq, binInt, binFloat, shiftInt, binStr])
    refine ⟨?_, hb2.trans hw3⟩
    rw [List.drop_length] at hasc
    unfold okB
    rw [hasc]
    cases prv zs zs.length <;> rfl
  · have hlt : k < zs.length := by have := hb1.symm; simp at this; omega
    obtain ⟨z, hz⟩ : ∃ z, zs[k]? = some z := ⟨_, List.getElem?_eq_getElem hlt⟩
    have hzb := h.small z (List.mem_of_getElem? hz)
    have hst := asc_step hz
    (try simp only [RS, RF, cond_true, cond_false, List.nil_append, List.cons_append, List.toList_toArray, Option.isSome_some, Option.map_some, Option.map_none, Nat.reduceBEq, isShift, kEq, fEq, binInt, binFloat, shiftInt, binStr])
    refine draw_rule 20 (fun _ _ u => u = .bool (teeth z)) mixed (by kernel_rfl) ?_
    (try simp only [RS, RF, cond_true, cond_false, List.nil_append, List.cons_append, List.toList_toArray, Option.isSome_some, Option.map_some, Option.map_none, Nat.reduceBEq, isShift, kEq, fEq, binInt, binFloat, shiftInt, binStr, Int.toNat_natCast])
    refine ⟨by omega, _, ldc (by kernel_rfl) (hb2.cell (h.at0 hz)), ?_⟩
    unfold i16
    (try simp only [RS, RF, cond_true, cond_false, List.nil_append, List.cons_append, List.toList_toArray, Option.isSome_some, Option.map_some, Option.map_none, Nat.reduceBEq, isShift, kEq, fEq, binInt, binFloat, shiftInt, binStr])
    rw [IntWalk.i64_in z (by omega)]
    refine ⟨fun w3 hw3 => (l01Teeth_ct w3 z).mono ?_, ?_⟩
    · rintro _ w4 ⟨rfl, hw4⟩
      exact ⟨rfl, hw3.trans hw4⟩
    rintro _ rfl
    have bad : asc (prv zs k) (zs.drop k) = false → ∀ w', Bl w2 w' → Is (.bool (okB zs)) w (.bool false) w' := fun hf w' hw' => ⟨by unfold okB; rw [hasc, hf]; rfl, hb2.trans hw'⟩
    have next : asc (prv zs k) (zs.drop k) = asc (prv zs (k + 1)) (zs.drop (k + 1)) → asc none zs = asc (prv zs (k + 1)) (zs.drop (k + 1)) := fun hf => hasc.trans hf
    cases ht : teeth z
    · rw [ht] at hst
      (try simp only [RS, RF, cond_true, cond_false, List.nil_append, List.cons_append, List.toList_toArray, Option.isSome_some, Option.map_some, Option.map_none, Nat.reduceBEq, isShift, kEq, fEq, binInt, binFloat, shiftInt, binStr])
      intro w3 hw3
      (try simp only [RS, RF, cond_true, cond_false, List.nil_append, List.cons_append, List.toList_toArray, Option.isSome_some, Option.map_some, Option.map_none, Nat.reduceBEq, isShift, kEq, fEq, binInt, binFloat, shiftInt, binStr])
      exact bad hst w3 hw3
    · rw [ht] at hst
      (try simp only [RS, RF, cond_true, cond_false, List.nil_append, List.cons_append, List.toList_toArray, Option.isSome_some, Option.map_some, Option.map_none, Nat.reduceBEq, isShift, kEq, fEq, binInt, binFloat, shiftInt, binStr])
      cases k with
      | zero =>
        intro b4 hb4
        have : b4 = false := by rw [hb4]; simp
        subst this
        (try simp only [RS, RF, cond_true, cond_false, List.nil_append, List.cons_append, List.toList_toArray, Option.isSome_some, Option.map_some, Option.map_none, Nat.reduceBEq, isShift, kEq, fEq, binInt, binFloat, shiftInt, binStr])
        intro w3 hw3
        (try simp only [RS, RF, cond_true, cond_false, List.nil_append, List.cons_append, List.toList_toArray, Option.isSome_some, Option.map_some, Option.map_none, Nat.reduceBEq, isShift, kEq, fEq, binInt, binFloat, shiftInt, binStr])
        exact ⟨0 + 1, (agr_cons rfl (agr_cons rfl (agr_nil))), ⟨hlt, next hst, hb2.trans hw3⟩, by omega⟩
      | succ j =>
        intro b4 hb4
        have : b4 = true := by rw [hb4]; simp
        subst this
        obtain ⟨y, hy⟩ : ∃ y, zs[j]? = some y := ⟨_, List.getElem?_eq_getElem (by omega)⟩
        rw [show prv zs (j + 1) = some y from hy, gtP_some] at hst
        (try simp only [RS, RF, cond_true, cond_false, List.nil_append, List.cons_append, List.toList_toArray, Option.isSome_some, Option.map_some, Option.map_none, Nat.reduceBEq, isShift, kEq, fEq, binInt, binFloat, shiftInt, binStr, Int.toNat_natCast])
        refine ⟨by omega, _, ldc (by kernel_rfl) (hb2.cell (h.at0 hz)), ?_⟩
        (try simp only [RS, RF, cond_true, cond_false, List.nil_append, List.cons_append, List.toList_toArray, Option.isSome_some, Option.map_some, Option.map_none, Nat.reduceBEq, isShift, kEq, fEq, binInt, binFloat, shiftInt, binStr])
        rw [IntWalk.i64_in (((j + 1 : Nat) : Int) - 1) (by omega), show ((j + 1 : Nat) : Int) - 1 = (j : Int) by omega]
        (try simp only [RS, RF, cond_true, cond_false, List.nil_append, List.cons_append, List.toList_toArray, Option.isSome_some, Option.map_some, Option.map_none, Nat.reduceBEq, isShift, kEq, fEq, binInt, binFloat, shiftInt, binStr, Int.toNat_natCast])
        refine ⟨by omega, _, ldc (by kernel_rfl) (hb2.cell (h.at0 hy)), ?_⟩
        unfold i16
        (try simp only [RS, RF, cond_true, cond_false, List.nil_append, List.cons_append, List.toList_toArray, Option.isSome_some, Option.map_some, Option.map_none, Nat.reduceBEq, isShift, kEq, fEq, binInt, binFloat, shiftInt, binStr])
        intro w3 hw3
        (try simp only [RS, RF, cond_true, cond_false, List.nil_append, List.cons_append, List.toList_toArray, Option.isSome_some, Option.map_some, Option.map_none, Nat.reduceBEq, isShift, kEq, fEq, binInt, binFloat, shiftInt, binStr])
        intro b5 hb5
        rw [le_not_lt] at hb5
        cases hlty : decide (y < z)
        · rw [hlty] at hb5 hst
          rw [Bool.not_false] at hb5
          subst hb5
          (try simp only [RS, RF, cond_true, cond_false, List.nil_append, List.cons_append, List.toList_toArray, Option.isSome_some, Option.map_some, Option.map_none, Nat.reduceBEq, isShift, kEq, fEq, binInt, binFloat, shiftInt, binStr])
          exact bad (by rw [show prv zs (j + 1) = some y from hy]; exact hst) w3 hw3
        · rw [hlty] at hb5 hst
          rw [Bool.not_true] at hb5
          subst hb5
          (try simp only [RS, RF, cond_true, cond_false, List.nil_append, List.cons_append, List.toList_toArray, Option.isSome_some, Option.map_some, Option.map_none, Nat.reduceBEq, isShift, kEq, fEq, binInt, binFloat, shiftInt, binStr])
          rw [IntWalk.i64_in (((j + 1 : Nat) : Int) + 1) (by omega)]
          exact ⟨j + 1 + 1, (agr_cons rfl (agr_cons rfl (agr_nil))), ⟨hlt, next (by rw [show prv zs (j + 1) = some y from hy]; exact hst), hb2.trans hw3⟩, by omega⟩
end Go.Proofs.YtjgpnbchnenbeaaDoor
