/- Contracts for FnPlays: valid trains, plays that are as told. -/
import Derived.Test.YtjgpnbchnenbeaaP2
namespace Go.Proofs.Ytjgpnbchnenbeaa
set_option linter.unusedSimpArgs false
set_option linter.unusedVariables false
open Go
open Go.RowKit (Below)

/-! ### Valid trains -/
set_option maxRecDepth 100000 in
theorem part_ct (w : World) (a : Nat) : Ct Try.prog 156 #[fl a] w (Is (.bool (fle .f32 0 a && fle .f32 a 1065353216)) w) := by
  (refine fn_of_W Try.func156 rfl (by kernel_rfl) (by kernel_rfl) (Nat.le_of_ble_eq_true (by kernel_rfl)) ?_; (try simp only [RS, RF, cond_true, cond_false, List.nil_append, List.cons_append, List.toList_toArray, Option.isSome_some, Option.map_some, Option.map_none, Nat.reduceBEq, isShift, kEq, fEq, binInt, binFloat, shiftInt, binStr, Try.f156]))
  (refine (between_ct w a 0 1065353216).mono ?_; rintro _ w1 ⟨rfl, hw1⟩)
  (try simp only [RS, RF, cond_true, cond_false, List.nil_append, List.cons_append, List.toList_toArray, Option.isSome_some, Option.map_some, Option.map_none, Nat.reduceBEq, isShift, kEq, fEq, binInt, binFloat, shiftInt, binStr])
  exact ⟨rfl, hw1⟩
set_option maxRecDepth 100000 in
theorem areTeeth_ct (w : World) (n : Int) : Ct Try.prog 170 #[.int .i64 n] w (Is (.bool (decide (6 ≤ n) && decide (n ≤ 200))) w) := by
  (refine fn_of_W Try.func170 rfl (by kernel_rfl) (by kernel_rfl) (Nat.le_of_ble_eq_true (by kernel_rfl)) ?_; (try simp only [RS, RF, cond_true, cond_false, List.nil_append, List.cons_append, List.toList_toArray, Option.isSome_some, Option.map_some, Option.map_none, Nat.reduceBEq, isShift, kEq, fEq, binInt, binFloat, shiftInt, binStr, Try.f170]))
  (refine (within_ct w n 6 200).mono ?_; rintro _ w1 ⟨rfl, hw1⟩)
  (try simp only [RS, RF, cond_true, cond_false, List.nil_append, List.cons_append, List.toList_toArray, Option.isSome_some, Option.map_some, Option.map_none, Nat.reduceBEq, isShift, kEq, fEq, binInt, binFloat, shiftInt, binStr])
  exact ⟨rfl, hw1⟩
theorem wheel_dec {x : Int} (h : x ∈ wheels) : (decide (6 ≤ x) && decide (x ≤ 200)) = true := by
  have := wheel_bound h
  rw [decide_eq_true this.1, decide_eq_true this.2]; rfl
def pairV (p : PairV) : Value := .agg (pcells p).toArray
set_option maxRecDepth 100000 in
theorem vt1_ct (w : World) (p : PairV) (h : PairOK p) : Ct Try.prog 216 #[pairV p] w (Is (.bool false) w) := by
  obtain ⟨h1, h2, h3, h4⟩ := h
  have b1 := wheel_bound h1
  have b2 := wheel_bound h2
  obtain ⟨d, e, f⟩ := p
  simp only at h1 h2 h3 h4 b1 b2
  unfold pairV pcells
  (refine fn_of_W Try.func216 rfl (by kernel_rfl) (by kernel_rfl) (Nat.le_of_ble_eq_true (by kernel_rfl)) ?_; (try simp only [RS, RF, cond_true, cond_false, List.nil_append, List.cons_append, List.toList_toArray, Option.isSome_some, Option.map_some, Option.map_none, Nat.reduceBEq, isShift, kEq, fEq, binInt, binFloat, shiftInt, binStr, Try.f216]))
  have hb := alloc_new w (.cells #[.int .i16 d, .int .i16 e, .float .f32 f] 182)
  have hw0 : Bl w (w.alloc (.cells #[.int .i16 d, .int .i16 e, .float .f32 f] 182)) := Bl.alloc w _
  generalize w.alloc (.cells #[.int .i16 d, .int .i16 e, .float .f32 f] 182) = w0 at *
  refine ⟨_, ldb (by kernel_rfl) hb rfl, ?_⟩
  (try simp only [RS, RF, cond_true, cond_false, List.nil_append, List.cons_append, List.toList_toArray, Option.isSome_some, Option.map_some, Option.map_none, Nat.reduceBEq, isShift, kEq, fEq, binInt, binFloat, shiftInt, binStr])
  rw [IntWalk.i64_in d (by omega)]
  (refine (areTeeth_ct w0 d).mono ?_; rintro _ w1 ⟨rfl, hw1⟩)
  rw [wheel_dec h1]
  (try simp only [RS, RF, cond_true, cond_false, List.nil_append, List.cons_append, List.toList_toArray, Option.isSome_some, Option.map_some, Option.map_none, Nat.reduceBEq, isShift, kEq, fEq, binInt, binFloat, shiftInt, binStr])
  refine ⟨_, ldb (by kernel_rfl) (hw1.block hb) rfl, ?_⟩
  (try simp only [RS, RF, cond_true, cond_false, List.nil_append, List.cons_append, List.toList_toArray, Option.isSome_some, Option.map_some, Option.map_none, Nat.reduceBEq, isShift, kEq, fEq, binInt, binFloat, shiftInt, binStr])
  rw [IntWalk.i64_in e (by omega)]
  (refine (areTeeth_ct w1 e).mono ?_; rintro _ w2 ⟨rfl, hw2⟩)
  rw [wheel_dec h2]
  (try simp only [RS, RF, cond_true, cond_false, List.nil_append, List.cons_append, List.toList_toArray, Option.isSome_some, Option.map_some, Option.map_none, Nat.reduceBEq, isShift, kEq, fEq, binInt, binFloat, shiftInt, binStr])
  refine ⟨_, ldb (by kernel_rfl) ((hw1.trans hw2).block hb) rfl, ?_⟩
  (try simp only [RS, RF, cond_true, cond_false, List.nil_append, List.cons_append, List.toList_toArray, Option.isSome_some, Option.map_some, Option.map_none, Nat.reduceBEq, isShift, kEq, fEq, binInt, binFloat, shiftInt, binStr])
  (refine (part_ct w2 f).mono ?_; rintro _ w3 ⟨rfl, hw3⟩)
  rw [h3, h4]
  (try simp only [RS, RF, cond_true, cond_false, List.nil_append, List.cons_append, List.toList_toArray, Option.isSome_some, Option.map_some, Option.map_none, Nat.reduceBEq, isShift, kEq, fEq, binInt, binFloat, shiftInt, binStr])
  exact ⟨rfl, ((hw0.trans hw1).trans hw2).trans hw3⟩
set_option maxRecDepth 100000 in
theorem ixTrain_ct (w : World) (b o cap : Nat) (ps : List PairV) (h : TrainAt w b o ps) :
    Ct Try.prog 234 #[trainV b o cap ps, .func (.func 216) #[] #[]] w (Is (.int .i64 (-1)) w) := by
  have h4 := h.le
  (refine fn_of_W Try.func234 rfl (by kernel_rfl) (by kernel_rfl) (Nat.le_of_ble_eq_true (by kernel_rfl)) ?_; (try simp only [RS, RF, cond_true, cond_false, List.nil_append, List.cons_append, List.toList_toArray, Option.isSome_some, Option.map_some, Option.map_none, Nat.reduceBEq, isShift, kEq, fEq, binInt, binFloat, shiftInt, binStr, Try.f234]))
  refine loop_W (σ := Nat) (fun k => [(0, trainV b o cap ps), (1, .func (.func 216) #[] #[]), (7, .int .i64 ps.length), (8, .int .i64 k)]) (fun k w' => k ≤ ps.length ∧ Bl w w') (fun k => ps.length - k) 0 (agr_cons rfl (agr_cons rfl (agr_cons rfl (agr_cons rfl (agr_nil))))) ⟨by omega, Bl.refl w⟩ ?_
  rintro k w1 e1 ⟨hk, hb1⟩
  (try simp only [RS, RF, cond_true, cond_false, List.nil_append, List.cons_append, List.toList_toArray, Option.isSome_some, Option.map_some, Option.map_none, Nat.reduceBEq, isShift, kEq, fEq, binInt, binFloat, shiftInt, binStr])
  intro b1 h1
  cases b1
  · (try simp only [RS, RF, cond_true, cond_false, List.nil_append, List.cons_append, List.toList_toArray, Option.isSome_some, Option.map_some, Option.map_none, Nat.reduceBEq, isShift, kEq, fEq, binInt, binFloat, shiftInt, binStr])
    exact ⟨rfl, hb1⟩
  · (try simp only [RS, RF, cond_true, cond_false, List.nil_append, List.cons_append, List.toList_toArray, Option.isSome_some, Option.map_some, Option.map_none, Nat.reduceBEq, isShift, kEq, fEq, binInt, binFloat, shiftInt, binStr, Int.toNat_natCast])
    have hlt : k < ps.length := by have := h1.symm; simp at this; omega
    have hget : ps[k]? = some ps[k] := List.getElem?_eq_getElem hlt
    obtain ⟨c1, c2, c3⟩ := (h.bl hb1).cells k _ hget
    have hok := h.ok _ (List.getElem_mem hlt)
    generalize ps[k] = p at *
    refine ⟨by omega, _, ldn (cs := pcells p) (by kernel_rfl) (fun j u hu => ?_), ?_⟩
    · rw [add_off]
      match j, hu with
      | 0, hu => rw [← hu]; exact c1
      | 1, hu => rw [← hu]; exact c2
      | 2, hu => rw [← hu]; exact c3
    (try simp only [RS, RF, cond_true, cond_false, List.nil_append, List.cons_append, List.toList_toArray, Option.isSome_some, Option.map_some, Option.map_none, Nat.reduceBEq, isShift, kEq, fEq, binInt, binFloat, shiftInt, binStr])
    (refine (vt1_ct w1 p hok).mono ?_; rintro _ w2 ⟨rfl, hw2⟩)
    (try simp only [RS, RF, cond_true, cond_false, List.nil_append, List.cons_append, List.toList_toArray, Option.isSome_some, Option.map_some, Option.map_none, Nat.reduceBEq, isShift, kEq, fEq, binInt, binFloat, shiftInt, binStr])
    rw [IntWalk.i64_in ((k : Int) + 1) (by omega)]
    exact ⟨k + 1, (agr_cons rfl (agr_cons rfl (agr_cons rfl (agr_cons rfl (agr_nil))))), ⟨by omega, hb1.trans hw2⟩, by omega⟩
set_option maxRecDepth 100000 in
theorem cfTrain_ct (w : World) (b o cap : Nat) (ps : List PairV) (h : TrainAt w b o ps) :
    Ct Try.prog 215 #[trainV b o cap ps, .func (.func 216) #[] #[]] w (Is (.bool false) w) := by
  (refine fn_of_W Try.func215 rfl (by kernel_rfl) (by kernel_rfl) (Nat.le_of_ble_eq_true (by kernel_rfl)) ?_; (try simp only [RS, RF, cond_true, cond_false, List.nil_append, List.cons_append, List.toList_toArray, Option.isSome_some, Option.map_some, Option.map_none, Nat.reduceBEq, isShift, kEq, fEq, binInt, binFloat, shiftInt, binStr, Try.f215]))
  (refine (ixTrain_ct w b o cap ps h).mono ?_; rintro _ w1 ⟨rfl, hw1⟩)
  (try simp only [RS, RF, cond_true, cond_false, List.nil_append, List.cons_append, List.toList_toArray, Option.isSome_some, Option.map_some, Option.map_none, Nat.reduceBEq, isShift, kEq, fEq, binInt, binFloat, shiftInt, binStr])
  intro b1 hb1
  exact ⟨by rw [hb1]; rfl, hw1⟩
set_option maxRecDepth 100000 in
theorem ValidTrain_ct (w : World) (b o cap : Nat) (ps : List PairV) (h : TrainAt w b o ps) :
    Ct Try.prog 190 #[trainV b o cap ps] w (Is (.bool true) w) := by
  have h1 := h.ge
  have h4 := h.le
  (refine fn_of_W Try.func190 rfl (by kernel_rfl) (by kernel_rfl) (Nat.le_of_ble_eq_true (by kernel_rfl)) ?_; (try simp only [RS, RF, cond_true, cond_false, List.nil_append, List.cons_append, List.toList_toArray, Option.isSome_some, Option.map_some, Option.map_none, Nat.reduceBEq, isShift, kEq, fEq, binInt, binFloat, shiftInt, binStr, Try.f190]))
  (refine (within_ct w ps.length 1 8).mono ?_; rintro _ w1 ⟨rfl, hw1⟩)
  rw [decide_eq_true (by omega : (1 : Int) ≤ ps.length), decide_eq_true (by omega : (ps.length : Int) ≤ 8)]
  (try simp only [RS, RF, cond_true, cond_false, List.nil_append, List.cons_append, List.toList_toArray, Option.isSome_some, Option.map_some, Option.map_none, Nat.reduceBEq, isShift, kEq, fEq, binInt, binFloat, shiftInt, binStr])
  (refine (cfTrain_ct w1 b o cap ps (h.bl hw1)).mono ?_; rintro _ w2 ⟨rfl, hw2⟩)
  (try simp only [RS, RF, cond_true, cond_false, List.nil_append, List.cons_append, List.toList_toArray, Option.isSome_some, Option.map_some, Option.map_none, Nat.reduceBEq, isShift, kEq, fEq, binInt, binFloat, shiftInt, binStr])
  exact ⟨rfl, hw1.trans hw2⟩

set_option maxRecDepth 100000 in
theorem l01Teeth_ct (w : World) (n : Int) : Ct Try.prog 175 #[.int .i64 n] w (Is (.bool (decide (6 ≤ n) && decide (n ≤ 200))) w) := by
  (refine fn_of_W Try.func175 rfl (by kernel_rfl) (by kernel_rfl) (Nat.le_of_ble_eq_true (by kernel_rfl)) ?_; (try simp only [RS, RF, cond_true, cond_false, List.nil_append, List.cons_append, List.toList_toArray, Option.isSome_some, Option.map_some, Option.map_none, Nat.reduceBEq, isShift, kEq, fEq, binInt, binFloat, shiftInt, binStr, Try.f175]))
  (refine (in_ct w n 6 200).mono ?_; rintro _ w1 ⟨rfl, hw1⟩)
  (try simp only [RS, RF, cond_true, cond_false, List.nil_append, List.cons_append, List.toList_toArray, Option.isSome_some, Option.map_some, Option.map_none, Nat.reduceBEq, isShift, kEq, fEq, binInt, binFloat, shiftInt, binStr])
  refine ⟨?_, hw1⟩
  first | rfl | (congr 1)
set_option maxRecDepth 100000 in
theorem l01Part_ct (w : World) (a : Nat) : Ct Try.prog 161 #[fl a] w (Is (.bool (fle .f32 0 a && fle .f32 a 1065353216)) w) := by
  (refine fn_of_W Try.func161 rfl (by kernel_rfl) (by kernel_rfl) (Nat.le_of_ble_eq_true (by kernel_rfl)) ?_; (try simp only [RS, RF, cond_true, cond_false, List.nil_append, List.cons_append, List.toList_toArray, Option.isSome_some, Option.map_some, Option.map_none, Nat.reduceBEq, isShift, kEq, fEq, binInt, binFloat, shiftInt, binStr, Try.f161]))
  intro b1 h1
  rw [fge_swap] at h1
  cases b1
  · (try simp only [RS, RF, cond_true, cond_false, List.nil_append, List.cons_append, List.toList_toArray, Option.isSome_some, Option.map_some, Option.map_none, Nat.reduceBEq, isShift, kEq, fEq, binInt, binFloat, shiftInt, binStr])
    exact ⟨by rw [← h1]; rfl, Bl.refl w⟩
  · (try simp only [RS, RF, cond_true, cond_false, List.nil_append, List.cons_append, List.toList_toArray, Option.isSome_some, Option.map_some, Option.map_none, Nat.reduceBEq, isShift, kEq, fEq, binInt, binFloat, shiftInt, binStr])
    intro b2 h2
    exact ⟨by rw [← h1, ← h2]; rfl, Bl.refl w⟩
set_option maxRecDepth 100000 in
theorem l01Ok_ct (w : World) (b o cap : Nat) (ps : List PairV) (h : TrainAt w b o ps) :
    Ct Try.prog 195 #[trainV b o cap ps] w (Is (.bool true) w) := by
  have h1 := h.ge
  have h4 := h.le
  (refine fn_of_W Try.func195 rfl (by kernel_rfl) (by kernel_rfl) (Nat.le_of_ble_eq_true (by kernel_rfl)) ?_; (try simp only [RS, RF, cond_true, cond_false, List.nil_append, List.cons_append, List.toList_toArray, Option.isSome_some, Option.map_some, Option.map_none, Nat.reduceBEq, isShift, kEq, fEq, binInt, binFloat, shiftInt, binStr, Try.f195]))
  (refine (in_ct w ps.length 1 8).mono ?_; rintro _ w1 ⟨rfl, hw1⟩)
  rw [decide_eq_true (by omega : (1 : Int) ≤ ps.length), decide_eq_true (by omega : (ps.length : Int) ≤ 8)]
  (try simp only [RS, RF, cond_true, cond_false, List.nil_append, List.cons_append, List.toList_toArray, Option.isSome_some, Option.map_some, Option.map_none, Nat.reduceBEq, isShift, kEq, fEq, binInt, binFloat, shiftInt, binStr])
  refine loop_W (σ := Nat) (fun k => [(0, trainV b o cap ps), (3, .int .i64 k)]) (fun k w' => k ≤ ps.length ∧ Bl w w') (fun k => ps.length - k) 0 (agr_cons rfl (agr_cons rfl (agr_nil))) ⟨by omega, hw1⟩ ?_
  rintro k w2 e2 ⟨hk, hb2⟩
  (try simp only [RS, RF, cond_true, cond_false, List.nil_append, List.cons_append, List.toList_toArray, Option.isSome_some, Option.map_some, Option.map_none, Nat.reduceBEq, isShift, kEq, fEq, binInt, binFloat, shiftInt, binStr])
  intro b1 h1
  cases b1
  · (try simp only [RS, RF, cond_true, cond_false, List.nil_append, List.cons_append, List.toList_toArray, Option.isSome_some, Option.map_some, Option.map_none, Nat.reduceBEq, isShift, kEq, fEq, binInt, binFloat, shiftInt, binStr])
    exact ⟨rfl, hb2⟩
  · (try simp only [RS, RF, cond_true, cond_false, List.nil_append, List.cons_append, List.toList_toArray, Option.isSome_some, Option.map_some, Option.map_none, Nat.reduceBEq, isShift, kEq, fEq, binInt, binFloat, shiftInt, binStr, Int.toNat_natCast])
    have hlt : k < ps.length := by have := h1.symm; simp at this; omega
    have hget : ps[k]? = some ps[k] := List.getElem?_eq_getElem hlt
    obtain ⟨c1, c2, c3⟩ := (h.bl hb2).cells k _ hget
    obtain ⟨q1, q2, q3, q4⟩ := h.ok _ (List.getElem_mem hlt)
    have r1 := wheel_bound q1
    have r2 := wheel_bound q2
    generalize ps[k] = p at *
    refine ⟨by omega, _, ld1 (by kernel_rfl) c1, ?_⟩
    (try simp only [RS, RF, cond_true, cond_false, List.nil_append, List.cons_append, List.toList_toArray, Option.isSome_some, Option.map_some, Option.map_none, Nat.reduceBEq, isShift, kEq, fEq, binInt, binFloat, shiftInt, binStr])
    rw [IntWalk.i64_in p.1 (by omega)]
    (refine (l01Teeth_ct w2 p.1).mono ?_; rintro _ w3 ⟨rfl, hw3⟩)
    rw [wheel_dec q1]
    (try simp only [RS, RF, cond_true, cond_false, List.nil_append, List.cons_append, List.toList_toArray, Option.isSome_some, Option.map_some, Option.map_none, Nat.reduceBEq, isShift, kEq, fEq, binInt, binFloat, shiftInt, binStr, Int.toNat_natCast])
    refine ⟨by omega, _, ld1 (by kernel_rfl) (hw3.cell c2), ?_⟩
    (try simp only [RS, RF, cond_true, cond_false, List.nil_append, List.cons_append, List.toList_toArray, Option.isSome_some, Option.map_some, Option.map_none, Nat.reduceBEq, isShift, kEq, fEq, binInt, binFloat, shiftInt, binStr])
    rw [IntWalk.i64_in p.2.1 (by omega)]
    (refine (l01Teeth_ct w3 p.2.1).mono ?_; rintro _ w4 ⟨rfl, hw4⟩)
    rw [wheel_dec q2]
    (try simp only [RS, RF, cond_true, cond_false, List.nil_append, List.cons_append, List.toList_toArray, Option.isSome_some, Option.map_some, Option.map_none, Nat.reduceBEq, isShift, kEq, fEq, binInt, binFloat, shiftInt, binStr, Int.toNat_natCast])
    refine ⟨by omega, _, ld1 (by kernel_rfl) ((hw3.trans hw4).cell c3), ?_⟩
    (try simp only [RS, RF, cond_true, cond_false, List.nil_append, List.cons_append, List.toList_toArray, Option.isSome_some, Option.map_some, Option.map_none, Nat.reduceBEq, isShift, kEq, fEq, binInt, binFloat, shiftInt, binStr])
    (refine (l01Part_ct w4 p.2.2).mono ?_; rintro _ w5 ⟨rfl, hw5⟩)
    rw [q3, q4, Bool.and_true]
    (try simp only [RS, RF, cond_true, cond_false, List.nil_append, List.cons_append, List.toList_toArray, Option.isSome_some, Option.map_some, Option.map_none, Nat.reduceBEq, isShift, kEq, fEq, binInt, binFloat, shiftInt, binStr])
    rw [IntWalk.i64_in ((k : Int) + 1) (by omega)]
    exact ⟨k + 1, (agr_cons rfl (agr_cons rfl (agr_nil))), ⟨by omega, ((hb2.trans hw3).trans hw4).trans hw5⟩, by omega⟩

/-! ### Plays -/
theorem part_t {a : Nat} (h : a ≤ 1065353216) : (fle .f32 0 a && fle .f32 a 1065353216) = true := by
  rw [fle_pos (by omega) (by omega), fle_pos (by omega) (by omega), decide_eq_true (Nat.zero_le _), decide_eq_true h]; rfl
set_option maxRecDepth 100000 in
theorem ap1_ct (w : World) (a : Nat) (h : a ≤ 1065353216) : Ct Try.prog 218 #[fl a] w (Is (.bool false) w) := by
  (refine fn_of_W Try.func218 rfl (by kernel_rfl) (by kernel_rfl) (Nat.le_of_ble_eq_true (by kernel_rfl)) ?_; (try simp only [RS, RF, cond_true, cond_false, List.nil_append, List.cons_append, List.toList_toArray, Option.isSome_some, Option.map_some, Option.map_none, Nat.reduceBEq, isShift, kEq, fEq, binInt, binFloat, shiftInt, binStr, Try.f218]))
  (refine (part_ct w a).mono ?_; rintro _ w1 ⟨rfl, hw1⟩)
  rw [part_t h]
  (try simp only [RS, RF, cond_true, cond_false, List.nil_append, List.cons_append, List.toList_toArray, Option.isSome_some, Option.map_some, Option.map_none, Nat.reduceBEq, isShift, kEq, fEq, binInt, binFloat, shiftInt, binStr])
  exact ⟨rfl, hw1⟩
set_option maxRecDepth 100000 in
theorem ixPlays_ct (w : World) (n g c : Nat) (pl : List Nat) (h : PlAt w g pl) (hl : pl.length = n) (hn : n ≤ 1000) (hp : Parts pl) :
    Ct Try.prog 178 #[colV g n c, .func (.func 218) #[] #[]] w (Is (.int .i64 (-1)) w) := by
  (refine fn_of_W Try.func178 rfl (by kernel_rfl) (by kernel_rfl) (Nat.le_of_ble_eq_true (by kernel_rfl)) ?_; (try simp only [RS, RF, cond_true, cond_false, List.nil_append, List.cons_append, List.toList_toArray, Option.isSome_some, Option.map_some, Option.map_none, Nat.reduceBEq, isShift, kEq, fEq, binInt, binFloat, shiftInt, binStr, Try.f178]))
  refine loop_W (σ := Nat) (fun k => [(0, colV g n c), (1, .func (.func 218) #[] #[]), (7, .int .i64 n), (8, .int .i64 k)]) (fun k w' => k ≤ n ∧ Bl w w') (fun k => n - k) 0 (agr_cons rfl (agr_cons rfl (agr_cons rfl (agr_cons rfl (agr_nil))))) ⟨by omega, Bl.refl w⟩ ?_
  rintro k w1 e1 ⟨hk, hb1⟩
  (try simp only [RS, RF, cond_true, cond_false, List.nil_append, List.cons_append, List.toList_toArray, Option.isSome_some, Option.map_some, Option.map_none, Nat.reduceBEq, isShift, kEq, fEq, binInt, binFloat, shiftInt, binStr])
  intro b1 h1
  cases b1
  · (try simp only [RS, RF, cond_true, cond_false, List.nil_append, List.cons_append, List.toList_toArray, Option.isSome_some, Option.map_some, Option.map_none, Nat.reduceBEq, isShift, kEq, fEq, binInt, binFloat, shiftInt, binStr])
    exact ⟨rfl, hb1⟩
  · (try simp only [RS, RF, cond_true, cond_false, List.nil_append, List.cons_append, List.toList_toArray, Option.isSome_some, Option.map_some, Option.map_none, Nat.reduceBEq, isShift, kEq, fEq, binInt, binFloat, shiftInt, binStr, Int.toNat_natCast])
    have hlt : k < n := by have := h1.symm; simp at this; omega
    obtain ⟨x, hx⟩ := ex_get (l := pl) (j := k) (by omega)
    refine ⟨by omega, _, ld1 (by kernel_rfl) ((h.bl hb1) k x hx), ?_⟩
    (try simp only [RS, RF, cond_true, cond_false, List.nil_append, List.cons_append, List.toList_toArray, Option.isSome_some, Option.map_some, Option.map_none, Nat.reduceBEq, isShift, kEq, fEq, binInt, binFloat, shiftInt, binStr])
    (refine (ap1_ct w1 x (hp x (List.mem_of_getElem? hx))).mono ?_; rintro _ w2 ⟨rfl, hw2⟩)
    (try simp only [RS, RF, cond_true, cond_false, List.nil_append, List.cons_append, List.toList_toArray, Option.isSome_some, Option.map_some, Option.map_none, Nat.reduceBEq, isShift, kEq, fEq, binInt, binFloat, shiftInt, binStr])
    rw [IntWalk.i64_in ((k : Int) + 1) (by omega)]
    exact ⟨k + 1, (agr_cons rfl (agr_cons rfl (agr_cons rfl (agr_cons rfl (agr_nil))))), ⟨by omega, hb1.trans hw2⟩, by omega⟩
set_option maxRecDepth 100000 in
theorem arePlays_ct (w : World) (b o cap : Nat) (ps : List PairV) (g c : Nat) (pl : List Nat) (h : TrainAt w b o ps) (hg : PlAt w g pl) (hl : pl.length = ps.length) (hp : Parts pl) :
    Ct Try.prog 193 #[trainV b o cap ps, colV g ps.length c] w (Is (.bool true) w) := by
  have h4 := h.le
  (refine fn_of_W Try.func193 rfl (by kernel_rfl) (by kernel_rfl) (Nat.le_of_ble_eq_true (by kernel_rfl)) ?_; (try simp only [RS, RF, cond_true, cond_false, List.nil_append, List.cons_append, List.toList_toArray, Option.isSome_some, Option.map_some, Option.map_none, Nat.reduceBEq, isShift, kEq, fEq, binInt, binFloat, shiftInt, binStr, Try.f193]))
  intro b1 h1
  have : b1 = true := by rw [h1]; simp
  subst this
  (try simp only [RS, RF, cond_true, cond_false, List.nil_append, List.cons_append, List.toList_toArray, Option.isSome_some, Option.map_some, Option.map_none, Nat.reduceBEq, isShift, kEq, fEq, binInt, binFloat, shiftInt, binStr])
  have hcf : Ct Try.prog 157 #[colV g ps.length c, .func (.func 218) #[] #[]] w (Is (.bool false) w) := by
    (refine fn_of_W Try.func157 rfl (by kernel_rfl) (by kernel_rfl) (Nat.le_of_ble_eq_true (by kernel_rfl)) ?_; (try simp only [RS, RF, cond_true, cond_false, List.nil_append, List.cons_append, List.toList_toArray, Option.isSome_some, Option.map_some, Option.map_none, Nat.reduceBEq, isShift, kEq, fEq, binInt, binFloat, shiftInt, binStr, Try.f157]))
    (refine (ixPlays_ct w ps.length g c pl hg hl (by omega) hp).mono ?_; rintro _ w1 ⟨rfl, hw1⟩)
    (try simp only [RS, RF, cond_true, cond_false, List.nil_append, List.cons_append, List.toList_toArray, Option.isSome_some, Option.map_some, Option.map_none, Nat.reduceBEq, isShift, kEq, fEq, binInt, binFloat, shiftInt, binStr])
    intro b1 hb1
    exact ⟨by rw [hb1]; rfl, hw1⟩
  (refine (hcf).mono ?_; rintro _ w1 ⟨rfl, hw1⟩)
  (try simp only [RS, RF, cond_true, cond_false, List.nil_append, List.cons_append, List.toList_toArray, Option.isSome_some, Option.map_some, Option.map_none, Nat.reduceBEq, isShift, kEq, fEq, binInt, binFloat, shiftInt, binStr])
  exact ⟨rfl, hw1⟩
set_option maxRecDepth 100000 in
theorem pc1_ct (w : World) (b o cap : Nat) (ps : List PairV) (g c q : Nat) (pl : List Nat) (h : TrainAt w b o ps) (hg : PlAt w g pl) (hl : pl.length = ps.length) (hp : Parts pl) (hq : w.cell? ⟨q, 0, none⟩ = some (trainV b o cap ps)) :
    Ct Try.prog 192 #[colV g ps.length c, .pointer (some ⟨q, 0, none⟩)] w (Is (.bool false) w) := by
  (refine fn_of_W Try.func192 rfl (by kernel_rfl) (by kernel_rfl) (Nat.le_of_ble_eq_true (by kernel_rfl)) ?_; (try simp only [RS, RF, cond_true, cond_false, List.nil_append, List.cons_append, List.toList_toArray, Option.isSome_some, Option.map_some, Option.map_none, Nat.reduceBEq, isShift, kEq, fEq, binInt, binFloat, shiftInt, binStr, Try.f192]))
  refine ⟨_, ld1 (by kernel_rfl) hq, ?_⟩
  (try simp only [RS, RF, cond_true, cond_false, List.nil_append, List.cons_append, List.toList_toArray, Option.isSome_some, Option.map_some, Option.map_none, Nat.reduceBEq, isShift, kEq, fEq, binInt, binFloat, shiftInt, binStr])
  (refine (arePlays_ct w b o cap ps g c pl h hg hl hp).mono ?_; rintro _ w1 ⟨rfl, hw1⟩)
  (try simp only [RS, RF, cond_true, cond_false, List.nil_append, List.cons_append, List.toList_toArray, Option.isSome_some, Option.map_some, Option.map_none, Nat.reduceBEq, isShift, kEq, fEq, binInt, binFloat, shiftInt, binStr])
  exact ⟨rfl, hw1⟩
/-- a list of plays' slices -/
def Lists (w : World) (ps : List PairV) (r : Nat) (xs : List (Nat × Nat × List Nat)) : Prop :=
  ∀ k g c pl, xs[k]? = some (g, c, pl) → w.cell? ⟨r, k, none⟩ = some (colV g ps.length c) ∧ PlAt w g pl ∧ pl.length = ps.length ∧ Parts pl
theorem Lists.bl {w w' : World} {ps : List PairV} {r : Nat} {xs : List (Nat × Nat × List Nat)} (h : Lists w ps r xs) (hb : Bl w w') : Lists w' ps r xs :=
  fun k g c pl hk => by obtain ⟨h1, h2, h3, h4⟩ := h k g c pl hk; exact ⟨hb.cell h1, h2.bl hb, h3, h4⟩
set_option maxRecDepth 100000 in
theorem ixLists_ct (w : World) (b o cap : Nat) (ps : List PairV) (q r m : Nat) (xs : List (Nat × Nat × List Nat)) (h : TrainAt w b o ps) (hx : Lists w ps r xs) (hm : xs.length ≤ 1000) (hq : w.cell? ⟨q, 0, none⟩ = some (trainV b o cap ps)) :
    Ct Try.prog 217 #[.slice (some ⟨r, 0, none⟩) xs.length m, .func (.func 192) #[] #[.pointer (some ⟨q, 0, none⟩)]] w (Is (.int .i64 (-1)) w) := by
  (refine fn_of_W Try.func217 rfl (by kernel_rfl) (by kernel_rfl) (Nat.le_of_ble_eq_true (by kernel_rfl)) ?_; (try simp only [RS, RF, cond_true, cond_false, List.nil_append, List.cons_append, List.toList_toArray, Option.isSome_some, Option.map_some, Option.map_none, Nat.reduceBEq, isShift, kEq, fEq, binInt, binFloat, shiftInt, binStr, Try.f217]))
  refine loop_W (σ := Nat) (fun k => [(0, .slice (some ⟨r, 0, none⟩) xs.length m), (1, .func (.func 192) #[] #[.pointer (some ⟨q, 0, none⟩)]), (7, .int .i64 xs.length), (8, .int .i64 k)]) (fun k w' => k ≤ xs.length ∧ Bl w w') (fun k => xs.length - k) 0 (agr_cons rfl (agr_cons rfl (agr_cons rfl (agr_cons rfl (agr_nil))))) ⟨by omega, Bl.refl w⟩ ?_
  rintro k w1 e1 ⟨hk, hb1⟩
  (try simp only [RS, RF, cond_true, cond_false, List.nil_append, List.cons_append, List.toList_toArray, Option.isSome_some, Option.map_some, Option.map_none, Nat.reduceBEq, isShift, kEq, fEq, binInt, binFloat, shiftInt, binStr])
  intro b1 h1
  cases b1
  · (try simp only [RS, RF, cond_true, cond_false, List.nil_append, List.cons_append, List.toList_toArray, Option.isSome_some, Option.map_some, Option.map_none, Nat.reduceBEq, isShift, kEq, fEq, binInt, binFloat, shiftInt, binStr])
    exact ⟨rfl, hb1⟩
  · (try simp only [RS, RF, cond_true, cond_false, List.nil_append, List.cons_append, List.toList_toArray, Option.isSome_some, Option.map_some, Option.map_none, Nat.reduceBEq, isShift, kEq, fEq, binInt, binFloat, shiftInt, binStr, Int.toNat_natCast])
    have hlt : k < xs.length := by have := h1.symm; simp at this; omega
    obtain ⟨⟨g, c, pl⟩, hgx⟩ := ex_get (l := xs) (j := k) hlt
    obtain ⟨k1, k2, k3, k4⟩ := (hx.bl hb1) k g c pl hgx
    refine ⟨by omega, _, ld1 (by kernel_rfl) k1, ?_⟩
    (try simp only [RS, RF, cond_true, cond_false, List.nil_append, List.cons_append, List.toList_toArray, Option.isSome_some, Option.map_some, Option.map_none, Nat.reduceBEq, isShift, kEq, fEq, binInt, binFloat, shiftInt, binStr])
    (refine (pc1_ct w1 b o cap ps g c q pl (h.bl hb1) k2 k3 k4 (hb1.cell hq)).mono ?_; rintro _ w2 ⟨rfl, hw2⟩)
    (try simp only [RS, RF, cond_true, cond_false, List.nil_append, List.cons_append, List.toList_toArray, Option.isSome_some, Option.map_some, Option.map_none, Nat.reduceBEq, isShift, kEq, fEq, binInt, binFloat, shiftInt, binStr])
    rw [IntWalk.i64_in ((k : Int) + 1) (by omega)]
    exact ⟨k + 1, (agr_cons rfl (agr_cons rfl (agr_cons rfl (agr_cons rfl (agr_nil))))), ⟨by omega, hb1.trans hw2⟩, by omega⟩
set_option maxRecDepth 100000 in
theorem playCode_ct (w : World) (b o cap : Nat) (ps : List PairV) (r m : Nat) (xs : List (Nat × Nat × List Nat)) (h : TrainAt w b o ps) (hx : Lists w ps r xs) (hm : xs.length ≤ 1000) :
    Ct Try.prog 125 #[trainV b o cap ps, .slice (some ⟨r, 0, none⟩) xs.length m] w (Is (.int .i64 0) w) := by
  (refine fn_of_W Try.func125 rfl (by kernel_rfl) (by kernel_rfl) (Nat.le_of_ble_eq_true (by kernel_rfl)) ?_; (try simp only [RS, RF, cond_true, cond_false, List.nil_append, List.cons_append, List.toList_toArray, Option.isSome_some, Option.map_some, Option.map_none, Nat.reduceBEq, isShift, kEq, fEq, binInt, binFloat, shiftInt, binStr, Try.f125]))
  have hq := cell_blk (alloc_new w (.cells #[trainV b o cap ps] 53)) 0
  have hw0 : Bl w (w.alloc (.cells #[trainV b o cap ps] 53)) := Bl.alloc w _
  generalize w.alloc (.cells #[trainV b o cap ps] 53) = w0 at *
  have hq : w0.cell? ⟨w.heap.size, 0, none⟩ = some (trainV b o cap ps) := hq
  refine ⟨_, ld1 (by kernel_rfl) hq, ?_⟩
  (try simp only [RS, RF, cond_true, cond_false, List.nil_append, List.cons_append, List.toList_toArray, Option.isSome_some, Option.map_some, Option.map_none, Nat.reduceBEq, isShift, kEq, fEq, binInt, binFloat, shiftInt, binStr])
  (refine (ValidTrain_ct w0 b o cap ps (h.bl hw0)).mono ?_; rintro _ w1 ⟨rfl, hw1⟩)
  (try simp only [RS, RF, cond_true, cond_false, List.nil_append, List.cons_append, List.toList_toArray, Option.isSome_some, Option.map_some, Option.map_none, Nat.reduceBEq, isShift, kEq, fEq, binInt, binFloat, shiftInt, binStr])
  have hcf : Ct Try.prog 191 #[.slice (some ⟨r, 0, none⟩) xs.length m, .func (.func 192) #[] #[.pointer (some ⟨w.heap.size, 0, none⟩)]] w1 (Is (.bool false) w1) := by
    (refine fn_of_W Try.func191 rfl (by kernel_rfl) (by kernel_rfl) (Nat.le_of_ble_eq_true (by kernel_rfl)) ?_; (try simp only [RS, RF, cond_true, cond_false, List.nil_append, List.cons_append, List.toList_toArray, Option.isSome_some, Option.map_some, Option.map_none, Nat.reduceBEq, isShift, kEq, fEq, binInt, binFloat, shiftInt, binStr, Try.f191]))
    (refine (ixLists_ct w1 b o cap ps w.heap.size r m xs ((h.bl hw0).bl hw1) ((hx.bl hw0).bl hw1) hm (hw1.cell hq)).mono ?_; rintro _ w2 ⟨rfl, hw2⟩)
    (try simp only [RS, RF, cond_true, cond_false, List.nil_append, List.cons_append, List.toList_toArray, Option.isSome_some, Option.map_some, Option.map_none, Nat.reduceBEq, isShift, kEq, fEq, binInt, binFloat, shiftInt, binStr])
    intro b1 hb1
    exact ⟨by rw [hb1]; rfl, hw2⟩
  (refine (hcf).mono ?_; rintro _ w2 ⟨rfl, hw2⟩)
  (try simp only [RS, RF, cond_true, cond_false, List.nil_append, List.cons_append, List.toList_toArray, Option.isSome_some, Option.map_some, Option.map_none, Nat.reduceBEq, isShift, kEq, fEq, binInt, binFloat, shiftInt, binStr])
  exact ⟨rfl, (hw0.trans hw1).trans hw2⟩
set_option maxRecDepth 100000 in
theorem l06Plays_ct (w : World) (b o cap : Nat) (ps : List PairV) (g c : Nat) (pl : List Nat) (h : TrainAt w b o ps) (hg : PlAt w g pl) (hl : pl.length = ps.length) (hp : Parts pl) :
    Ct Try.prog 132 #[trainV b o cap ps, colV g ps.length c] w (Is (.bool true) w) := by
  have h4 := h.le
  (refine fn_of_W Try.func132 rfl (by kernel_rfl) (by kernel_rfl) (Nat.le_of_ble_eq_true (by kernel_rfl)) ?_; (try simp only [RS, RF, cond_true, cond_false, List.nil_append, List.cons_append, List.toList_toArray, Option.isSome_some, Option.map_some, Option.map_none, Nat.reduceBEq, isShift, kEq, fEq, binInt, binFloat, shiftInt, binStr, Try.f132]))
  refine loop_W (σ := Nat) (fun k => [(0, trainV b o cap ps), (1, colV g ps.length c), (5, .int .i64 k)]) (fun k w' => k ≤ ps.length ∧ Bl w w') (fun k => ps.length - k) 0 (agr_cons rfl (agr_cons rfl (agr_cons rfl (agr_nil)))) ⟨by omega, Bl.refl w⟩ ?_
  rintro k w1 e1 ⟨hk, hb1⟩
  (try simp only [RS, RF, cond_true, cond_false, List.nil_append, List.cons_append, List.toList_toArray, Option.isSome_some, Option.map_some, Option.map_none, Nat.reduceBEq, isShift, kEq, fEq, binInt, binFloat, shiftInt, binStr])
  intro b1 h1
  cases b1
  · (try simp only [RS, RF, cond_true, cond_false, List.nil_append, List.cons_append, List.toList_toArray, Option.isSome_some, Option.map_some, Option.map_none, Nat.reduceBEq, isShift, kEq, fEq, binInt, binFloat, shiftInt, binStr])
    intro b2 h2
    exact ⟨by rw [h2]; simp, hb1⟩
  · (try simp only [RS, RF, cond_true, cond_false, List.nil_append, List.cons_append, List.toList_toArray, Option.isSome_some, Option.map_some, Option.map_none, Nat.reduceBEq, isShift, kEq, fEq, binInt, binFloat, shiftInt, binStr, Int.toNat_natCast])
    have hlt : k < ps.length := by have := h1.symm; simp at this; omega
    obtain ⟨x, hx⟩ := ex_get (l := pl) (j := k) (by omega)
    refine ⟨by omega, _, ld1 (by kernel_rfl) ((hg.bl hb1) k x hx), ?_⟩
    (try simp only [RS, RF, cond_true, cond_false, List.nil_append, List.cons_append, List.toList_toArray, Option.isSome_some, Option.map_some, Option.map_none, Nat.reduceBEq, isShift, kEq, fEq, binInt, binFloat, shiftInt, binStr])
    (refine (l01Part_ct w1 x).mono ?_; rintro _ w2 ⟨rfl, hw2⟩)
    rw [part_t (hp x (List.mem_of_getElem? hx))]
    (try simp only [RS, RF, cond_true, cond_false, List.nil_append, List.cons_append, List.toList_toArray, Option.isSome_some, Option.map_some, Option.map_none, Nat.reduceBEq, isShift, kEq, fEq, binInt, binFloat, shiftInt, binStr])
    rw [IntWalk.i64_in ((k : Int) + 1) (by omega)]
    exact ⟨k + 1, (agr_cons rfl (agr_cons rfl (agr_cons rfl (agr_nil)))), ⟨by omega, hb1.trans hw2⟩, by omega⟩
set_option maxRecDepth 100000 in
theorem l06Asked_ct (w : World) (b o cap : Nat) (ps : List PairV) (g c : Nat) (pl : List Nat) (h : TrainAt w b o ps) (hg : PlAt w g pl) (hl : pl.length = ps.length) (hp : Parts pl) :
    Ct Try.prog 127 #[trainV b o cap ps, colV g ps.length c] w (Is (.int .i64 0) w) := by
  (refine fn_of_W Try.func127 rfl (by kernel_rfl) (by kernel_rfl) (Nat.le_of_ble_eq_true (by kernel_rfl)) ?_; (try simp only [RS, RF, cond_true, cond_false, List.nil_append, List.cons_append, List.toList_toArray, Option.isSome_some, Option.map_some, Option.map_none, Nat.reduceBEq, isShift, kEq, fEq, binInt, binFloat, shiftInt, binStr, Try.f127]))
  (refine (l01Ok_ct w b o cap ps h).mono ?_; rintro _ w1 ⟨rfl, hw1⟩)
  (try simp only [RS, RF, cond_true, cond_false, List.nil_append, List.cons_append, List.toList_toArray, Option.isSome_some, Option.map_some, Option.map_none, Nat.reduceBEq, isShift, kEq, fEq, binInt, binFloat, shiftInt, binStr])
  (refine (l06Plays_ct w1 b o cap ps g c pl (h.bl hw1) (hg.bl hw1) hl hp).mono ?_; rintro _ w2 ⟨rfl, hw2⟩)
  (try simp only [RS, RF, cond_true, cond_false, List.nil_append, List.cons_append, List.toList_toArray, Option.isSome_some, Option.map_some, Option.map_none, Nat.reduceBEq, isShift, kEq, fEq, binInt, binFloat, shiftInt, binStr])
  exact ⟨rfl, hw1.trans hw2⟩
end Go.Proofs.Ytjgpnbchnenbeaa
