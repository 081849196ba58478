/- Teeth: what is valid. -/
import Derived.Test.YtjgpnbchnenbeaaDoorY0
import Derived.Test.YtjgpnbchnenbeaaDoorY1
namespace Go.Proofs.YtjgpnbchnenbeaaDoor
set_option linter.unusedSimpArgs false
set_option linter.unusedVariables false
open Go
open Go.RowKit (Below)

theorem order_swap (x y : Nat) : FloatKind.f32.format.order y x = (FloatKind.f32.format.order x y).map Ordering.swap := by
  unfold Ieee.Format.order
  cases Ieee.Format.read FloatKind.f32.format x <;> cases Ieee.Format.read FloatKind.f32.format y <;> simp only [Ieee.Datum.order, Option.map_none, Option.map_some, Option.some.injEq]
  · rename_i s m p t n q
    rw [Int.min_comm p q]
    rw [← Std.OrientedCmp.eq_swap (cmp := compare)]
  · rename_i t; cases t <;> rfl
  · rename_i s _ _ _; cases s <;> rfl
  · rename_i s t; cases s <;> cases t <;> rfl
theorem fge_swap (x y : Nat) : fge .f32 x y = fle .f32 y x := by
  unfold fge fle; rw [order_swap x y]
  cases FloatKind.f32.format.order x y with
  | none => rfl
  | some o => cases o <;> rfl
set_option maxRecDepth 100000 in
theorem between_ct (w : World) (a lo hi : Nat) : Ct Tryd.prog 107 #[fl a, fl lo, fl hi] w (Is (.bool (fle .f32 lo a && fle .f32 a hi)) w) := by
  (refine fn_of_W Tryd.func107 rfl (by kernel_rfl) (by kernel_rfl) (Nat.le_of_ble_eq_true (by kernel_rfl)) ?_; (try simp only [RS, RF, cond_true, cond_false, List.nil_append, List.cons_append, List.toList_toArray, Option.isSome_some, Option.map_some, Option.map_none, Nat.reduceBEq, isShift, kEq, fEq, binInt, binFloat, shiftInt, binStr, Tryd.f107]))
  intro b hb
  cases b
  · (try simp only [RS, RF, cond_true, cond_false, List.nil_append, List.cons_append, List.toList_toArray, Option.isSome_some, Option.map_some, Option.map_none, Nat.reduceBEq, isShift, kEq, fEq, binInt, binFloat, shiftInt, binStr])
    rw [← hb]
    exact ⟨rfl, Bl.refl w⟩
  · (try simp only [RS, RF, cond_true, cond_false, List.nil_append, List.cons_append, List.toList_toArray, Option.isSome_some, Option.map_some, Option.map_none, Nat.reduceBEq, isShift, kEq, fEq, binInt, binFloat, shiftInt, binStr])
    intro b2 hb2
    rw [← hb]
    exact ⟨by rw [hb2]; rfl, Bl.refl w⟩
def partB (a : Nat) : Bool := fle .f32 0 a && fle .f32 a 1065353216
def hardB (h : Nat) : Bool := fle .f32 1065353216 h && fle .f32 h 1199570944
def sideB (s : Int) : Bool := decide (0 ≤ s) && decide (s ≤ 1)
def okT (h a b : Nat) (s : Int) : Bool := hardB h && (partB a && (partB b && sideB s))
set_option maxRecDepth 100000 in
theorem part_ct (w : World) (a : Nat) : Ct Tryd.prog 108 #[fl a] w (Is (.bool (partB a)) w) := by
  (refine fn_of_W Tryd.func108 rfl (by kernel_rfl) (by kernel_rfl) (Nat.le_of_ble_eq_true (by kernel_rfl)) ?_; (try simp only [RS, RF, cond_true, cond_false, List.nil_append, List.cons_append, List.toList_toArray, Option.isSome_some, Option.map_some, Option.map_none, Nat.reduceBEq, isShift, kEq, fEq, binInt, binFloat, shiftInt, binStr, Tryd.f108]))
  (refine (between_ct w a 0 1065353216).mono ?_; rintro _ w1 ⟨rfl, hw1⟩)
  (try simp only [RS, RF, cond_true, cond_false, List.nil_append, List.cons_append, List.toList_toArray, Option.isSome_some, Option.map_some, Option.map_none, Nat.reduceBEq, isShift, kEq, fEq, binInt, binFloat, shiftInt, binStr])
  exact ⟨rfl, hw1⟩
set_option maxRecDepth 100000 in
theorem l01Part_ct (w : World) (a : Nat) : Ct Tryd.prog 110 #[fl a] w (Is (.bool (partB a)) w) := by
  (refine fn_of_W Tryd.func110 rfl (by kernel_rfl) (by kernel_rfl) (Nat.le_of_ble_eq_true (by kernel_rfl)) ?_; (try simp only [RS, RF, cond_true, cond_false, List.nil_append, List.cons_append, List.toList_toArray, Option.isSome_some, Option.map_some, Option.map_none, Nat.reduceBEq, isShift, kEq, fEq, binInt, binFloat, shiftInt, binStr, Tryd.f110]))
  intro b1 h1
  rw [fge_swap] at h1
  unfold partB
  cases b1
  · (try simp only [RS, RF, cond_true, cond_false, List.nil_append, List.cons_append, List.toList_toArray, Option.isSome_some, Option.map_some, Option.map_none, Nat.reduceBEq, isShift, kEq, fEq, binInt, binFloat, shiftInt, binStr])
    exact ⟨by rw [← h1]; rfl, Bl.refl w⟩
  · (try simp only [RS, RF, cond_true, cond_false, List.nil_append, List.cons_append, List.toList_toArray, Option.isSome_some, Option.map_some, Option.map_none, Nat.reduceBEq, isShift, kEq, fEq, binInt, binFloat, shiftInt, binStr])
    intro b2 h2
    exact ⟨by rw [← h1, ← h2]; rfl, Bl.refl w⟩
set_option maxRecDepth 100000 in
theorem ValidTooth_ct (w : World) (h a b : Nat) (s : Int) (hs : -128 ≤ s ∧ s ≤ 127) : Ct Tryd.prog 55 #[thV h a b s] w (Is (.bool (okT h a b s)) w) := by
  (refine fn_of_W Tryd.func55 rfl (by kernel_rfl) (by kernel_rfl) (Nat.le_of_ble_eq_true (by kernel_rfl)) ?_; (try simp only [RS, RF, cond_true, cond_false, List.nil_append, List.cons_append, List.toList_toArray, Option.isSome_some, Option.map_some, Option.map_none, Nat.reduceBEq, isShift, kEq, fEq, binInt, binFloat, shiftInt, binStr, Tryd.f55]))
  have hb := alloc_new w (.cells [fl h, fl a, fl b, .int .i8 s].toArray 39)
  have hw0 : Bl w (w.alloc (.cells [fl h, fl a, fl b, .int .i8 s].toArray 39)) := Bl.alloc w _
  have e0 : (w.alloc (.cells #[fl h, fl a, fl b, .int .i8 s] 39)) = (w.alloc (.cells [fl h, fl a, fl b, .int .i8 s].toArray 39)) := rfl
  rw [e0]
  generalize w.alloc (.cells [fl h, fl a, fl b, .int .i8 s].toArray 39) = w0 at *
  refine ⟨_, ldb (by kernel_rfl) hb rfl, ?_⟩
  (try simp only [RS, RF, cond_true, cond_false, List.nil_append, List.cons_append, List.toList_toArray, Option.isSome_some, Option.map_some, Option.map_none, Nat.reduceBEq, isShift, kEq, fEq, binInt, binFloat, shiftInt, binStr])
  unfold okT
  (refine (between_ct w0 h 1065353216 1199570944).mono ?_; rintro _ w1 ⟨rfl, hw1⟩)
  have hh : (fle .f32 1065353216 h && fle .f32 h 1199570944) = hardB h := rfl
  rw [hh]
  have hB1 := hw0.trans hw1
  cases hardB h
  · (try simp only [RS, RF, cond_true, cond_false, List.nil_append, List.cons_append, List.toList_toArray, Option.isSome_some, Option.map_some, Option.map_none, Nat.reduceBEq, isShift, kEq, fEq, binInt, binFloat, shiftInt, binStr])
    exact ⟨rfl, hB1⟩
  (try simp only [RS, RF, cond_true, cond_false, List.nil_append, List.cons_append, List.toList_toArray, Option.isSome_some, Option.map_some, Option.map_none, Nat.reduceBEq, isShift, kEq, fEq, binInt, binFloat, shiftInt, binStr])
  refine ⟨by simp, _, ldb (by kernel_rfl) (hw1.block hb) rfl, ?_⟩
  (try simp only [RS, RF, cond_true, cond_false, List.nil_append, List.cons_append, List.toList_toArray, Option.isSome_some, Option.map_some, Option.map_none, Nat.reduceBEq, isShift, kEq, fEq, binInt, binFloat, shiftInt, binStr])
  (refine (part_ct w1 a).mono ?_; rintro _ w2 ⟨rfl, hw2⟩)
  have hB2 := hB1.trans hw2
  cases partB a
  · (try simp only [RS, RF, cond_true, cond_false, List.nil_append, List.cons_append, List.toList_toArray, Option.isSome_some, Option.map_some, Option.map_none, Nat.reduceBEq, isShift, kEq, fEq, binInt, binFloat, shiftInt, binStr])
    exact ⟨rfl, hB2⟩
  (try simp only [RS, RF, cond_true, cond_false, List.nil_append, List.cons_append, List.toList_toArray, Option.isSome_some, Option.map_some, Option.map_none, Nat.reduceBEq, isShift, kEq, fEq, binInt, binFloat, shiftInt, binStr])
  refine ⟨by simp, _, ldb (by kernel_rfl) ((hw1.trans hw2).block hb) rfl, ?_⟩
  (try simp only [RS, RF, cond_true, cond_false, List.nil_append, List.cons_append, List.toList_toArray, Option.isSome_some, Option.map_some, Option.map_none, Nat.reduceBEq, isShift, kEq, fEq, binInt, binFloat, shiftInt, binStr])
  (refine (part_ct w2 b).mono ?_; rintro _ w3 ⟨rfl, hw3⟩)
  have hB3 := hB2.trans hw3
  cases partB b
  · (try simp only [RS, RF, cond_true, cond_false, List.nil_append, List.cons_append, List.toList_toArray, Option.isSome_some, Option.map_some, Option.map_none, Nat.reduceBEq, isShift, kEq, fEq, binInt, binFloat, shiftInt, binStr])
    exact ⟨rfl, hB3⟩
  (try simp only [RS, RF, cond_true, cond_false, List.nil_append, List.cons_append, List.toList_toArray, Option.isSome_some, Option.map_some, Option.map_none, Nat.reduceBEq, isShift, kEq, fEq, binInt, binFloat, shiftInt, binStr])
  refine ⟨_, ldb (by kernel_rfl) (((hw1.trans hw2).trans hw3).block hb) rfl, ?_⟩
  (try simp only [RS, RF, cond_true, cond_false, List.nil_append, List.cons_append, List.toList_toArray, Option.isSome_some, Option.map_some, Option.map_none, Nat.reduceBEq, isShift, kEq, fEq, binInt, binFloat, shiftInt, binStr])
  rw [IntWalk.i64_in s (by omega)]
  (refine (within_ct w3 s 0 1).mono ?_; rintro _ w4 ⟨rfl, hw4⟩)
  (try simp only [RS, RF, cond_true, cond_false, List.nil_append, List.cons_append, List.toList_toArray, Option.isSome_some, Option.map_some, Option.map_none, Nat.reduceBEq, isShift, kEq, fEq, binInt, binFloat, shiftInt, binStr])
  exact ⟨rfl, hB3.trans hw4⟩
end Go.Proofs.YtjgpnbchnenbeaaDoor
