/- FnExactReadPoint, walked. -/
import Derived.Test.YtjgpnbchnenbeaaDoorR4
import Derived.Test.YtjgpnbchnenbeaaDoorV0
namespace Go.Proofs.YtjgpnbchnenbeaaDoor
set_option linter.unusedSimpArgs false
set_option linter.unusedVariables false
open Go
open Go.RowKit (Below)

theorem ptV_cases (l : List UInt8) : (∃ a b, ptV l = .tuple #[cx a b, .int .i64 0]) ∨ ptV l = .tuple #[cx 0 0, .int .i64 5] := by
  unfold ptV
  split
  · split
    · exact .inl ⟨_, _, rfl⟩
    · exact .inr rfl
  · exact .inr rfl
theorem ptV_form (l : List UInt8) : ∃ a b, ∃ n : Int, ptV l = .tuple #[cx a b, .int .i64 n] := by
  rcases ptV_cases l with ⟨a, b, h⟩ | h
  · exact ⟨a, b, 0, h⟩
  · exact ⟨0, 0, 5, h⟩
set_option maxRecDepth 100000 in
theorem FnExactReadPoint_ct (w : World) (s : ByteArray) (m : Int) (hm : w.cell? ⟨1, 0, none⟩ = some (.int .i64 m)) : Ct Tryd.prog 3 #[str s] w (Is (.bool true) w) := by
  obtain ⟨a, b, n, hp⟩ := ptV_form (bs s)
  (refine fn_of_W Tryd.func3 rfl (by kernel_rfl) (by kernel_rfl) (Nat.le_of_ble_eq_true (by kernel_rfl)) ?_; (try simp only [RS, RF, cond_true, cond_false, List.nil_append, List.cons_append, List.toList_toArray, Option.isSome_some, Option.map_some, Option.map_none, Nat.reduceBEq, isShift, kEq, fEq, binInt, binFloat, shiftInt, binStr, Tryd.f3]))
  intro b1 hb1
  cases b1
  · have hs : s.size ≤ 1048576 := by have := hb1.symm; simp at this; omega
    (try simp only [RS, RF, cond_true, cond_false, List.nil_append, List.cons_append, List.toList_toArray, Option.isSome_some, Option.map_some, Option.map_none, Nat.reduceBEq, isShift, kEq, fEq, binInt, binFloat, shiftInt, binStr])
    (refine (SReadPoint_ct w s hs).mono ?_; rintro _ w1 ⟨rfl, hw1⟩)
    rw [hp]
    (try simp only [RS, RF, cond_true, cond_false, List.nil_append, List.cons_append, List.toList_toArray, Option.isSome_some, Option.map_some, Option.map_none, Nat.reduceBEq, isShift, kEq, fEq, binInt, binFloat, shiftInt, binStr])
    (refine (ReadPoint_ct w1 s m hs (hw1.cell hm)).mono ?_; rintro _ w2 ⟨rfl, hw2⟩)
    rw [hp]
    (try simp only [RS, RF, cond_true, cond_false, List.nil_append, List.cons_append, List.toList_toArray, Option.isSome_some, Option.map_some, Option.map_none, Nat.reduceBEq, isShift, kEq, fEq, binInt, binFloat, shiftInt, binStr])
    refine cv_c (by kernel_rfl) (by kernel_rfl) rfl ?_
    intro x1 y1 w3 hx1 hy1 hw3
    (try simp only [RS, RF, cond_true, cond_false, List.nil_append, List.cons_append, List.toList_toArray, Option.isSome_some, Option.map_some, Option.map_none, Nat.reduceBEq, isShift, kEq, fEq, binInt, binFloat, shiftInt, binStr])
    refine cv_c (by kernel_rfl) (by kernel_rfl) rfl ?_
    intro x2 y2 w4 hx2 hy2 hw4
    (try simp only [RS, RF, cond_true, cond_false, List.nil_append, List.cons_append, List.toList_toArray, Option.isSome_some, Option.map_some, Option.map_none, Nat.reduceBEq, isShift, kEq, fEq, binInt, binFloat, shiftInt, binStr])
    (refine (sameComplex_ct w4 x1 y1 x2 y2 (hx1.same hx2) (hy1.same hy2)).mono ?_; rintro _ w5 ⟨rfl, hw5⟩)
    (try simp only [RS, RF, cond_true, cond_false, List.nil_append, List.cons_append, List.toList_toArray, Option.isSome_some, Option.map_some, Option.map_none, Nat.reduceBEq, isShift, kEq, fEq, binInt, binFloat, shiftInt, binStr])
    intro b3 hb3
    have : b3 = false := by rw [hb3]; simp
    subst this
    (try simp only [RS, RF, cond_true, cond_false, List.nil_append, List.cons_append, List.toList_toArray, Option.isSome_some, Option.map_some, Option.map_none, Nat.reduceBEq, isShift, kEq, fEq, binInt, binFloat, shiftInt, binStr])
    exact ⟨rfl, (((hw1.trans hw2).trans hw3).trans hw4).trans hw5⟩
  · (try simp only [RS, RF, cond_true, cond_false, List.nil_append, List.cons_append, List.toList_toArray, Option.isSome_some, Option.map_some, Option.map_none, Nat.reduceBEq, isShift, kEq, fEq, binInt, binFloat, shiftInt, binStr])
    exact ⟨rfl, Bl.refl w⟩
end Go.Proofs.YtjgpnbchnenbeaaDoor
