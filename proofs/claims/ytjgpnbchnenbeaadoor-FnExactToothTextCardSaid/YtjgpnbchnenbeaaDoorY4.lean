/- A tooth that comes in. -/
import Derived.Test.YtjgpnbchnenbeaaDoorY3
import Derived.WideShapes
import Derived.Test.YtjgpnbchnenbeaaDoorChecked
namespace Go.Proofs.YtjgpnbchnenbeaaDoor
set_option linter.unusedSimpArgs false
set_option linter.unusedVariables false
open Go
open Go.RowKit (Below)

theorem flt_has {x : Nat} (h : FloatKind.f32.has x) : x < 4294967296 := h

set_option maxRecDepth 100000 in
theorem shape_ct {W : World} {base : Nat} {v : Value} (h : Value.okWide Tryd.prog W .any base 37 v) : ∃ x a b s, v = thV x a b s ∧ (-128 ≤ s ∧ s ≤ 127) ∧ x < 4294967296 ∧ a < 4294967296 ∧ b < 4294967296 := by
  have hu : ∃ fs, Tryd.prog.underlying 37 = some (.struct fs) := by
    refine ⟨_, Tryd.underlying37⟩
  obtain ⟨fs, hu⟩ := hu
  simp only [Value.okWide, hu] at h
  obtain ⟨cs, rfl, hsz, ts, hts, _, hall⟩ := h
  have hc : Tryd.prog.cellsOf 37 = 4 := by kernel_rfl
  have ht : Tryd.prog.cellTypes Tryd.prog.depth 37 = some [33, 33, 33, 35] := by kernel_rfl
  rw [hc] at hsz
  rw [ht] at hts
  obtain rfl := Option.some.inj hts
  obtain ⟨x0, x1, x2, x3, rfl⟩ := arr4 hsz
  have fl_ok : ∀ v, Cell.okWide Tryd.prog W .any base 33 v → ∃ x, v = fl x ∧ x < 4294967296 := by
    intro v hv
    simp only [Cell.okWide, Tryd.underlying33, Cell.ok] at hv
    cases v with
    | float k x =>
      obtain ⟨rfl, hx⟩ := hv
      exact ⟨x, rfl, flt_has hx⟩
    | _ => exact hv.elim
  obtain ⟨t0, h0, k0⟩ := hall 0 x0 rfl
  obtain ⟨t1, h1, k1⟩ := hall 1 x1 rfl
  obtain ⟨t2, h2, k2⟩ := hall 2 x2 rfl
  obtain ⟨t3, h3, k3⟩ := hall 3 x3 rfl
  obtain rfl : 33 = t0 := Option.some.inj h0
  obtain rfl : 33 = t1 := Option.some.inj h1
  obtain rfl : 33 = t2 := Option.some.inj h2
  obtain rfl : 35 = t3 := Option.some.inj h3
  obtain ⟨x, rfl, hx⟩ := fl_ok _ k0
  obtain ⟨a, rfl, ha⟩ := fl_ok _ k1
  obtain ⟨b, rfl, hb⟩ := fl_ok _ k2
  have hs : ∃ s, x3 = .int .i8 s ∧ -128 ≤ s ∧ s ≤ 127 := by
    simp only [Cell.okWide, Tryd.underlying35, Cell.ok] at k3
    cases x3 with
    | int k s =>
      obtain ⟨rfl, h1⟩ := k3
      have e1 : IntKind.i8.min = -128 := by decide
      have e2 : IntKind.i8.max = 127 := by decide
      unfold IntKind.has at h1
      rw [e1, e2] at h1
      exact ⟨s, rfl, h1⟩
    | _ => exact k3.elim
  obtain ⟨s, rfl, hs⟩ := hs
  exact ⟨x, a, b, s, rfl, hs, hx, ha, hb⟩
end Go.Proofs.YtjgpnbchnenbeaaDoor
