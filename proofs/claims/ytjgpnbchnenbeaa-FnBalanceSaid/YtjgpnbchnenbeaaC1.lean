/- What is drawn from bytes: slices of bytes; a2Long and a2At. -/
import Derived.Test.YtjgpnbchnenbeaaC0
import Derived.Test.YtjgpnbchnenbeaaL1
namespace Go.Proofs.Ytjgpnbchnenbeaa
set_option linter.unusedSimpArgs false
set_option linter.unusedVariables false
open Go
open Go.RowKit (Below)

/-- a slice of bytes -/
def Byt (w : World) (v : Value) : Prop :=
  ∃ a len cap, v = .slice a len cap ∧ ∀ i, i < len → ∃ bb o n, a = some ⟨bb, o, none⟩ ∧ w.cell? ⟨bb, o + i, none⟩ = some (.int .u8 n) ∧ 0 ≤ n ∧ n ≤ 255
theorem Byt.bl {w w' : World} {v : Value} (h : Byt w v) (hb : Bl w w') : Byt w' v := by
  obtain ⟨a, len, cap, rfl, hc⟩ := h
  exact ⟨a, len, cap, rfl, fun i hi => by obtain ⟨bb, o, n, h1, h2, h3⟩ := hc i hi; exact ⟨bb, o, n, h1, hb.cell h2, h3⟩⟩

set_option maxRecDepth 100000 in
theorem a2Long_ct (w : World) (a a' : Option Addr) (n c n' c' : Nat) :
    Ct Try.prog 11 #[.slice a n c, .slice a' n' c'] w (Is (.bool (decide (3000 < n) || decide (3000 < n'))) w) := by
  (refine fn_of_W Try.func11 rfl (by kernel_rfl) (by kernel_rfl) (Nat.le_of_ble_eq_true (by kernel_rfl)) ?_; (try simp only [RS, RF, cond_true, cond_false, List.nil_append, List.cons_append, List.toList_toArray, Option.isSome_some, Option.map_some, Option.map_none, Nat.reduceBEq, isShift, kEq, fEq, binInt, binFloat, shiftInt, binStr, Try.f11]))
  intro b hb
  have e : b = decide (3000 < n) := by
    rw [hb]
    by_cases h : 3000 < n
    · rw [decide_eq_true h]; exact decide_eq_true (by omega)
    · rw [decide_eq_false h]; exact decide_eq_false (by omega)
  rw [← e]
  cases b
  · (try simp only [RS, RF, cond_true, cond_false, List.nil_append, List.cons_append, List.toList_toArray, Option.isSome_some, Option.map_some, Option.map_none, Nat.reduceBEq, isShift, kEq, fEq, binInt, binFloat, shiftInt, binStr])
    intro b2 hb2
    refine ⟨?_, Bl.refl w⟩
    rw [hb2, Bool.false_or]
    congr 1
    by_cases h : 3000 < n'
    · rw [decide_eq_true h]; exact decide_eq_true (by omega)
    · rw [decide_eq_false h]; exact decide_eq_false (by omega)
  · (try simp only [RS, RF, cond_true, cond_false, List.nil_append, List.cons_append, List.toList_toArray, Option.isSome_some, Option.map_some, Option.map_none, Nat.reduceBEq, isShift, kEq, fEq, binInt, binFloat, shiftInt, binStr])
    exact ⟨rfl, Bl.refl w⟩

set_option maxRecDepth 100000 in
theorem a2At_ct (w : World) (v : Value) (k n : Int) (h : Byt w v) (hk : 0 ≤ k) (hn : 1 ≤ n) :
    Ct Try.prog 26 #[v, .int .i64 k, .int .i64 n] w fun v w' => ∃ x : Int, v = .int .i64 x ∧ 0 ≤ x ∧ x < n ∧ Bl w w' := by
  obtain ⟨a, len, cap, rfl, hc⟩ := h
  (refine fn_of_W Try.func26 rfl (by kernel_rfl) (by kernel_rfl) (Nat.le_of_ble_eq_true (by kernel_rfl)) ?_; (try simp only [RS, RF, cond_true, cond_false, List.nil_append, List.cons_append, List.toList_toArray, Option.isSome_some, Option.map_some, Option.map_none, Nat.reduceBEq, isShift, kEq, fEq, binInt, binFloat, shiftInt, binStr, Try.f26]))
  intro b hb
  cases b
  · have hlt : k < len := by have := hb.symm; simp at this; omega
    obtain ⟨bb, o, x, rfl, hcell, h0, h1⟩ := hc k.toNat (by omega)
    (try simp only [RS, RF, cond_true, cond_false, List.nil_append, List.cons_append, List.toList_toArray, Option.isSome_some, Option.map_some, Option.map_none, Nat.reduceBEq, isShift, kEq, fEq, binInt, binFloat, shiftInt, binStr])
    intro b2 hb2
    have : b2 = false := by rw [hb2]; exact decide_eq_false (by omega)
    subst this
    (try simp only [RS, RF, cond_true, cond_false, List.nil_append, List.cons_append, List.toList_toArray, Option.isSome_some, Option.map_some, Option.map_none, Nat.reduceBEq, isShift, kEq, fEq, binInt, binFloat, shiftInt, binStr])
    refine ⟨⟨hk, hlt⟩, _, ld1 (by kernel_rfl) hcell, ?_⟩
    (try simp only [RS, RF, cond_true, cond_false, List.nil_append, List.cons_append, List.toList_toArray, Option.isSome_some, Option.map_some, Option.map_none, Nat.reduceBEq, isShift, kEq, fEq, binInt, binFloat, shiftInt, binStr])
    rw [IntWalk.i64_in x (by omega)]
    refine ⟨by omega, _, rfl, ?_, ?_, Bl.refl w⟩
    · rw [Int.tmod_eq_emod_of_nonneg h0]; exact Int.emod_nonneg _ (by omega)
    · rw [Int.tmod_eq_emod_of_nonneg h0]; exact Int.emod_lt_of_pos _ (by omega)
  · (try simp only [RS, RF, cond_true, cond_false, List.nil_append, List.cons_append, List.toList_toArray, Option.isSome_some, Option.map_some, Option.map_none, Nat.reduceBEq, isShift, kEq, fEq, binInt, binFloat, shiftInt, binStr])
    exact ⟨0, rfl, by omega, by omega, Bl.refl w⟩
end Go.Proofs.Ytjgpnbchnenbeaa
