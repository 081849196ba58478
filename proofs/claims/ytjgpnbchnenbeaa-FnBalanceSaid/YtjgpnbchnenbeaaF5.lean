/- Single precision over the rationals: the order, whole numbers, constants. -/
import Derived.Test.YtjgpnbchnenbeaaF4
namespace Go.Proofs.Ytjgpnbchnenbeaa
set_option linter.unusedSimpArgs false
set_option linter.unusedVariables false
open Go

theorem order_val {x y : Nat} (hx : FinW x) (hy : FinW y) :
    (val x < val y ∧ FloatKind.f32.format.order x y = some .lt) ∨ (val x = val y ∧ FloatKind.f32.format.order x y = some .eq) ∨ (val y < val x ∧ FloatKind.f32.format.order x y = some .gt) := by
  obtain ⟨s, m, p, hr, hp, hvx, _⟩ := read_val hx
  obtain ⟨t, n, q, hs, hq, hvy, _⟩ := read_val hy
  rw [f_order, hr, hs]
  unfold Ieee.Datum.order
  simp only [Option.some.injEq]
  generalize hb : min p q = b
  have e1 := signed_val s m p b (by omega)
  have e2 := signed_val t n q b (by omega)
  rw [← hvx] at e1
  rw [← hvy] at e2
  generalize Ieee.signed s m (p - b).toNat = S at *
  generalize Ieee.signed t n (q - b).toNat = T at *
  have lt : ∀ S T : Int, S < T → (S : Rat) * p2 b < (T : Rat) * p2 b := fun S T h => Rat.mul_lt_mul_of_pos_right (Rat.intCast_lt_intCast.2 h) (p2_pos b)
  rcases Int.lt_trichotomy S T with h | h | h
  · exact .inl ⟨by rw [← e1, ← e2]; exact lt S T h, Int.compare_eq_lt.2 h⟩
  · exact .inr (.inl ⟨by rw [← e1, ← e2, h], Int.compare_eq_eq.2 h⟩)
  · exact .inr (.inr ⟨by rw [← e1, ← e2]; exact lt T S h, Int.compare_eq_gt.2 h⟩)
theorem flt_val {x y : Nat} (hx : FinW x) (hy : FinW y) : flt .f32 x y = decide (val x < val y) := by
  unfold flt
  rcases order_val hx hy with ⟨h, e⟩ | ⟨h, e⟩ | ⟨h, e⟩ <;> rw [e]
  · rw [decide_eq_true h]; rfl
  · rw [decide_eq_false (by grind)]; rfl
  · rw [decide_eq_false (by grind)]; rfl
theorem fle_val {x y : Nat} (hx : FinW x) (hy : FinW y) : fle .f32 x y = decide (val x ≤ val y) := by
  unfold fle
  rcases order_val hx hy with ⟨h, e⟩ | ⟨h, e⟩ | ⟨h, e⟩ <;> rw [e]
  · rw [decide_eq_true (by grind)]; rfl
  · rw [decide_eq_true (by grind)]; rfl
  · rw [decide_eq_false (by grind)]; rfl
theorem fgt_val {x y : Nat} (hx : FinW x) (hy : FinW y) : fgt .f32 x y = decide (val y < val x) := by
  unfold fgt
  rcases order_val hx hy with ⟨h, e⟩ | ⟨h, e⟩ | ⟨h, e⟩ <;> rw [e]
  · rw [decide_eq_false (by grind)]; rfl
  · rw [decide_eq_false (by grind)]; rfl
  · rw [decide_eq_true h]; rfl
theorem fge_val {x y : Nat} (hx : FinW x) (hy : FinW y) : fge .f32 x y = decide (val y ≤ val x) := by
  unfold fge
  rcases order_val hx hy with ⟨h, e⟩ | ⟨h, e⟩ | ⟨h, e⟩ <;> rw [e]
  · rw [decide_eq_false (by grind)]; rfl
  · rw [decide_eq_true (by grind)]; rfl
  · rw [decide_eq_true (by grind)]; rfl
theorem FinW.num {x : Nat} (h : FinW x) : isNan .f32 x = false := by
  obtain ⟨s, m, p, hr, _⟩ := read_val h
  show (Ieee.single.read x).isNaN = false
  rw [hr]; rfl
theorem FinW.cn {x : Nat} (h : FinW x) : cn .f32 x = some x := cn_of_num h.num
/-- an operation's outcome that is near a number -/
theorem of_near {r : Nat} {F : Option Nat} {v e : Rat} (h : cn .f32 r = F) (hF : ∃ z, F = some z ∧ Nr z v e) : Nr r v e := by
  obtain ⟨z, hz, hn⟩ := hF
  rw [hz] at h
  rw [(cn_some h).1]; exact hn

/-! ### Whole numbers and constants -/
theorem int_val (n : Int) (h1 : -16777216 < n) (h2 : n < 16777216) : FinW (FloatKind.f32.nearest n) ∧ val (FloatKind.f32.nearest n) = (n : Rat) := by
  have e : FloatKind.f32.nearest n = Ieee.single.word (decide (n < 0)) (rung n.natAbs 0) := by
    show Ieee.single.nearest (decide (n < 0)) n.natAbs 0 = _
    rw [near_rung]
  have hv : nv n.natAbs 0 = (n.natAbs : Rat) := by unfold nv; rw [p2_zero]; grind
  have hle : nv n.natAbs 0 ≤ p2 100 := by
    rw [hv]
    have := cast_le (show n.natAbs ≤ 2 ^ 24 by omega)
    rw [← p2_nat] at this
    exact Rat.le_trans this (p2_le (by omega))
  obtain ⟨h3, h4⟩ := rung_exact n.natAbs 0 (by omega) (by omega) hle
  rw [e]
  refine ⟨word_fin h3, ?_⟩
  rw [word_val h3, h4, hv]
  by_cases hn : n < 0
  · rw [decide_eq_true hn, if_pos rfl]
    have : ((n.natAbs : Int) : Rat) = ((-n : Int) : Rat) := by congr 1; omega
    rw [Rat.intCast_neg] at this
    have e2 : ((n.natAbs : Nat) : Rat) = -(n : Rat) := this
    rw [e2]; grind
  · rw [decide_eq_false hn]
    have : ((n.natAbs : Int) : Rat) = (n : Rat) := by congr 1; omega
    exact this
/-- the whole number of units of 2^-149 -/
def valZ (x : Nat) : Int := if x < 2147483648 then (mag x : Int) else -(mag (x - 2147483648) : Int)
theorem val_Z (x : Nat) : val x = (valZ x : Rat) * p2 (-149) := by
  unfold val valZ qv nv
  split
  · rfl
  · rw [Rat.intCast_neg, Rat.neg_mul]; rfl
/-- a constant: N / 2^k -/
theorem val_const {x : Nat} (N : Int) (k : Nat) (hk : k ≤ 149) (h : valZ x = N * 2 ^ (149 - k)) : val x = (N : Rat) * p2 (-(k : Int)) := by
  rw [val_Z, h, Rat.intCast_mul]
  have : ((2 ^ (149 - k) : Int) : Rat) = p2 ((149 - k : Nat) : Int) := by
    rw [p2_nat]
    have : ((2 ^ (149 - k) : Int)) = (((2 ^ (149 - k) : Nat)) : Int) := by simp
    rw [this]; rfl
  rw [this, Rat.mul_assoc, ← p2_add]
  congr 2; omega
theorem xor_top {x : Nat} (h : x < 2147483648) : x ^^^ 2147483648 = 2147483648 + x := by
  have e31 : (2147483648 : Nat) = 2 ^ 31 := by decide
  rw [e31] at h ⊢
  apply Nat.eq_of_testBit_eq
  intro j
  rw [Nat.testBit_xor, Nat.testBit_two_pow]
  rcases Nat.lt_trichotomy j 31 with hj | hj | hj
  · rw [Nat.testBit_two_pow_add_gt hj, decide_eq_false (by omega)]; simp
  · subst hj
    rw [Nat.testBit_two_pow_add_eq]; simp
  · have h1 : x < 2 ^ j := Nat.lt_of_lt_of_le h (Nat.pow_le_pow_right (by decide) (by omega))
    have h2 : 2 ^ 31 + x < 2 ^ j := by
      have : 2 ^ (31 + 1) ≤ 2 ^ j := Nat.pow_le_pow_right (by decide) (by omega)
      rw [Nat.pow_succ] at this; omega
    rw [Nat.testBit_lt_two_pow h1, Nat.testBit_lt_two_pow h2, decide_eq_false (by omega)]; rfl
theorem neg_lo {x : Nat} (h : x < 2147483648) : Op.negFloat .f32 x = 2147483648 + x := xor_top h
theorem neg_hi {x : Nat} (h : x < 2147483648) : Op.negFloat .f32 (2147483648 + x) = x := by
  show (2147483648 + x) ^^^ 2147483648 = x
  rw [← xor_top h, Nat.xor_assoc, Nat.xor_self, Nat.xor_zero]
theorem val_neg {x : Nat} (h : FinW x) : FinW (Op.negFloat .f32 x) ∧ val (Op.negFloat .f32 x) = -val x := by
  have h1 := h.lt
  have h2 := h.fin
  by_cases c : x < 2147483648
  · rw [neg_lo c]
    refine ⟨⟨by omega, by omega⟩, ?_⟩
    unfold val
    rw [if_neg (by omega), if_pos c, show 2147483648 + x - 2147483648 = x by omega]
  · obtain ⟨y, rfl⟩ : ∃ y, x = 2147483648 + y := ⟨x - 2147483648, by omega⟩
    rw [neg_hi (by omega)]
    refine ⟨⟨by omega, by omega⟩, ?_⟩
    unfold val
    rw [if_pos (by omega), if_neg (by omega), show 2147483648 + y - 2147483648 = y by omega]; grind
theorem p2_inv (n : Nat) : p2 (-(n : Int)) * ((2 ^ n : Nat) : Rat) = 1 := by
  rw [← p2_nat, ← p2_add, show -(n : Int) + n = 0 by omega, p2_zero]
theorem p2_24 : p2 (-24) = 1 / 16777216 := by
  have h := p2_inv 24
  have e : ((2 ^ 24 : Nat) : Rat) = 16777216 := by decide
  have e2 : (-((24 : Nat) : Int)) = -24 := rfl
  rw [e, e2] at h; grind
theorem p2_100 : p2 100 = 1267650600228229401496703205376 := by decide
theorem p2_99 : p2 99 = 633825300114114700748351602688 := by decide
theorem p2_m100 : p2 (-100) = 1 / 1267650600228229401496703205376 := by
  have h := p2_inv 100
  have e : ((2 ^ 100 : Nat) : Rat) = 1267650600228229401496703205376 := by decide
  have e2 : (-((100 : Nat) : Int)) = -100 := rfl
  rw [e, e2] at h; grind
theorem p2_150 : p2 (-150) ≤ 1 / 1267650600228229401496703205376 := by
  rw [← p2_m100]; exact p2_le (by omega)
/-- the bound of an error, in numbers -/
theorem ep_le {M : Rat} : ep M ≤ M / 16777216 + 1 / 1267650600228229401496703205376 := by
  have h := p2_150
  unfold ep; rw [p2_24]; grind
end Go.Proofs.Ytjgpnbchnenbeaa
