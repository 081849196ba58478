/- Single precision on words that are not negative: products, quotients up to 1, whole numbers. -/
import Derived.Test.YtjgpnbchnenbeaaF1
namespace Go.Proofs.Ytjgpnbchnenbeaa
set_option linter.unusedSimpArgs false
set_option linter.unusedVariables false
open Go

theorem fv_mul (x y : Nat) : FV .f32 .mul (some x) (some y) = ((Ieee.single.read x).product (Ieee.single.read y)).map Ieee.single.write := rfl
theorem mul_pos {x y : Nat} (hx : x < 2139095040) (hy : y < 2139095040) : FV .f32 .mul (some x) (some y) = some (rung (mag x * mag y) (-298)) := by
  obtain ⟨m, p, hr, hp, hm⟩ := read_pos hx
  obtain ⟨n, q, hs, hq, hn⟩ := read_pos hy
  rw [fv_mul, hr, hs]
  unfold Ieee.Datum.product
  simp only [Option.map_some, Option.some.injEq, Bool.xor_self]
  rw [write_num, near_rung, word_pos]
  refine rung_eq (b := -298) (by omega) (by omega) ?_
  have e2 : (p + q - -298).toNat = (p + 149).toNat + (q + 149).toNat := by omega
  have e3 : (-298 - -298 : Int).toNat = 0 := by decide
  rw [e2, e3, Nat.pow_zero, Nat.mul_one, ← hm, ← hn, Nat.pow_add]
  rw [Nat.mul_assoc, Nat.mul_assoc]
  congr 1
  rw [Nat.mul_left_comm]

/-- words' sums and products -/
def wadd (x y : Nat) : Nat := rung (mag x + mag y) (-149)
def wmul (x y : Nat) : Nat := rung (mag x * mag y) (-298)
theorem wadd_mono {x y x' y' : Nat} (hx : x ≤ x') (hx' : x' ≤ 2139095040) (hy : y ≤ y') (hy' : y' ≤ 2139095040) : wadd x y ≤ wadd x' y' :=
  rung_mono _ (Nat.add_le_add ((mag_le (by omega) hx').2 hx) ((mag_le (by omega) hy').2 hy))
theorem wmul_mono {x y x' y' : Nat} (hx : x ≤ x') (hx' : x' ≤ 2139095040) (hy : y ≤ y') (hy' : y' ≤ 2139095040) : wmul x y ≤ wmul x' y' :=
  rung_mono _ (Nat.mul_le_mul ((mag_le (by omega) hx').2 hx) ((mag_le (by omega) hy').2 hy))
theorem FV_wadd {x y : Nat} (hx : x < 2139095040) (hy : y < 2139095040) : FV .f32 .add (some x) (some y) = some (wadd x y) := add_pos hx hy
theorem FV_wmul {x y : Nat} (hx : x < 2139095040) (hy : y < 2139095040) : FV .f32 .mul (some x) (some y) = some (wmul x y) := mul_pos hx hy

/-- whole numbers -/
theorem nearest_pos (n : Nat) : FloatKind.f32.nearest (n : Int) = rung n 0 := by
  show Ieee.single.nearest (decide ((n : Int) < 0)) (Int.natAbs n) 0 = _
  rw [near_rung, Int.natAbs_natCast, decide_eq_false (by omega : ¬ (n : Int) < 0), word_pos]
theorem rung_one : rung 1 0 = 1065353216 := by decide
theorem rung_top : rung 1048576 0 = 1233125376 := by decide

/-- a quotient of two words, the first not greater: at most 1 -/
theorem quo_le_one {x c : Nat} (hx : x < 2139095040) (hc : c < 2139095040) (h0 : c ≠ 0) (h : x ≤ c) : ∃ r, FV .f32 .quo (some x) (some c) = some r ∧ r ≤ 1065353216 := by
  obtain ⟨m, p, hr, hp, hm⟩ := read_pos hx
  obtain ⟨n, q, hs, hq, hn⟩ := read_pos hc
  have hmag := (mag_le (x := x) (y := c) (by omega) (by omega)).2 h
  have hn0 : n ≠ 0 := fun e => by
    have := mag_dvd hc h0
    rw [← hn, e, Nat.zero_mul] at this; exact this rfl
  refine ⟨_, by rw [fv_quo, hr, hs, quot_num _ _ _ _ _ _ _ hn0, Option.map_some, Bool.xor_self, write_num, near_rung, word_pos], ?_⟩
  rw [← hm, ← hn] at hmag
  rw [Nat.shiftLeft_eq]
  generalize hk : 25 + n.log2 - m.log2 = k
  rw [← rung_one]
  by_cases hm0 : m = 0
  · subst hm0
    rw [Nat.zero_mul, Nat.zero_div, Nat.zero_mod]
    show rung 0 _ ≤ _
    simp [rung]
  · -- the exponents
    have hl1 : 2 ^ m.log2 ≤ m := Nat.log2_self_le hm0
    have hl2 : n < 2 ^ (n.log2 + 1) := Nat.lt_log2_self
    have hexp : m.log2 + (p + 149).toNat < n.log2 + 1 + (q + 149).toNat := by
      have h1 : 2 ^ (m.log2 + (p + 149).toNat) ≤ m * 2 ^ (p + 149).toNat := by rw [Nat.pow_add]; exact Nat.mul_le_mul_right _ hl1
      have h2 : n * 2 ^ (q + 149).toNat < 2 ^ (n.log2 + 1 + (q + 149).toNat) := by rw [Nat.pow_add]; exact Nat.mul_lt_mul_of_pos_right hl2 (Nat.two_pow_pos _)
      exact (Nat.pow_lt_pow_iff_right (by decide)).1 (Nat.lt_of_le_of_lt h1 (Nat.lt_of_le_of_lt hmag h2))
    have hml : m.log2 ≤ 23 := read_log hr
    obtain ⟨d, hd⟩ : ∃ d : Nat, (k : Int) + q - p = d := ⟨((k : Int) + q - p).toNat, by omega⟩
    have hle : m * 2 ^ k ≤ n * 2 ^ d := by
      have e1 : k + (q + 149).toNat = d + (p + 149).toNat := by omega
      have e2 : m * 2 ^ k * 2 ^ (q + 149).toNat ≤ n * 2 ^ d * 2 ^ (q + 149).toNat := by
        rw [Nat.mul_assoc, ← Nat.pow_add, e1, Nat.pow_add, Nat.mul_left_comm, Nat.mul_assoc, Nat.mul_left_comm n]
        exact Nat.mul_le_mul_left _ hmag
      exact Nat.le_of_mul_le_mul_right e2 (Nat.two_pow_pos _)
    have hdm := Nat.div_add_mod (m * 2 ^ k) n
    have hq1 : m * 2 ^ k / n ≤ 2 ^ d := by
      rw [← Nat.mul_div_cancel_left (2 ^ d) (Nat.pos_of_ne_zero hn0)]
      exact Nat.div_le_div_right hle
    have hR : 2 * (m * 2 ^ k / n) + (m * 2 ^ k % n != 0).toNat ≤ 2 ^ (d + 1) := by
      rw [Nat.pow_succ]
      have hb := Bool.toNat_le (m * 2 ^ k % n != 0)
      rcases Nat.lt_or_ge (m * 2 ^ k / n) (2 ^ d) with hlt | hge
      · omega
      · have he : m * 2 ^ k / n = 2 ^ d := by omega
        rw [he] at hdm
        have hz : m * 2 ^ k % n = 0 := by omega
        rw [hz, he]
        show 2 * 2 ^ d + 0 ≤ _
        omega
    refine rung_le (b := p - q - k - 1) (Int.le_refl _) (by omega) ?_
    have e1 : (p - q - (k : Int) - 1 - (p - q - (k : Int) - 1)).toNat = 0 := by omega
    have e2 : (0 - (p - q - (k : Int) - 1)).toNat = d + 1 := by omega
    rw [e1, e2, Nat.pow_zero, Nat.mul_one, Nat.one_mul]
    exact hR
end Go.Proofs.Ytjgpnbchnenbeaa
