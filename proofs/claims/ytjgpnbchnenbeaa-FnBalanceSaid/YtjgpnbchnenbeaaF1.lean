/- Single precision on words that are not negative: sums, halves, order. -/
import Derived.Test.YtjgpnbchnenbeaaF0
namespace Go.Proofs.Ytjgpnbchnenbeaa
set_option linter.unusedSimpArgs false
set_option linter.unusedVariables false
open Go

theorem mag_le {x y : Nat} (hx : x ≤ 2139095040) (hy : y ≤ 2139095040) : mag x ≤ mag y ↔ x ≤ y := by
  have h1 : mag x ≤ mag y → x ≤ y := fun h => by
    have := rung_mono (-149) h
    rwa [rung_mag hx, rung_mag hy] at this
  have h2 : mag y ≤ mag x → y ≤ x := fun h => by
    have := rung_mono (-149) h
    rwa [rung_mag hx, rung_mag hy] at this
  refine ⟨h1, fun h => ?_⟩
  rcases Nat.lt_or_ge (mag y) (mag x) with hl | hl
  · have := h2 (by omega)
    have e : x = y := by omega
    subst e; omega
  · exact hl
theorem mag_lt {x y : Nat} (hx : x ≤ 2139095040) (hy : y ≤ 2139095040) : mag x < mag y ↔ x < y := by
  have := mag_le hy hx; omega
theorem mag_inj {x y : Nat} (hx : x ≤ 2139095040) (hy : y ≤ 2139095040) (h : mag x = mag y) : x = y :=
  Nat.le_antisymm ((mag_le hx hy).1 (by omega)) ((mag_le hy hx).1 (by omega))
theorem mag_zero : mag 0 = 0 := rfl

theorem read_pos {x : Nat} (h : x < 2139095040) : ∃ m p, Ieee.single.read x = .number false m p ∧ -149 ≤ p ∧ m * 2 ^ (p + 149).toNat = mag x := by
  have h0 : Ieee.single.signWeight = 2147483648 := by decide
  have h1 : Ieee.single.leastPlace = -149 := by decide
  have h2 : Ieee.single.binade = 8388608 := by decide
  have h3 : Ieee.single.infRung = 2139095040 := by decide
  unfold Ieee.Format.read mag
  have hq : x / 2147483648 = 0 := Nat.div_eq_of_lt (by omega)
  have hm : x % 2147483648 = x := Nat.mod_eq_of_lt (by omega)
  simp only [h0, h1, h2, h3, hq, hm]
  by_cases c : x < 8388608
  · rw [if_pos c, if_pos c]
    exact ⟨x, -149, rfl, by omega, by simp⟩
  · rw [if_neg c, if_neg c, if_pos h]
    refine ⟨_, _, rfl, by omega, ?_⟩
    congr 2; omega
/-- a word of a sign and a finite rung -/
theorem read_neg {x : Nat} (h : x < 2139095040) : ∃ m p, Ieee.single.read (2147483648 + x) = .number true m p ∧ -149 ≤ p ∧ m * 2 ^ (p + 149).toNat = mag x := by
  have h0 : Ieee.single.signWeight = 2147483648 := by decide
  have h1 : Ieee.single.leastPlace = -149 := by decide
  have h2 : Ieee.single.binade = 8388608 := by decide
  have h3 : Ieee.single.infRung = 2139095040 := by decide
  unfold Ieee.Format.read mag
  have hq : (2147483648 + x) / 2147483648 = 1 := by omega
  have hm : (2147483648 + x) % 2147483648 = x := by omega
  simp only [h0, h1, h2, h3, hq, hm]
  by_cases c : x < 8388608
  · rw [if_pos c, if_pos c]
    exact ⟨x, -149, rfl, by omega, by simp⟩
  · rw [if_neg c, if_neg c, if_pos h]
    refine ⟨_, _, rfl, by omega, ?_⟩
    congr 2; omega

theorem word_pos (r : Nat) : Ieee.single.word false r = r := rfl
theorem write_num (s : Bool) (m : Nat) (p : Int) : Ieee.single.write (.number s m p) = Ieee.single.nearest s m p := rfl
theorem fv_add (x y : Nat) : FV .f32 .add (some x) (some y) = ((Ieee.single.read x).sum (Ieee.single.read y)).map Ieee.single.write := rfl
theorem fv_quo (x y : Nat) : FV .f32 .quo (some x) (some y) = ((Ieee.single.read x).quotient 25 (Ieee.single.read y)).map Ieee.single.write := rfl
theorem f_order (x y : Nat) : FloatKind.f32.format.order x y = (Ieee.single.read x).order (Ieee.single.read y) := rfl
theorem read_two : Ieee.single.read 1073741824 = .number false 8388608 (-22) := by decide
theorem log2_bin : Nat.log2 8388608 = 23 := by decide
theorem quot_num (d : Nat) (u t : Bool) (m n : Nat) (p q : Int) (hn : n ≠ 0) : Ieee.Datum.quotient d (.number u m p) (.number t n q) =
    some (.number (u ^^ t) (2 * ((m <<< (d + n.log2 - m.log2)) / n) + ((m <<< (d + n.log2 - m.log2)) % n != 0).toNat) (p - q - ((d + n.log2 - m.log2 : Nat) : Int) - 1)) := by
  simp only [Ieee.Datum.quotient, if_neg hn]
theorem read_lt {x m : Nat} {s : Bool} {p : Int} (hr : Ieee.single.read x = .number s m p) : m < 16777216 := by
  unfold Ieee.Format.read at hr
  have a0 : Ieee.single.signWeight = 2147483648 := by decide
  have a2 : Ieee.single.binade = 8388608 := by decide
  have a3 : Ieee.single.infRung = 2139095040 := by decide
  simp only [a0, a2, a3] at hr
  split at hr
  · injection hr; omega
  · split at hr
    · injection hr
      have := Nat.mod_lt (x % 2147483648) (show 0 < 8388608 from Nat.zero_lt_succ _)
      omega
    · split at hr <;> cases hr
theorem read_log {x m : Nat} {s : Bool} {p : Int} (hr : Ieee.single.read x = .number s m p) : m.log2 ≤ 23 := by
  by_cases h0 : m = 0
  · subst h0; decide
  · have h1 : m < 2 ^ 24 := Nat.lt_of_lt_of_eq (read_lt hr) (by decide)
    have := (Nat.log2_lt h0).2 h1
    omega

theorem num_pos {x : Nat} (h : x < 2139095040) : isNan .f32 x = false := by
  obtain ⟨m, p, hr, _⟩ := read_pos h
  unfold isNan FloatKind.decode
  show (Ieee.single.read x).isNaN = false
  rw [hr]; rfl
theorem cn_pos {x : Nat} (h : x < 2139095040) : cn .f32 x = some x := by unfold cn; rw [num_pos h]; rfl

theorem rung_fin {m : Nat} {p : Int} : rung m p ≤ 2139095040 := by unfold rung; split <;> omega

theorem pow_shift (m : Nat) {b p : Int} (h : b ≤ p) (hb : -149 ≤ b) : m * 2 ^ (p - b).toNat * 2 ^ (b + 149).toNat = m * 2 ^ (p + 149).toNat := by
  rw [Nat.mul_assoc, ← Nat.pow_add]; congr 2; omega
/-- the sum of two words that are not negative -/
theorem add_pos {x y : Nat} (hx : x < 2139095040) (hy : y < 2139095040) : FV .f32 .add (some x) (some y) = some (rung (mag x + mag y) (-149)) := by
  obtain ⟨m, p, hr, hp, hm⟩ := read_pos hx
  obtain ⟨n, q, hs, hq, hn⟩ := read_pos hy
  rw [fv_add, hr, hs]
  unfold Ieee.Datum.sum
  simp only [Ieee.signed, Bool.false_eq_true, if_false, Option.map_some, Option.some.injEq, Nat.shiftLeft_eq]
  rw [write_num, near_rung]
  generalize hb : min p q = b
  have e0 : ((m * 2 ^ (p - b).toNat : Nat) : Int) + ((n * 2 ^ (q - b).toNat : Nat) : Int) = ((m * 2 ^ (p - b).toNat + n * 2 ^ (q - b).toNat : Nat) : Int) := by omega
  rw [e0, Int.natAbs_natCast]
  have e1 : (if ((m * 2 ^ (p - b).toNat + n * 2 ^ (q - b).toNat : Nat) : Int) = 0 then (false && false) else decide (((m * 2 ^ (p - b).toNat + n * 2 ^ (q - b).toNat : Nat) : Int) < 0)) = false := by
    split
    · rfl
    · exact decide_eq_false (by omega)
  rw [e1, word_pos]
  refine rung_eq (b := -149) (by omega) (by omega) ?_
  have e2 : (b - -149).toNat = (b + 149).toNat := by omega
  have e3 : (-149 - -149 : Int).toNat = 0 := by decide
  rw [e2, e3, Nat.pow_zero, Nat.mul_one, Nat.add_mul, pow_shift m (by omega) (by omega), pow_shift n (by omega) (by omega), hm, hn]

theorem mag_dvd {x : Nat} (hx : x < 2139095040) (h0 : x ≠ 0) : mag x ≠ 0 := by
  have := (mag_lt (x := 0) (y := x) (by omega) (by omega)).2 (by omega)
  rw [mag_zero] at this; omega
theorem half_aux (B m M : Nat) (p : Int) (hB2 : 2 ^ 23 = B) (hlog : B.log2 = 23) (hB0 : B ≠ 0) (hlm : m.log2 ≤ 23) (hp : -149 ≤ p) (hm : m * 2 ^ (p + 149).toNat = M) :
    (Ieee.Datum.quotient 25 (.number false m p) (.number false B (-22))).map Ieee.single.write = some (rung M (-150)) := by
  rw [quot_num _ _ _ _ _ _ _ hB0, Bool.xor_self, Option.map_some, write_num, near_rung, word_pos, hlog, Nat.shiftLeft_eq]
  generalize hk : 25 + 23 - m.log2 = k
  have hk2 : ∃ j, k = j + 23 := ⟨k - 23, by omega⟩
  obtain ⟨j, rfl⟩ := hk2
  have d1 : m * 2 ^ (j + 23) / B = m * 2 ^ j := by
    rw [Nat.pow_add, hB2, ← Nat.mul_assoc]; exact Nat.mul_div_cancel _ (Nat.pos_of_ne_zero hB0)
  have d2 : m * 2 ^ (j + 23) % B = 0 := by
    rw [Nat.pow_add, hB2, ← Nat.mul_assoc]; exact Nat.mul_mod_left _ _
  have d3 : ((0 : Nat) != 0).toNat = 0 := rfl
  rw [d1, d2, d3]
  refine congrArg some ?_
  have e5 : 2 * (m * 2 ^ j) + 0 = m * 2 ^ (j + 1) := by rw [Nat.add_zero, Nat.pow_succ, Nat.mul_comm 2, Nat.mul_assoc]
  rw [e5]
  have e6 : p - -22 - ((j + 23 : Nat) : Int) - 1 = (p - 1) - ((j + 1 : Nat) : Int) := by omega
  rw [e6, rung_shift]
  refine rung_eq (b := -150) (by omega) (by omega) ?_
  have e2 : (p - 1 - -150).toNat = (p + 149).toNat := by omega
  have e3 : (-150 - -150 : Int).toNat = 0 := by decide
  rw [e2, e3, Nat.pow_zero, Nat.mul_one, hm]
theorem pow_bin : 2 ^ 23 = 8388608 := by decide
/-- the half of a word that is not negative -/
theorem half_pos {x : Nat} (hx : x < 2139095040) : FV .f32 .quo (some x) (some 1073741824) = some (rung (mag x) (-150)) := by
  obtain ⟨m, p, hr, hp, hm⟩ := read_pos hx
  rw [fv_quo, hr, read_two]
  have k0 : (8388608 : Nat) ≠ 0 := by omega
  have k1 := read_log hr
  have k2 := half_aux 8388608 m (mag x) p pow_bin log2_bin k0 k1 hp hm
  exact k2

theorem mag_double {x : Nat} (h : 8388608 ≤ x) : mag (x + 8388608) = 2 * mag x := by
  unfold mag
  have h1 : ¬ x < 8388608 := by omega
  have h2 : ¬ x + 8388608 < 8388608 := by omega
  rw [if_neg h1, if_neg h2]
  have e1 : (x + 8388608) % 8388608 = x % 8388608 := by omega
  have e2 : (x + 8388608) / 8388608 - 1 = (x / 8388608 - 1) + 1 := by omega
  rw [e1, e2, Nat.pow_succ, ← Nat.mul_assoc]; omega

/-- the middle of two words -/
def mid (x y : Nat) : Nat := rung (mag (rung (mag x + mag y) (-149))) (-150)
theorem mid_le {x y : Nat} (h0 : 8388608 ≤ x) (h : x ≤ y) (hy : y < 2130706432) : x ≤ mid x y ∧ mid x y ≤ y ∧ FV .f32 .quo (FV .f32 .add (some x) (some y)) (some 1073741824) = some (mid x y) := by
  have hm := (mag_le (x := x) (y := y) (by omega) (by omega)).2 h
  have fin : ∀ z, 8388608 ≤ z → z < 2130706432 → rung (2 * mag z) (-149) = z + 8388608 ∧ rung (mag (z + 8388608)) (-150) = z := by
    intro z hz0 hz
    have e := mag_double hz0
    constructor
    · rw [← e, rung_mag (by omega)]
    · rw [e]
      have := rung_shift (mag z) 1 (-149)
      rw [Nat.pow_one, Nat.mul_comm] at this
      rw [show (-149 : Int) - ((1 : Nat) : Int) = -150 by decide] at this
      rw [this, rung_mag (by omega)]
  obtain ⟨a1, a2⟩ := fin x h0 (by omega)
  obtain ⟨b1, b2⟩ := fin y (by omega) hy
  have l1 : x + 8388608 ≤ rung (mag x + mag y) (-149) := by rw [← a1]; exact rung_mono _ (by omega)
  have l2 : rung (mag x + mag y) (-149) ≤ y + 8388608 := by rw [← b1]; exact rung_mono _ (by omega)
  refine ⟨?_, ?_, ?_⟩
  · unfold mid
    conv => lhs; rw [← a2]
    exact rung_mono _ ((mag_le (by omega) (by omega)).2 l1)
  · unfold mid
    conv => rhs; rw [← b2]
    exact rung_mono _ ((mag_le (by omega) (by omega)).2 l2)
  · rw [add_pos (by omega) (by omega), half_pos (by omega)]; rfl

theorem order_pos {x y : Nat} (hx : x < 2139095040) (hy : y < 2139095040) : FloatKind.f32.format.order x y = some (compare x y) := by
  obtain ⟨m, p, hr, hp, hm⟩ := read_pos hx
  obtain ⟨n, q, hs, hq, hn⟩ := read_pos hy
  rw [f_order, hr, hs]
  unfold Ieee.Datum.order
  simp only [Ieee.signed, Bool.false_eq_true, if_false, Nat.shiftLeft_eq, Option.some.injEq]
  generalize hb : min p q = b
  have k1 := pow_shift m (b := b) (p := p) (by omega) (by omega)
  have k2 := pow_shift n (b := b) (p := q) (by omega) (by omega)
  rw [hm] at k1; rw [hn] at k2
  have hpos := Nat.two_pow_pos (b + 149).toNat
  generalize m * 2 ^ (p - b).toNat = u at *
  generalize n * 2 ^ (q - b).toNat = v at *
  generalize 2 ^ (b + 149).toNat = g at *
  have hlt := mag_lt (x := x) (y := y) (by omega) (by omega)
  have hgt := mag_lt (x := y) (y := x) (by omega) (by omega)
  rw [← k1, ← k2, Nat.mul_lt_mul_right hpos] at hlt hgt
  rcases Nat.lt_trichotomy x y with h | h | h
  · have : u < v := hlt.2 h
    rw [Nat.compare_eq_lt.2 h]
    exact Int.compare_eq_lt.2 (by omega)
  · have h1 : ¬ u < v := fun e => by have := hlt.1 e; omega
    have h2 : ¬ v < u := fun e => by have := hgt.1 e; omega
    rw [Nat.compare_eq_eq.2 h]
    exact Int.compare_eq_eq.2 (by omega)
  · have : v < u := hgt.2 h
    rw [Nat.compare_eq_gt.2 h]
    exact Int.compare_eq_gt.2 (by omega)
theorem flt_pos {x y : Nat} (hx : x < 2139095040) (hy : y < 2139095040) : flt .f32 x y = decide (x < y) := by
  unfold flt; rw [order_pos hx hy]
  rcases Nat.lt_trichotomy x y with h | h | h
  · rw [Nat.compare_eq_lt.2 h]; simp [h]
  · rw [Nat.compare_eq_eq.2 h]; simp [h]
  · rw [Nat.compare_eq_gt.2 h]; simp; omega
theorem fle_pos {x y : Nat} (hx : x < 2139095040) (hy : y < 2139095040) : fle .f32 x y = decide (x ≤ y) := by
  unfold fle; rw [order_pos hx hy]
  rcases Nat.lt_trichotomy x y with h | h | h
  · rw [Nat.compare_eq_lt.2 h]; simp; omega
  · rw [Nat.compare_eq_eq.2 h]; simp [h]
  · rw [Nat.compare_eq_gt.2 h]; simp; omega
theorem fge_pos {x y : Nat} (hx : x < 2139095040) (hy : y < 2139095040) : fge .f32 x y = decide (y ≤ x) := by
  unfold fge; rw [order_pos hx hy]
  rcases Nat.lt_trichotomy x y with h | h | h
  · rw [Nat.compare_eq_lt.2 h]; simp; omega
  · rw [Nat.compare_eq_eq.2 h]; simp [h]
  · rw [Nat.compare_eq_gt.2 h]; simp; omega
theorem fgt_pos {x y : Nat} (hx : x < 2139095040) (hy : y < 2139095040) : fgt .f32 x y = decide (y < x) := by
  unfold fgt; rw [order_pos hx hy]
  rcases Nat.lt_trichotomy x y with h | h | h
  · rw [Nat.compare_eq_lt.2 h]; simp; omega
  · rw [Nat.compare_eq_eq.2 h]; simp [h]
  · rw [Nat.compare_eq_gt.2 h]; simp [h]
end Go.Proofs.Ytjgpnbchnenbeaa
