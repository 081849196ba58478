/- Rounding: monotone, exact on words. For every format's use, shown for single precision. -/
import Derived.Test.YtjgpnbchnenbeaaDoorW
namespace Go.Proofs.YtjgpnbchnenbeaaDoor
set_option linter.unusedSimpArgs false
set_option linter.unusedVariables false
open Go

/-! ### To the nearest, ties to even, of n / 2^d -/
def rne (n d : Nat) : Nat := n / 2 ^ d + (decide (2 ^ d < 2 * (n % 2 ^ d)) || (decide (2 ^ d = 2 * (n % 2 ^ d)) && decide (n / 2 ^ d % 2 = 1))).toNat

theorem shl1 (k : Nat) : 1 <<< k = 2 ^ k := by rw [Nat.shiftLeft_eq, Nat.one_mul]
theorem cut_rne (neg : Bool) (n d : Nat) : Ieee.Toward.cut .even neg n d = rne n d := by
  unfold Ieee.Toward.cut rne
  simp only [shl1]
  by_cases h : d ≤ n.log2 + 2
  · rw [Nat.min_eq_left h]
    have e : (2 ^ d == 2 * (n % 2 ^ d)) = decide (2 ^ d = 2 * (n % 2 ^ d)) := by rfl
    have e2 : (n / 2 ^ d % 2 == 1) = decide (n / 2 ^ d % 2 = 1) := by rfl
    rw [e, e2]
  · have hl : n < 2 ^ (n.log2 + 1) := Nat.lt_log2_self
    have h1 : 2 ^ (n.log2 + 1) * 2 = 2 ^ (n.log2 + 2) := (Nat.pow_succ ..).symm
    have h2 : 2 ^ (n.log2 + 2) ≤ 2 ^ d := Nat.pow_le_pow_right (by decide) (by omega)
    rw [Nat.min_eq_right (by omega)]
    have a1 : n / 2 ^ (n.log2 + 2) = 0 := Nat.div_eq_of_lt (by omega)
    have a2 : n / 2 ^ d = 0 := Nat.div_eq_of_lt (by omega)
    have a3 : n % 2 ^ (n.log2 + 2) = n := Nat.mod_eq_of_lt (by omega)
    have a4 : n % 2 ^ d = n := Nat.mod_eq_of_lt (by omega)
    have b1 : ¬ 2 ^ (n.log2 + 2) < 2 * n := by omega
    have b2 : ¬ 2 ^ d < 2 * n := by omega
    simp [a1, a2, a3, a4, b1, b2]

theorem rne_le (n d : Nat) : rne n d ≤ n / 2 ^ d + 1 := by
  unfold rne; cases (decide (2 ^ d < 2 * (n % 2 ^ d)) || (decide (2 ^ d = 2 * (n % 2 ^ d)) && decide (n / 2 ^ d % 2 = 1))) <;> simp
theorem rne_ge (n d : Nat) : n / 2 ^ d ≤ rne n d := by unfold rne; omega
theorem rne_zero (n : Nat) : rne n 0 = n := by
  unfold rne
  have h : n % 2 ^ 0 = 0 := by rw [Nat.pow_zero, Nat.mod_one]
  rw [h]; simp
theorem rne_mono {n m : Nat} (d : Nat) (h : n ≤ m) : rne n d ≤ rne m d := by
  have hq : n / 2 ^ d ≤ m / 2 ^ d := Nat.div_le_div_right h
  rcases Nat.lt_or_ge (n / 2 ^ d) (m / 2 ^ d) with hl | hl
  · have := rne_le n d; have := rne_ge m d; omega
  · have he : n / 2 ^ d = m / 2 ^ d := by omega
    have h1 := Nat.div_add_mod n (2 ^ d); have h2 := Nat.div_add_mod m (2 ^ d)
    rw [he] at h1
    have hr : n % 2 ^ d ≤ m % 2 ^ d := by omega
    unfold rne
    rw [he]
    generalize n % 2 ^ d = r at *; generalize m % 2 ^ d = s at *; generalize 2 ^ d = g at *
    by_cases c1 : g < 2 * s
    · simp only [c1, decide_true, Bool.true_or, Bool.toNat_true]
      have := Bool.toNat_le (decide (g < 2 * r) || decide (g = 2 * r) && decide (m / g % 2 = 1))
      omega
    · have c2 : ¬ g < 2 * r := by omega
      by_cases c3 : g = 2 * r
      · have c4 : g = 2 * s := by omega
        simp [← c3, ← c4]
      · simp [c2, c3]
theorem rne_shift (n d k : Nat) : rne (n * 2 ^ k) (d + k) = rne n d := by
  have hk : 0 < 2 ^ k := Nat.two_pow_pos k
  have hd : n * 2 ^ k / 2 ^ (d + k) = n / 2 ^ d := by rw [Nat.pow_add, Nat.mul_div_mul_right _ _ hk]
  have hm : n * 2 ^ k % 2 ^ (d + k) = n % 2 ^ d * 2 ^ k := by rw [Nat.pow_add, Nat.mul_mod_mul_right]
  unfold rne
  rw [hd, hm, Nat.pow_add]
  have e1 : decide (2 ^ d * 2 ^ k < 2 * (n % 2 ^ d * 2 ^ k)) = decide (2 ^ d < 2 * (n % 2 ^ d)) := by
    rw [decide_eq_decide, ← Nat.mul_assoc, Nat.mul_lt_mul_right hk]
  have e2 : decide (2 ^ d * 2 ^ k = 2 * (n % 2 ^ d * 2 ^ k)) = decide (2 ^ d = 2 * (n % 2 ^ d)) := by
    rw [decide_eq_decide, ← Nat.mul_assoc]
    exact ⟨fun h => Nat.eq_of_mul_eq_mul_right hk h, fun h => congrArg (· * 2 ^ k) h⟩
  rw [e1, e2]

/-! ### The rung of a magnitude m * 2^p, in single precision -/
def lst (m : Nat) (p : Int) : Int := max (p + m.log2 - 23) (-149)
def kep (m : Nat) (p : Int) : Nat := rne (m * 2 ^ (p - lst m p).toNat) (lst m p - p).toNat
def rung (m : Nat) (p : Int) : Nat := if m = 0 then 0 else min ((lst m p + 149).toNat * 8388608 + kep m p) 2139095040
theorem near_rung (neg : Bool) (m : Nat) (p : Int) : Ieee.single.nearest neg m p = Ieee.single.word neg (rung m p) := by
  unfold Ieee.Format.nearest rung
  by_cases h : m = 0
  · rw [if_pos h, if_pos h]
  · rw [if_neg h, if_neg h]
    have h1 : Ieee.single.leastPlace = -149 := by decide
    have h2 : Ieee.single.binade = 8388608 := by decide
    have h3 : Ieee.single.infRung = 2139095040 := by decide
    have h4 : ((Ieee.single.fractionBits : Nat) : Int) = 23 := by decide
    simp only [h1, h2, h3, h4, cut_rne, Nat.shiftLeft_eq]
    unfold kep lst
    congr 2

theorem log2_mul (m k : Nat) (h : m ≠ 0) : (m * 2 ^ k).log2 = m.log2 + k := by
  have h0 : m * 2 ^ k ≠ 0 := Nat.mul_ne_zero h (by have := Nat.two_pow_pos k; omega)
  rw [Nat.log2_eq_iff h0]
  have h1 := (Nat.log2_eq_iff h).1 rfl
  constructor
  · rw [Nat.pow_add]; exact Nat.mul_le_mul_right _ h1.1
  · rw [show m.log2 + k + 1 = (m.log2 + 1) + k by omega, Nat.pow_add]
    exact Nat.mul_lt_mul_of_pos_right h1.2 (Nat.two_pow_pos k)
theorem rung_shift (m k : Nat) (p : Int) : rung (m * 2 ^ k) (p - k) = rung m p := by
  by_cases h : m = 0
  · subst h; simp [rung]
  · have h0 : m * 2 ^ k ≠ 0 := Nat.mul_ne_zero h (by have := Nat.two_pow_pos k; omega)
    have hl : lst (m * 2 ^ k) (p - k) = lst m p := by
      unfold lst; rw [log2_mul m k h]; congr 1; omega
    unfold rung
    rw [if_neg h, if_neg h0, hl]
    congr 2
    unfold kep
    rw [hl]
    generalize lst m p = l
    by_cases c1 : l ≤ p - k
    · have e1 : (l - (p - k)).toNat = 0 := by omega
      have e2 : (l - p).toNat = 0 := by omega
      rw [e1, e2, rne_zero, rne_zero, Nat.mul_assoc, ← Nat.pow_add]
      congr 2; omega
    · by_cases c2 : l ≤ p
      · have e2 : (l - p).toNat = 0 := by omega
        have e3 : (p - k - l).toNat = 0 := by omega
        rw [e2, e3, rne_zero, Nat.pow_zero, Nat.mul_one]
        have hk : k = (p - l).toNat + (l - (p - k)).toNat := by omega
        have := rne_shift (m * 2 ^ (p - l).toNat) 0 (l - (p - k)).toNat
        rw [rne_zero, Nat.zero_add, Nat.mul_assoc, ← Nat.pow_add, ← hk] at this
        exact this
      · have e2 : (p - l).toNat = 0 := by omega
        have e3 : (p - k - l).toNat = 0 := by omega
        rw [e2, e3, Nat.pow_zero, Nat.mul_one, Nat.mul_one]
        have hk : (l - (p - k)).toNat = (l - p).toNat + k := by omega
        rw [hk, rne_shift]

theorem lst_mono {m n : Nat} (p : Int) (h0 : m ≠ 0) (h : m ≤ n) : lst m p ≤ lst n p := by
  have hl : m.log2 ≤ n.log2 := by
    rw [Nat.le_log2 (by omega)]
    exact Nat.le_trans (Nat.log2_self_le h0) h
  unfold lst; omega
/-- what is kept has 24 digits at most, or is 2^24 -/
theorem kep_le {m : Nat} (p : Int) (h0 : m ≠ 0) : kep m p ≤ 16777216 := by
  have hl : m < 2 ^ (m.log2 + 1) := Nat.lt_log2_self
  unfold kep
  generalize hll : lst m p = l
  have hl1 : p + m.log2 - 23 ≤ l := by rw [← hll]; unfold lst; omega
  by_cases c : l ≤ p
  · have e : (l - p).toNat = 0 := by omega
    rw [e, rne_zero]
    have h1 : m * 2 ^ (p - l).toNat ≤ 2 ^ (m.log2 + 1) * 2 ^ (p - l).toNat := Nat.mul_le_mul_right _ (by omega)
    rw [← Nat.pow_add] at h1
    have h2 : 2 ^ (m.log2 + 1 + (p - l).toNat) ≤ 2 ^ 24 := Nat.pow_le_pow_right (by decide) (by omega)
    exact Nat.le_trans h1 h2
  · have e : (p - l).toNat = 0 := by omega
    rw [e, Nat.pow_zero, Nat.mul_one]
    have h1 := rne_le m (l - p).toNat
    have h2 : m / 2 ^ (l - p).toNat < 2 ^ 24 := by
      rw [Nat.div_lt_iff_lt_mul (Nat.two_pow_pos _), ← Nat.pow_add]
      exact Nat.lt_of_lt_of_le hl (Nat.pow_le_pow_right (by decide) (by omega))
    omega
theorem kep_ge {m : Nat} (p : Int) (h0 : m ≠ 0) (h : -149 < lst m p) : 8388608 ≤ kep m p := by
  have hl : 2 ^ m.log2 ≤ m := Nat.log2_self_le h0
  unfold kep
  generalize hll : lst m p = l
  have hl1 : p + m.log2 - 23 = l := by rw [hll] at h; rw [← hll]; unfold lst at *; omega
  by_cases c : l ≤ p
  · have e : (l - p).toNat = 0 := by omega
    rw [e, rne_zero]
    have h1 : 2 ^ m.log2 * 2 ^ (p - l).toNat ≤ m * 2 ^ (p - l).toNat := Nat.mul_le_mul_right _ hl
    rw [← Nat.pow_add] at h1
    have h2 : 2 ^ 23 ≤ 2 ^ (m.log2 + (p - l).toNat) := Nat.pow_le_pow_right (by decide) (by omega)
    exact Nat.le_trans h2 h1
  · have e : (p - l).toNat = 0 := by omega
    rw [e, Nat.pow_zero, Nat.mul_one]
    have h1 := rne_ge m (l - p).toNat
    have h2 : 2 ^ 23 ≤ m / 2 ^ (l - p).toNat := by
      rw [Nat.le_div_iff_mul_le (Nat.two_pow_pos _), ← Nat.pow_add]
      exact Nat.le_trans (Nat.pow_le_pow_right (by decide) (by omega)) hl
    omega
theorem rung_mono {m n : Nat} (p : Int) (h : m ≤ n) : rung m p ≤ rung n p := by
  by_cases h0 : m = 0
  · subst h0; simp [rung]
  · have hn : n ≠ 0 := by omega
    unfold rung
    rw [if_neg h0, if_neg hn]
    have hl := lst_mono p h0 h
    have key : (lst m p + 149).toNat * 8388608 + kep m p ≤ (lst n p + 149).toNat * 8388608 + kep n p := by
      by_cases he : lst m p = lst n p
      · rw [he]
        refine Nat.add_le_add_left ?_ _
        unfold kep
        rw [he]
        exact rne_mono _ (Nat.mul_le_mul_right _ h)
      · have h1 := kep_le p h0
        have hge : -149 ≤ lst m p := by unfold lst; omega
        have h2 := kep_ge p hn (by omega)
        have h3 : (lst m p + 149).toNat + 1 ≤ (lst n p + 149).toNat := by omega
        omega
    omega
/-- magnitudes at any places -/
theorem rung_le {m n : Nat} {p q b : Int} (hp : b ≤ p) (hq : b ≤ q) (h : m * 2 ^ (p - b).toNat ≤ n * 2 ^ (q - b).toNat) : rung m p ≤ rung n q := by
  have e1 := rung_shift m (p - b).toNat p
  have e2 := rung_shift n (q - b).toNat q
  have k1 : p - ((p - b).toNat : Int) = b := by omega
  have k2 : q - ((q - b).toNat : Int) = b := by omega
  rw [k1] at e1; rw [k2] at e2
  rw [← e1, ← e2]
  exact rung_mono b h
theorem rung_eq {m n : Nat} {p q b : Int} (hp : b ≤ p) (hq : b ≤ q) (h : m * 2 ^ (p - b).toNat = n * 2 ^ (q - b).toNat) : rung m p = rung n q :=
  Nat.le_antisymm (rung_le hp hq (by omega)) (rung_le hq hp (by omega))

/-! ### The magnitude of a rung in units of 2^-149 -/
def mag (r : Nat) : Nat := if r < 8388608 then r else (8388608 + r % 8388608) * 2 ^ (r / 8388608 - 1)
theorem rung_mag {r : Nat} (h : r ≤ 2139095040) : rung (mag r) (-149) = r := by
  unfold mag
  by_cases hr : r < 8388608
  · rw [if_pos hr]
    unfold rung
    by_cases h0 : r = 0
    · rw [if_pos h0, h0]
    · have hl : r.log2 < 23 := (Nat.log2_lt h0).2 hr
      have hlst : lst r (-149) = -149 := by unfold lst; omega
      rw [if_neg h0, hlst]
      unfold kep
      rw [hlst]
      have e : (-149 - -149 : Int).toNat = 0 := by decide
      have e2 : (-149 + 149 : Int).toNat = 0 := by decide
      rw [e, e2, rne_zero]
      omega
  · rw [if_neg hr]
    obtain ⟨e, f, he0, hf, h1, h2⟩ : ∃ e f, r / 8388608 = e ∧ r % 8388608 = f ∧ 8388608 * e + f = r ∧ f < 8388608 := ⟨_, _, rfl, rfl, Nat.div_add_mod r 8388608, Nat.mod_lt r (Nat.zero_lt_succ _)⟩
    rw [he0, hf]
    have he : 1 ≤ e := by omega
    obtain ⟨k, rfl⟩ : ∃ k, e = k + 1 := ⟨e - 1, by omega⟩
    clear he0 hr he
    rw [Nat.add_sub_cancel]
    have hf0 : 8388608 + f ≠ 0 := by omega
    have hlog : (8388608 + f).log2 = 23 := by
      rw [Nat.log2_eq_iff hf0]
      have : (2 : Nat) ^ 23 = 8388608 := by decide
      have : (2 : Nat) ^ (23 + 1) = 16777216 := by decide
      omega
    have hm0 : (8388608 + f) * 2 ^ k ≠ 0 := Nat.mul_ne_zero hf0 (by have := Nat.two_pow_pos k; omega)
    have hlst : lst ((8388608 + f) * 2 ^ k) (-149) = -149 + (k : Int) := by
      unfold lst
      rw [log2_mul _ _ hf0, hlog]
      omega
    unfold rung
    rw [if_neg hm0, hlst]
    unfold kep
    rw [hlst]
    have e1 : (-149 - (-149 + (k : Int))).toNat = 0 := by omega
    have e2 : (-149 + (k : Int) - -149).toNat = 0 + k := by omega
    have e3 : (-149 + (k : Int) + 149).toNat = k := by omega
    rw [e1, e2, e3, Nat.pow_zero, Nat.mul_one, rne_shift, rne_zero]
    have h3 : k * 8388608 + (8388608 + f) = r := by
      rw [← h1, Nat.mul_add, Nat.mul_one, Nat.mul_comm 8388608 k, Nat.add_assoc]
    rw [h3]
    exact Nat.min_eq_left h
end Go.Proofs.YtjgpnbchnenbeaaDoor
