/- Rounding errors of points: dots, balance at a point, with two places. Plain arithmetic over the rationals. -/
import Derived.Test.YtjgpnbchnenbeaaF5
namespace Go.Proofs.Ytjgpnbchnenbeaa
set_option linter.unusedSimpArgs false
set_option linter.unusedVariables false

/-! ### The size of a rational -/
def aab (x : Rat) : Rat := if 0 ≤ x then x else -x
theorem aab_nn (x : Rat) : 0 ≤ aab x := by unfold aab; split <;> grind
theorem aab_up (x : Rat) : x ≤ aab x := by unfold aab; split <;> grind
theorem aab_dn (x : Rat) : -aab x ≤ x := by unfold aab; split <;> grind
theorem aab_le {x M : Rat} (h1 : -M ≤ x) (h2 : x ≤ M) : aab x ≤ M := by unfold aab; split <;> grind
theorem aab_add (x y : Rat) : aab (x + y) ≤ aab x + aab y := by
  have := aab_up x; have := aab_up y; have := aab_dn x; have := aab_dn y
  exact aab_le (by grind) (by grind)
theorem aab_sub (x y : Rat) : aab (x - y) ≤ aab x + aab y := by
  have := aab_up x; have := aab_up y; have := aab_dn x; have := aab_dn y
  exact aab_le (by grind) (by grind)
theorem aab_neg (x : Rat) : aab (-x) = aab x := by unfold aab; split <;> split <;> grind
theorem mul_nn {a b : Rat} (ha : 0 ≤ a) (hb : 0 ≤ b) : 0 ≤ a * b := Rat.mul_nonneg ha hb
theorem sq_nn (x : Rat) : 0 ≤ x * x := by
  rcases (Rat.le_total : 0 ≤ x ∨ x ≤ 0) with h | h
  · exact mul_nn h h
  · have := mul_nn (a := -x) (b := -x) (by grind) (by grind); grind
theorem aab_sq (x : Rat) : aab x * aab x = x * x := by unfold aab; split <;> grind
theorem aab_mul (x y : Rat) : aab (x * y) = aab x * aab y := by
  unfold aab
  by_cases h1 : 0 ≤ x
  · rw [if_pos h1]
    by_cases h2 : 0 ≤ y
    · rw [if_pos h2, if_pos (mul_nn h1 h2)]
    · rw [if_neg h2]
      have := mul_nn (a := x) (b := -y) h1 (by grind)
      split
      · grind
      · grind
  · rw [if_neg h1]
    by_cases h2 : 0 ≤ y
    · rw [if_pos h2]
      have := mul_nn (a := -x) (b := y) (by grind) h2
      split
      · grind
      · grind
    · rw [if_neg h2]
      have := mul_nn (a := -x) (b := -y) (by grind) (by grind)
      rw [if_pos (by grind)]; grind
theorem sq_le {a b : Rat} (ha : 0 ≤ a) (h : a ≤ b) : a * a ≤ b * b := by
  have h1 := Rat.mul_le_mul_of_nonneg_left h ha
  have h2 := Rat.mul_le_mul_of_nonneg_right h (Rat.le_trans ha h)
  exact Rat.le_trans h1 h2
/-- a square of a sum of two -/
theorem sq2 (a b : Rat) : (a + b) * (a + b) ≤ 2 * (a * a) + 2 * (b * b) := by
  have := sq_nn (a - b); grind
theorem sq3 (a b c : Rat) : (a + b + c) * (a + b + c) ≤ 3 * (a * a) + 3 * (b * b) + 3 * (c * c) := by
  have := sq_nn (a - b); have := sq_nn (a - c); have := sq_nn (b - c); grind
/-- with a small part -/
theorem sq_part (a e : Rat) : (a + e) * (a + e) ≤ 4097 / 4096 * (a * a) + 4097 * (e * e) := by
  have := sq_nn (a - 4096 * e); grind

abbrev uu : Rat := 1 / 16777216
abbrev tn : Rat := 1 / 1267650600228229401496703205376

/-- |z - v| ≤ e -/
def Near (z v e : Rat) : Prop := v - e ≤ z ∧ z ≤ v + e
theorem Near.ab {z v e : Rat} (h : Near z v e) : aab (z - v) ≤ e := aab_le (by have := h.1; grind) (by have := h.2; grind)
theorem Near.size {z v e : Rat} (h : Near z v e) : aab z ≤ aab v + e := by
  have := aab_up v; have := aab_dn v
  exact aab_le (by have := h.1; grind) (by have := h.2; grind)
theorem Near.mono {z v e f : Rat} (h : Near z v e) (hf : e ≤ f) : Near z v f := ⟨by have := h.1; grind, by have := h.2; grind⟩

/-- a sum of two products, rounded three times -/
theorem dot_near {a b s x y : Rat} (h1 : Near a x (uu * aab x + tn)) (h2 : Near b y (uu * aab y + tn)) (h3 : Near s (a + b) (uu * aab (a + b) + tn)) :
    Near s (x + y) (3 * uu * (aab x + aab y) + 4 * tn) := by
  have k1 := h1.size
  have k2 := h2.size
  have k3 := aab_add a b
  have n1 := aab_nn x
  have n2 := aab_nn y
  obtain ⟨h1, h1'⟩ := h1
  obtain ⟨h2, h2'⟩ := h2
  obtain ⟨h3, h3'⟩ := h3
  generalize aab (a + b) = P at *
  generalize aab a = p at *
  generalize aab b = q at *
  generalize aab x = p' at *
  generalize aab y = q' at *
  constructor <;> grind
theorem cross_near {a b s x y : Rat} (h1 : Near a x (uu * aab x + tn)) (h2 : Near b y (uu * aab y + tn)) (h3 : Near s (a - b) (uu * aab (a - b) + tn)) :
    Near s (x - y) (3 * uu * (aab x + aab y) + 4 * tn) := by
  have k1 := h1.size
  have k2 := h2.size
  have k3 := aab_sub a b
  have n1 := aab_nn x
  have n2 := aab_nn y
  obtain ⟨h1, h1'⟩ := h1
  obtain ⟨h2, h2'⟩ := h2
  obtain ⟨h3, h3'⟩ := h3
  generalize aab (a - b) = P at *
  generalize aab a = p at *
  generalize aab b = q at *
  generalize aab x = p' at *
  generalize aab y = q' at *
  constructor <;> grind

/-! ### Balance at a point -/
/-- Cauchy -/
theorem cauchy (X Y A B : Rat) : (aab (X * A) + aab (Y * B)) * (aab (X * A) + aab (Y * B)) ≤ (X * X + Y * Y) * (A * A + B * B) := by
  rw [aab_mul, aab_mul, ← aab_sq X, ← aab_sq Y, ← aab_sq A, ← aab_sq B]
  have := sq_nn (aab X * aab B - aab Y * aab A)
  grind
theorem jbound {P T Q C D S q m J : Rat} (hP : 0 ≤ P) (hC : aab C ≤ P) (hD : Near D C (3 * uu * P + 4 * tn)) (hS : Near S T (3 * uu * T + 4 * tn)) (hT1 : T ≤ 201) (hT0 : 0 ≤ T) (hS0 : 1 / 1024 ≤ S)
    (hQ : Q * S = D) (hq : Near q Q (2 * (uu * aab Q + tn))) (hm : Near m (-q) (uu * aab q + tn)) (hJ : J = m * T + C) : aab J ≤ 12 * uu * P + 4000 * tn := by
  have n1 := aab_nn Q
  have qs : aab Q * S = aab D := by
    rw [← hQ, aab_mul]
    congr 1
    unfold aab; rw [if_pos (by grind)]
  have d1 := hD.size
  have d2 : aab D ≤ P + (3 * uu * P + 4 * tn) := by grind
  -- Q itself
  have q1 : aab Q * (1 / 1024) ≤ aab D := by rw [← qs]; exact Rat.mul_le_mul_of_nonneg_left hS0 n1
  -- Q T
  have t1 : T ≤ S + 4 * uu * S + 5 * tn := by have := hS.1; grind
  have qt : aab Q * T ≤ aab D + 4 * uu * aab D + 5 * tn * aab Q := by
    have := Rat.mul_le_mul_of_nonneg_left t1 n1
    have e : aab Q * (S + 4 * uu * S + 5 * tn) = aab Q * S + 4 * uu * (aab Q * S) + 5 * tn * aab Q := by grind
    rw [e, qs] at this; exact this
  have nqt := mul_nn n1 hT0
  -- the four errors
  have e1 := hD.ab
  have eS := hS.ab
  have e3 := hq.ab
  have e4 := hm.ab
  have sq := hq.size
  have e2 : aab (Q * (S - T)) ≤ 3 * uu * (aab Q * T) + 4 * tn * aab Q := by
    rw [aab_mul]
    have := Rat.mul_le_mul_of_nonneg_left eS n1
    have e : aab Q * (3 * uu * T + 4 * tn) = 3 * uu * (aab Q * T) + 4 * tn * aab Q := by grind
    rw [e] at this; exact this
  have e3' : aab ((q - Q) * T) ≤ 2 * uu * (aab Q * T) + 2 * tn * T := by
    rw [aab_mul]
    have hTT : aab T = T := by unfold aab; rw [if_pos hT0]
    rw [hTT]
    have := Rat.mul_le_mul_of_nonneg_right e3 hT0
    have e : 2 * (uu * aab Q + tn) * T = 2 * uu * (aab Q * T) + 2 * tn * T := by grind
    rw [e] at this; exact this
  have e4' : aab ((m - -q) * T) ≤ uu * (aab q * T) + tn * T := by
    rw [aab_mul]
    have hTT : aab T = T := by unfold aab; rw [if_pos hT0]
    rw [hTT]
    have := Rat.mul_le_mul_of_nonneg_right e4 hT0
    have e : (uu * aab q + tn) * T = uu * (aab q * T) + tn * T := by grind
    rw [e] at this; exact this
  have qT : aab q * T ≤ aab Q * T + (2 * uu * (aab Q * T) + 2 * tn * T) := by
    have := Rat.mul_le_mul_of_nonneg_right sq hT0
    have e : (aab Q + 2 * (uu * aab Q + tn)) * T = aab Q * T + (2 * uu * (aab Q * T) + 2 * tn * T) := by grind
    rw [e] at this; exact this
  have hJ2 : J = (m - -q) * T - (q - Q) * T + Q * (S - T) - (D - C) := by
    rw [hJ, ← hQ]; grind
  have j1 : aab J ≤ aab ((m - -q) * T) + aab ((q - Q) * T) + aab (Q * (S - T)) + aab (D - C) := by
    rw [hJ2]
    have a1 := aab_sub ((m - -q) * T - (q - Q) * T + Q * (S - T)) (D - C)
    have a2 := aab_add ((m - -q) * T - (q - Q) * T) (Q * (S - T))
    have a3 := aab_sub ((m - -q) * T) ((q - Q) * T)
    grind
  clear hJ2 hJ hq hm hQ hS hD qs t1
  generalize aab ((m - -q) * T) = E4 at *
  generalize aab ((q - Q) * T) = E3 at *
  generalize aab (Q * (S - T)) = E2 at *
  generalize aab (D - C) = E1 at *
  generalize aab q * T = qT' at *
  generalize aab Q * T = QT at *
  generalize aab Q = Qa at *
  generalize aab D = Da at *
  generalize aab J = Ja at *
  clear eS e3 e4 sq d1
  grind
end Go.Proofs.Ytjgpnbchnenbeaa
