/- Single precision over the rationals: quotients, the order, whole numbers. -/
import Derived.Test.YtjgpnbchnenbeaaF3
namespace Go.Proofs.Ytjgpnbchnenbeaa
set_option linter.unusedSimpArgs false
set_option linter.unusedVariables false
open Go

theorem p2_double (p : Int) : p2 (p + 1) = 2 * p2 p := by
  have h := p2_add p ((1 : Nat) : Int)
  rw [p2_nat] at h
  rw [show p + ((1 : Nat) : Int) = p + 1 by omega] at h
  rw [h]; grind
theorem p2_m1 : p2 (-1) = 1 / 2 := by
  have := p2_double (-1)
  rw [show (-1 + 1 : Int) = 0 by omega, p2_zero] at this
  grind
theorem cancel_le {a b c : Rat} (hc : 0 < c) (h : c * a ≤ c * b) : a ≤ b := by
  rcases (Rat.le_total : a ≤ b ∨ b ≤ a) with hh | hh
  · exact hh
  · rcases (Rat.le_total : c * b ≤ c * a ∨ c * a ≤ c * b) with h1 | h1
    · have e : c * (a - b) = 0 := by grind
      rcases Rat.mul_eq_zero.1 e with e | e
      · grind
      · grind
    · have h2 := Rat.mul_le_mul_of_nonneg_left hh (Rat.le_of_lt hc)
      have e : c * (a - b) = 0 := by grind
      rcases Rat.mul_eq_zero.1 e with e | e
      · grind
      · grind
theorem cancel_eq {a b c : Rat} (hc : 0 < c) (h : c * a = c * b) : a = b := by
  have e : c * (a - b) = 0 := by grind
  rcases Rat.mul_eq_zero.1 e with e | e
  · grind
  · grind

theorem lin_quo {a z q u p : Rat} (hu : u = 2 * p) (h1 : u ≤ 2 * z) (b1 : q ≤ a) (b2 : a ≤ q + u) (hp : 0 < p) : a - z ≤ q + p ∧ q + p ≤ a + z := by
  constructor <;> grind
theorem lin_err {a v z m t e25 e24 y : Rat} (h1 : a - z ≤ v) (h2 : v ≤ a + z) (hz : z ≤ m) (ht : t ≤ 3 * m) (w1 : v - (t + y) ≤ e25) (w2 : e25 ≤ v + (t + y)) (hy : 0 < y) (he : e24 = 2 * m) : a - 2 * (e24 + y) ≤ e25 ∧ e25 ≤ a + 2 * (e24 + y) := by
  constructor <;> grind
theorem sgn_flip (b : Bool) {V Z E : Rat} (h1 : (if b = true then -V else V) - E ≤ Z) (h2 : Z ≤ (if b = true then -V else V) + E) : V - E ≤ (if b = true then -Z else Z) ∧ (if b = true then -Z else Z) ≤ V + E := by
  cases b <;> simp only [Bool.false_eq_true, if_false, if_true] at * <;> constructor <;> grind
theorem sgn_back (b : Bool) {A Z E : Rat} (h : A - E ≤ (if b = true then -Z else Z) ∧ (if b = true then -Z else Z) ≤ A + E) : (if b = true then -A else A) - E ≤ Z ∧ Z ≤ (if b = true then -A else A) + E := by
  cases b <;> simp only [Bool.false_eq_true, if_false, if_true] at * <;> constructor <;> grind
theorem lin_three {a b c : Rat} (h : a = 2 * c) (h2 : b ≤ c) : a + b ≤ 3 * c := by grind
theorem quo_mag {m n : Nat} {i j : Int} (hn : n ≠ 0) (hm : m.log2 ≤ 23) {aQ : Rat} (hQ : aQ * nv n j = nv m i) :
    let more := 25 + n.log2 - m.log2
    let A := 2 * ((m <<< more) / n) + ((m <<< more) % n != 0).toNat
    aQ - p2 (-25) * aQ ≤ nv A (i - j - more - 1) ∧ nv A (i - j - more - 1) ≤ aQ + p2 (-25) * aQ := by
  intro more A
  have hmore : more = 25 + n.log2 - m.log2 := rfl
  have hA : A = 2 * ((m <<< more) / n) + ((m <<< more) % n != 0).toNat := rfl
  rw [Nat.shiftLeft_eq] at hA
  have hd := Nat.div_add_mod (m * 2 ^ more) n
  have hl := Nat.mod_lt (m * 2 ^ more) (Nat.pos_of_ne_zero hn)
  have hq24 : m ≠ 0 → 16777216 ≤ m * 2 ^ more / n := by
    intro h0
    rw [Nat.le_div_iff_mul_le (Nat.pos_of_ne_zero hn)]
    have h1 := Nat.log2_self_le h0
    have h2 : n < 2 ^ (n.log2 + 1) := Nat.lt_log2_self
    have h3 : 2 ^ m.log2 * 2 ^ more ≤ m * 2 ^ more := Nat.mul_le_mul_right _ h1
    rw [← Nat.pow_add, show m.log2 + more = 24 + (n.log2 + 1) by omega, Nat.pow_add] at h3
    have h4 : 2 ^ 24 * n ≤ 2 ^ 24 * 2 ^ (n.log2 + 1) := Nat.mul_le_mul_left _ (by omega)
    have h5 : (2 : Nat) ^ 24 = 16777216 := by decide
    rw [h5] at h3 h4
    omega
  have hm0 : m = 0 → m * 2 ^ more / n = 0 ∧ m * 2 ^ more % n = 0 := by
    intro h0; subst h0; simp
  generalize m * 2 ^ more / n = q at *
  generalize m * 2 ^ more % n = r at *
  generalize hU : p2 (i - j - more) = U
  have hUp : 0 < U := by rw [← hU]; exact p2_pos _
  have eU : U = 2 * p2 (i - j - more - 1) := by rw [← hU, ← p2_double]; congr 1; omega
  -- the equation of the division, over the rationals
  have e1 : aQ * n = (n : Rat) * (q * U) + r * U := by
    have h1 : (m : Rat) * p2 (more : Int) = n * q + r := by
      rw [p2_nat, ← cast_mul, ← hd, cast_add, cast_mul]
    have h2 : p2 i = p2 (more : Int) * (p2 j * U) := by
      rw [← hU, ← p2_add, ← p2_add]; congr 1; omega
    unfold nv at hQ
    rw [h2] at hQ
    have h3 : p2 j * (aQ * n) = p2 j * ((n : Rat) * (q * U) + r * U) := by
      have : p2 j * ((n : Rat) * (q * U) + r * U) = (n * q + r) * (p2 j * U) := by grind
      rw [this, ← h1]; grind
    exact cancel_eq (p2_pos j) h3
  have hnp : (0 : Rat) < n := by
    have := cast_le (Nat.pos_of_ne_zero hn)
    have h1 : ((Nat.succ 0 : Nat) : Rat) = 1 := rfl
    rw [h1] at this
    grind
  have hr0 : (0 : Rat) ≤ r := cast_nonneg r
  have hrn : (r : Rat) ≤ n := cast_le (Nat.le_of_lt hl)
  have eA : nv A (i - j - more - 1) = q * U + (if r = 0 then 0 else p2 (i - j - more - 1)) := by
    rw [hA]
    unfold nv
    rw [cast_add, cast_mul, eU]
    by_cases h0 : r = 0
    · rw [if_pos h0, h0]; simp only [bne_self_eq_false, Bool.toNat_false]; have h2 : ((2 : Nat) : Rat) = 2 := rfl; have h0 : ((0 : Nat) : Rat) = 0 := rfl; rw [h2, h0]; generalize (q : Rat) = qq; generalize p2 (i - j - more - 1) = P; grind
    · have : ((r != 0).toNat : Nat) = 1 := by
        have : (r != 0) = true := by simpa using h0
        rw [this]; rfl
      rw [this, if_neg h0]
      have : ((2 : Nat) : Rat) = 2 := rfl
      have : ((1 : Nat) : Rat) = 1 := rfl
      grind
  have p0 := p2_pos (i - j - more - 1)
  generalize p2 (i - j - more - 1) = P at *
  have hrU := Rat.mul_nonneg hr0 (Rat.le_of_lt hUp)
  have hrnU := Rat.mul_le_mul_of_nonneg_right hrn (Rat.le_of_lt hUp)
  -- U is small beside aQ
  have hsm : m ≠ 0 → U ≤ p2 (-24) * aQ := by
    intro h0
    have h1 := cast_le (hq24 h0)
    have h2 := Rat.mul_le_mul_of_nonneg_right h1 (Rat.le_of_lt hUp)
    have h3 : (n : Rat) * (q * U) ≤ n * aQ := by grind
    have h4 := cancel_le hnp h3
    have h5 : p2 (-24) * ((16777216 : Nat) : Rat) = 1 := by
      have : ((16777216 : Nat) : Rat) = p2 ((24 : Nat) : Int) := by rw [p2_nat]
      rw [this, ← p2_add]; exact p2_zero
    have h6 := Rat.mul_le_mul_of_nonneg_left (Rat.le_trans h2 h4) (Rat.le_of_lt (p2_pos (-24)))
    have h7 : p2 (-24) * (((16777216 : Nat) : Rat) * U) = U := by rw [← Rat.mul_assoc, h5, Rat.one_mul]
    rw [h7] at h6
    exact h6
  have e25 : p2 (-24) = 2 * p2 (-25) := by rw [← p2_double]; congr 1
  rw [eA]
  by_cases h0 : r = 0
  · rw [if_pos h0]
    subst h0
    have e2 : (n : Rat) * aQ = n * (q * U) := by
      have : ((0 : Nat) : Rat) = 0 := rfl
      rw [this] at e1; grind
    have e3 := cancel_eq hnp e2
    have h25 : 0 ≤ p2 (-25) * aQ := by
      rw [e3]
      exact Rat.mul_nonneg (Rat.le_of_lt (p2_pos _)) (Rat.mul_nonneg (cast_nonneg q) (Rat.le_of_lt hUp))
    constructor <;> grind
  · rw [if_neg h0]
    have hm1 : m ≠ 0 := fun e => h0 (hm0 e).2
    have h1 := hsm hm1
    have a1 : (n : Rat) * (q * U) ≤ n * aQ := by grind
    have a2 : (n : Rat) * aQ ≤ n * (q * U + U) := by grind
    have b1 := cancel_le hnp a1
    have b2 := cancel_le hnp a2
    rw [e25, Rat.mul_assoc] at h1
    exact lin_quo eU h1 b1 b2 p0

theorem quo_err {x y : Nat} {M Q : Rat} (hx : FinW x) (hy : FinW y) (h0 : val y ≠ 0) (hQ : Q * val y = val x) (h1 : -M ≤ Q) (h2 : Q ≤ M) (hM : M ≤ p2 99) :
    ∃ z, FV .f32 .quo (some x) (some y) = some z ∧ Nr z Q (2 * ep M) := by
  obtain ⟨s, m, p, hr, hp, hvx, _⟩ := read_val hx
  obtain ⟨t, n, q, hs, hq, hvy, _⟩ := read_val hy
  have hn : n ≠ 0 := by
    intro e
    subst e
    apply h0
    rw [hvy]
    have : nv 0 q = 0 := by unfold nv; simp
    rw [this]; split <;> grind
  have hlog := read_log hr
  rw [fv_quo, hr, hs, quot_num 25 s t m n p q hn]
  simp only [Option.map_some, Option.some.injEq, exists_eq_left']
  have hm := nv_nonneg m p
  have hnp : 0 < nv n q := by
    unfold nv
    refine Rat.mul_pos ?_ (p2_pos q)
    have := cast_le (Nat.pos_of_ne_zero hn)
    have h1 : ((Nat.succ 0 : Nat) : Rat) = 1 := rfl
    rw [h1] at this
    grind
  obtain ⟨aQ, haQ, hsg⟩ : ∃ aQ : Rat, aQ * nv n q = nv m p ∧ Q = if (s ^^ t) = true then -aQ else aQ := by
    rw [hvx, hvy] at hQ
    cases s <;> cases t
    · exact ⟨Q, by simpa using hQ, rfl⟩
    · refine ⟨-Q, ?_, by simp⟩
      simp at hQ; grind
    · refine ⟨-Q, ?_, by simp⟩
      simp at hQ; grind
    · refine ⟨Q, ?_, rfl⟩
      simp at hQ; grind
  have ha0 : 0 ≤ aQ := by
    refine cancel_le hnp ?_
    rw [Rat.mul_zero, Rat.mul_comm, haQ]; exact hm
  have haM : aQ ≤ M := by rw [hsg] at h1 h2; revert h1 h2; split <;> grind
  obtain ⟨b1, b2⟩ := quo_mag (i := p) (j := q) hn hlog haQ
  generalize hV : nv (2 * ((m <<< (25 + n.log2 - m.log2)) / n) + ((m <<< (25 + n.log2 - m.log2)) % n != 0).toNat) (p - q - ((25 + n.log2 - m.log2 : Nat) : Int) - 1) = V at b1 b2
  have e25 : p2 (-24) = 2 * p2 (-25) := by rw [← p2_double]; congr 1
  have e25b : p2 (-25) ≤ 1 := by have := p2_le (p := -25) (q := 0) (by omega); rw [p2_zero] at this; exact this
  have h25 : p2 (-25) * aQ ≤ p2 (-25) * M := Rat.mul_le_mul_of_nonneg_left haM (Rat.le_of_lt (p2_pos _))
  have hM0 : 0 ≤ M := Rat.le_trans ha0 haM
  have h25M : p2 (-25) * M ≤ M := by
    have := Rat.mul_le_mul_of_nonneg_right e25b hM0
    rwa [Rat.one_mul] at this
  have h100 : M + p2 (-25) * M ≤ p2 100 := by
    have : p2 100 = 2 * p2 99 := by rw [← p2_double]; congr 1
    grind
  obtain ⟨w1, w2, w3⟩ := write_err (s ^^ t) (2 * ((m <<< (25 + n.log2 - m.log2)) / n) + ((m <<< (25 + n.log2 - m.log2)) % n != 0).toNat) (p - q - ((25 + n.log2 - m.log2 : Nat) : Int) - 1) (M := M + p2 (-25) * M) (by rw [hV]; grind) h100
  rw [hV] at w2 w3
  have h7 : p2 (-24) * (M + p2 (-25) * M) ≤ 3 * (p2 (-25) * M) := by
    have h8 : p2 (-24) * (p2 (-25) * M) ≤ p2 (-25) * M := by
      have h9 : p2 (-24) ≤ 1 := by have := p2_le (p := -24) (q := 0) (by omega); rw [p2_zero] at this; exact this
      have := Rat.mul_le_mul_of_nonneg_right h9 (Rat.mul_nonneg (Rat.le_of_lt (p2_pos (-25))) hM0)
      rwa [Rat.one_mul] at this
    rw [Rat.mul_add]
    exact lin_three (by rw [e25, Rat.mul_assoc]) h8
  have hp150 := p2_pos (-150)
  have e24M : p2 (-24) * M = 2 * (p2 (-25) * M) := by rw [e25, Rat.mul_assoc]
  have w5 := lin_err b1 b2 h25 h7 (sgn_flip _ w2 w3).1 (sgn_flip _ w2 w3).2 hp150 e24M
  unfold Nr ep
  rw [hsg]
  exact ⟨w1, sgn_back _ w5⟩
end Go.Proofs.Ytjgpnbchnenbeaa
