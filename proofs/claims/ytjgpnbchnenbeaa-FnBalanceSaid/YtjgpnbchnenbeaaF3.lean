/- Single precision over the rationals: how far a rounded sum, product or quotient is off. -/
import Derived.Test.YtjgpnbchnenbeaaF2
namespace Go.Proofs.Ytjgpnbchnenbeaa
set_option linter.unusedSimpArgs false
set_option linter.unusedVariables false
open Go

/-! ### Powers of two -/
def p2 (p : Int) : Rat := (2 : Rat) ^ p
theorem p2_pos (p : Int) : 0 < p2 p := Rat.zpow_pos (by decide)
theorem p2_add (p q : Int) : p2 (p + q) = p2 p * p2 q := Rat.zpow_add (by decide) p q
theorem p2_nat (n : Nat) : p2 (n : Int) = ((2 ^ n : Nat) : Rat) := by
  unfold p2; rw [Rat.zpow_natCast]
  induction n with
  | zero => rfl
  | succ n ih => rw [Rat.pow_succ, ih, Nat.pow_succ]; simp
theorem p2_zero : p2 0 = 1 := by rw [show (0 : Int) = ((0 : Nat) : Int) from rfl, p2_nat]; rfl
theorem cast_mul (m n : Nat) : ((m * n : Nat) : Rat) = (m : Rat) * n := by simp
theorem cast_add (m n : Nat) : ((m + n : Nat) : Rat) = (m : Rat) + n := by simp
theorem cast_le {m n : Nat} (h : m ≤ n) : (m : Rat) ≤ n := by
  have : ((m : Int) : Rat) ≤ ((n : Int) : Rat) := Rat.intCast_le_intCast.2 (by omega)
  exact this
theorem cast_nonneg (n : Nat) : (0 : Rat) ≤ n := by
  have := cast_le (Nat.zero_le n); exact this
theorem p2_le {p q : Int} (h : p ≤ q) : p2 p ≤ p2 q := by
  have e : p2 q = p2 p * p2 ((q - p).toNat : Int) := by rw [← p2_add]; congr 1; omega
  have h1 : (1 : Rat) ≤ p2 ((q - p).toNat : Int) := by
    rw [p2_nat]
    have := cast_le (Nat.two_pow_pos (q - p).toNat)
    exact this
  have h2 := Rat.mul_le_mul_of_nonneg_left h1 (Rat.le_of_lt (p2_pos p))
  rw [e]; rw [Rat.mul_one] at h2; exact h2

/-- m * 2^p -/
def nv (m : Nat) (p : Int) : Rat := (m : Rat) * p2 p
theorem nv_nonneg (m : Nat) (p : Int) : 0 ≤ nv m p := Rat.mul_nonneg (cast_nonneg m) (Rat.le_of_lt (p2_pos p))
theorem nv_shift (m k : Nat) (p : Int) : nv (m * 2 ^ k) p = nv m (p + k) := by
  unfold nv
  rw [cast_mul, ← p2_nat, p2_add, Rat.mul_assoc, Rat.mul_comm (p2 (k : Int))]
theorem nv_add (m n : Nat) (p : Int) : nv (m + n) p = nv m p + nv n p := by unfold nv; rw [cast_add, Rat.add_mul]
theorem nv_mul (m n : Nat) (p q : Int) : nv (m * n) (p + q) = nv m p * nv n q := by
  unfold nv; rw [cast_mul, p2_add]; grind
theorem nv_le {m n : Nat} (p : Int) (h : m ≤ n) : nv m p ≤ nv n p := Rat.mul_le_mul_of_nonneg_right (cast_le h) (Rat.le_of_lt (p2_pos p))

/-! ### What is kept -/
theorem rne_err (n d : Nat) : 2 * n ≤ 2 * (rne n d * 2 ^ d) + 2 ^ d ∧ 2 * (rne n d * 2 ^ d) ≤ 2 * n + 2 ^ d := by
  have h := Nat.div_add_mod n (2 ^ d)
  have hp := Nat.two_pow_pos d
  have hl := Nat.mod_lt n hp
  unfold rne
  generalize hq : n / 2 ^ d = q at *
  generalize hr : n % 2 ^ d = r at *
  generalize 2 ^ d = g at *
  have e : g * q = q * g := Nat.mul_comm _ _
  rw [e] at h
  by_cases c1 : g < 2 * r
  · simp only [c1, decide_true, Bool.true_or, Bool.toNat_true, Nat.add_mul, Nat.one_mul]
    omega
  · by_cases c2 : g = 2 * r
    · by_cases c3 : q % 2 = 1
      · simp only [c1, c3, decide_false, Bool.false_or, decide_true, Bool.and_true, Nat.add_mul, decide_eq_true c2, Bool.toNat_true, Nat.one_mul]
        omega
      · simp only [c1, c3, decide_false, Bool.false_or, Bool.and_false, Bool.toNat_false, Nat.add_zero]
        omega
    · simp only [c1, decide_false, Bool.false_or, decide_eq_false c2, Bool.false_and, Bool.toNat_false, Nat.add_zero]
      omega

/-- the value of a word that is not negative -/
def qv (r : Nat) : Rat := nv (mag r) (-149)
theorem qv_zero : qv 0 = 0 := by unfold qv nv; rw [mag_zero]; grind
theorem qv_nonneg (r : Nat) : 0 ≤ qv r := nv_nonneg _ _

theorem kep_err (m : Nat) (p : Int) : nv m p - p2 (lst m p - 1) ≤ nv (kep m p) (lst m p) ∧ nv (kep m p) (lst m p) ≤ nv m p + p2 (lst m p - 1) := by
  unfold kep
  generalize lst m p = l
  by_cases c : l ≤ p
  · have e : (l - p).toNat = 0 := by omega
    rw [e, rne_zero, nv_shift]
    have e2 : l + ((p - l).toNat : Int) = p := by omega
    rw [e2]
    have := Rat.le_of_lt (p2_pos (l - 1))
    constructor <;> grind
  · have e : (p - l).toNat = 0 := by omega
    rw [e, Nat.pow_zero, Nat.mul_one]
    obtain ⟨h1, h2⟩ := rne_err m (l - p).toNat
    have e2 : p + ((l - p).toNat : Int) = l := by omega
    have k : ∀ a : Nat, nv (2 * a) p = 2 * nv a p := fun a => by unfold nv; rw [cast_mul]; grind
    have h3 := nv_le p h1
    have h4 := nv_le p h2
    rw [nv_add, k, k, nv_shift, e2] at h3 h4
    have e5 : nv (2 ^ (l - p).toNat) p = p2 l := by
      have := nv_shift 1 (l - p).toNat p
      rw [Nat.one_mul] at this
      rw [this, e2]; unfold nv; grind
    have e6 : p2 l = 2 * p2 (l - 1) := by
      have h := p2_add (l - 1) ((1 : Nat) : Int)
      rw [p2_nat] at h
      rw [show l - 1 + ((1 : Nat) : Int) = l by omega] at h
      rw [h]; grind
    rw [e5, e6] at h3 h4
    constructor <;> grind

theorem lst_bound {m : Nat} (p : Int) (h : m ≠ 0) : p2 (lst m p - 1) ≤ p2 (-24) * nv m p + p2 (-150) := by
  have h1 := Nat.log2_self_le h
  have h2 : p2 (p + m.log2) ≤ nv m p := by
    have := nv_le p h1
    have e := nv_shift 1 m.log2 p
    rw [Nat.one_mul] at e
    rw [e] at this
    have e2 : nv 1 (p + m.log2) = p2 (p + m.log2) := by unfold nv; grind
    rw [e2] at this; exact this
  have h3 := Rat.mul_le_mul_of_nonneg_left h2 (Rat.le_of_lt (p2_pos (-24)))
  rw [← p2_add] at h3
  have h0 := Rat.mul_nonneg (Rat.le_of_lt (p2_pos (-24))) (nv_nonneg m p)
  have h5 := Rat.le_of_lt (p2_pos (-150))
  unfold lst
  rcases Int.le_total (p + m.log2 - 23) (-149) with hc | hc
  · rw [Int.max_eq_right hc]
    have : p2 (-149 - 1) = p2 (-150) := by congr 1
    rw [this]; grind
  · rw [Int.max_eq_left hc]
    have : p2 (p + m.log2 - 23 - 1) = p2 (-24 + (p + m.log2)) := by congr 1; omega
    rw [this]; grind

/-- a rounded magnitude below 2^100: the value of the word -/
theorem rung_val (m : Nat) (p : Int) (h : m ≠ 0) (hv : nv m p ≤ p2 100) : rung m p < 2139095040 ∧ qv (rung m p) = nv (kep m p) (lst m p) := by
  have hk := kep_le p h
  have hg := kep_ge p h
  have hlo : -149 ≤ lst m p := by unfold lst; omega
  have hl100 : lst m p ≤ 77 := by
    have h1 := Nat.log2_self_le h
    have h2 : p2 (p + m.log2) ≤ p2 100 := by
      have := nv_le p h1
      have e := nv_shift 1 m.log2 p
      rw [Nat.one_mul] at e
      rw [e] at this
      have e2 : nv 1 (p + m.log2) = p2 (p + m.log2) := by unfold nv; grind
      rw [e2] at this; exact Rat.le_trans this hv
    have h3 : p + m.log2 ≤ 100 := by
      rcases Int.lt_or_le 100 (p + m.log2) with hc | hc
      · exfalso
        have h4 : p2 101 ≤ p2 (p + m.log2) := p2_le (by omega)
        have h6 := Rat.le_trans h4 h2
        have h7 : p2 101 = 2 * p2 100 := by
          have := p2_add 100 ((1 : Nat) : Int)
          rw [p2_nat] at this
          rw [show (100 : Int) + ((1 : Nat) : Int) = 101 by omega] at this
          rw [this]; grind
        have h8 := p2_pos 100
        grind
      · exact hc
    unfold lst; omega
  have hr : rung m p = (lst m p + 149).toNat * 8388608 + kep m p := by
    unfold rung; rw [if_neg h]
    exact Nat.min_eq_left (by omega)
  have hlt : rung m p < 2139095040 := by rw [hr]; omega
  refine ⟨hlt, ?_⟩
  unfold qv
  obtain ⟨k, hkk⟩ : ∃ k : Nat, lst m p = -149 + (k : Int) := ⟨(lst m p + 149).toNat, by omega⟩
  have e0 : (lst m p + 149).toNat = k := by omega
  rw [hr, e0, hkk, ← nv_shift]
  congr 1
  unfold mag
  by_cases c : kep m p < 8388608
  · have hk0 : k = 0 := by
      rcases Nat.eq_zero_or_pos k with h0 | h0
      · exact h0
      · have := hg (by omega); omega
    subst hk0
    rw [if_pos (by omega)]; simp
  · rw [if_neg (by omega)]
    by_cases c2 : kep m p = 16777216
    · rw [c2]
      have e1 : (k * 8388608 + 16777216) % 8388608 = 0 := by omega
      have e2 : (k * 8388608 + 16777216) / 8388608 - 1 = k + 1 := by omega
      rw [e1, e2, Nat.pow_succ]; omega
    · have e1 : 8388608 + (k * 8388608 + kep m p) % 8388608 = kep m p := by omega
      have e2 : (k * 8388608 + kep m p) / 8388608 - 1 = k := by omega
      rw [e1, e2]
/-- a rounded magnitude below 2^100: a finite word, near -/
theorem rung_err (m : Nat) (p : Int) (hv : nv m p ≤ p2 100) : rung m p < 2139095040 ∧ nv m p - (p2 (-24) * nv m p + p2 (-150)) ≤ qv (rung m p) ∧ qv (rung m p) ≤ nv m p + (p2 (-24) * nv m p + p2 (-150)) := by
  by_cases h : m = 0
  · subst h
    have e : rung 0 p = 0 := by unfold rung; rw [if_pos rfl]
    have e2 : nv 0 p = 0 := by unfold nv; grind
    have h5 := Rat.le_of_lt (p2_pos (-150))
    rw [e, qv_zero, e2]
    refine ⟨by omega, ?_, ?_⟩ <;> grind
  · obtain ⟨hlt, hmag⟩ := rung_val m p h hv
    have he := kep_err m p
    have hb := lst_bound p h
    rw [← hmag] at he
    refine ⟨hlt, ?_, ?_⟩ <;> grind
/-- few digits: exactly -/
theorem rung_exact (m : Nat) (p : Int) (h : m < 16777216) (hp : -149 ≤ p) (hv : nv m p ≤ p2 100) : rung m p < 2139095040 ∧ qv (rung m p) = nv m p := by
  by_cases h0 : m = 0
  · subst h0
    have e : rung 0 p = 0 := by unfold rung; rw [if_pos rfl]
    have e2 : nv 0 p = 0 := by unfold nv; grind
    rw [e, qv_zero, e2]
    exact ⟨by omega, rfl⟩
  · obtain ⟨hlt, hmag⟩ := rung_val m p h0 hv
    refine ⟨hlt, ?_⟩
    rw [hmag]
    have hlog : m.log2 < 24 := (Nat.log2_lt h0).2 (by rw [show (2 : Nat) ^ 24 = 16777216 by decide]; exact h)
    have hl : lst m p ≤ p := by unfold lst; omega
    unfold kep
    have e : (lst m p - p).toNat = 0 := by omega
    rw [e, rne_zero, nv_shift]
    congr 1; omega

/-! ### Signed words -/
structure FinW (x : Nat) : Prop where
  lt : x < 4294967296
  fin : x % 2147483648 < 2139095040
/-- the value of a finite word -/
def val (x : Nat) : Rat := if x < 2147483648 then qv x else -qv (x - 2147483648)
theorem read_val {x : Nat} (h : FinW x) : ∃ s m p, Ieee.single.read x = .number s m p ∧ -149 ≤ p ∧ val x = (if s then -nv m p else nv m p) ∧ m * 2 ^ (p + 149).toNat = mag (x % 2147483648) := by
  have h1 := h.lt
  have h2 := h.fin
  have key : ∀ {m : Nat} {p : Int} {y : Nat}, -149 ≤ p → m * 2 ^ (p + 149).toNat = mag y → qv y = nv m p := fun {m p y} hp hm => by
    unfold qv; rw [← hm, nv_shift]; congr 1; omega
  by_cases c : x < 2147483648
  · have e : x % 2147483648 = x := Nat.mod_eq_of_lt c
    rw [e] at h2
    obtain ⟨m, p, hr, hp, hm⟩ := read_pos h2
    exact ⟨false, m, p, hr, hp, by unfold val; rw [if_pos c, key hp hm]; rfl, by rw [e]; exact hm⟩
  · obtain ⟨y, rfl⟩ : ∃ y, x = 2147483648 + y := ⟨x - 2147483648, by omega⟩
    have e : (2147483648 + y) % 2147483648 = y := by omega
    rw [e] at h2
    obtain ⟨m, p, hr, hp, hm⟩ := read_neg h2
    refine ⟨true, m, p, hr, hp, ?_, by rw [e]; exact hm⟩
    unfold val
    rw [if_neg (by omega), show 2147483648 + y - 2147483648 = y by omega, key hp hm]; rfl
theorem word_neg (r : Nat) : Ieee.single.word true r = 2147483648 + r := by
  have h0 : Ieee.single.signWeight = 2147483648 := by decide
  unfold Ieee.Format.word; rw [h0]; rfl
theorem word_fin {s : Bool} {r : Nat} (h : r < 2139095040) : FinW (Ieee.single.word s r) := by
  cases s
  · rw [word_pos]; exact ⟨by omega, by omega⟩
  · rw [word_neg]; exact ⟨by omega, by omega⟩
theorem word_val {s : Bool} {r : Nat} (h : r < 2139095040) : val (Ieee.single.word s r) = if s then -qv r else qv r := by
  cases s
  · rw [word_pos]; unfold val; rw [if_pos (by omega)]; rfl
  · rw [word_neg]; unfold val; rw [if_neg (by omega), show 2147483648 + r - 2147483648 = r by omega]; rfl
/-- what is written of a number that is not too great -/
theorem write_err (s : Bool) (m : Nat) (p : Int) {M : Rat} (hv : nv m p ≤ M) (hM : M ≤ p2 100) :
    FinW (Ieee.single.write (.number s m p)) ∧ (if s then -nv m p else nv m p) - (p2 (-24) * M + p2 (-150)) ≤ val (Ieee.single.write (.number s m p)) ∧ val (Ieee.single.write (.number s m p)) ≤ (if s then -nv m p else nv m p) + (p2 (-24) * M + p2 (-150)) := by
  obtain ⟨h1, h2, h3⟩ := rung_err m p (Rat.le_trans hv hM)
  have h4 := Rat.mul_le_mul_of_nonneg_left hv (Rat.le_of_lt (p2_pos (-24)))
  rw [write_num, near_rung]
  refine ⟨word_fin h1, ?_, ?_⟩ <;> rw [word_val h1] <;> cases s <;> simp only [Bool.false_eq_true, if_false, if_true] <;> grind

/-- z is near v: off by at most e -/
def Nr (z : Nat) (v e : Rat) : Prop := FinW z ∧ v - e ≤ val z ∧ val z ≤ v + e
def ep (M : Rat) : Rat := p2 (-24) * M + p2 (-150)

theorem mul_err {x y : Nat} {M : Rat} (hx : FinW x) (hy : FinW y) (h1 : -M ≤ val x * val y) (h2 : val x * val y ≤ M) (hM : M ≤ p2 100) :
    ∃ z, FV .f32 .mul (some x) (some y) = some z ∧ Nr z (val x * val y) (ep M) := by
  obtain ⟨s, m, p, hr, hp, hvx, _⟩ := read_val hx
  obtain ⟨t, n, q, hs, hq, hvy, _⟩ := read_val hy
  rw [fv_mul, hr, hs]
  unfold Ieee.Datum.product
  simp only [Option.map_some, Option.some.injEq, exists_eq_left']
  have e : (if (s ^^ t) = true then -nv (m * n) (p + q) else nv (m * n) (p + q)) = val x * val y := by
    rw [hvx, hvy, nv_mul]; cases s <;> cases t <;> simp <;> grind
  have hv : nv (m * n) (p + q) ≤ M := by
    rw [hvx, hvy] at h1 h2
    rw [nv_mul]
    revert h1 h2
    cases s <;> cases t <;> simp only [Bool.false_eq_true, if_false, if_true] <;> grind
  have := write_err (s ^^ t) (m * n) (p + q) hv hM
  rw [e] at this
  exact this

theorem signed_val (s : Bool) (m : Nat) (p b : Int) (h : b ≤ p) : ((Ieee.signed s m (p - b).toNat : Int) : Rat) * p2 b = if s then -nv m p else nv m p := by
  have e : nv (m * 2 ^ (p - b).toNat) b = nv m p := by rw [nv_shift]; congr 1; omega
  unfold Ieee.signed
  rw [Nat.shiftLeft_eq]
  cases s
  · simp only [Bool.false_eq_true, if_false]; exact e
  · simp only [if_true]
    rw [← e]; unfold nv
    rw [Rat.intCast_neg, Rat.neg_mul]; rfl
theorem add_err {x y : Nat} {M : Rat} (hx : FinW x) (hy : FinW y) (h1 : -M ≤ val x + val y) (h2 : val x + val y ≤ M) (hM : M ≤ p2 100) :
    ∃ z, FV .f32 .add (some x) (some y) = some z ∧ Nr z (val x + val y) (ep M) := by
  obtain ⟨s, m, p, hr, hp, hvx, _⟩ := read_val hx
  obtain ⟨t, n, q, hs, hq, hvy, _⟩ := read_val hy
  rw [fv_add, hr, hs]
  unfold Ieee.Datum.sum
  simp only [Option.map_some, Option.some.injEq, exists_eq_left']
  generalize hb : min p q = b
  have e1 := signed_val s m p b (by omega)
  have e2 := signed_val t n q b (by omega)
  rw [← hvx] at e1
  rw [← hvy] at e2
  generalize Ieee.signed s m (p - b).toNat = S at *
  generalize Ieee.signed t n (q - b).toNat = T at *
  have hsum : ((S + T : Int) : Rat) * p2 b = val x + val y := by rw [Rat.intCast_add, Rat.add_mul, e1, e2]
  have hnv : ∀ u : Int, nv u.natAbs b = if u < 0 then -((u : Rat) * p2 b) else (u : Rat) * p2 b := fun u => by
    unfold nv
    by_cases hu : u < 0
    · rw [if_pos hu]
      have : ((u.natAbs : Nat) : Rat) = -(u : Rat) := by
        have : ((u.natAbs : Int) : Rat) = ((-u : Int) : Rat) := by congr 1; omega
        rw [Rat.intCast_neg] at this; exact this
      rw [this, Rat.neg_mul]
    · rw [if_neg hu]
      have : ((u.natAbs : Nat) : Rat) = (u : Rat) := by
        have : ((u.natAbs : Int) : Rat) = (u : Rat) := by congr 1; omega
        exact this
      rw [this]
  have hn := hnv (S + T)
  rw [hsum] at hn
  have hv : nv (S + T).natAbs b ≤ M := by rw [hn]; split <;> grind
  have := write_err (if S + T = 0 then (s && t) else decide (S + T < 0)) (S + T).natAbs b hv hM
  have e : (if (if S + T = 0 then (s && t) else decide (S + T < 0)) = true then -nv (S + T).natAbs b else nv (S + T).natAbs b) = val x + val y := by
    rw [← hsum]
    by_cases h0 : S + T = 0
    · rw [if_pos h0, h0]
      have : nv (Int.natAbs 0) b = 0 := by unfold nv; simp
      rw [this]
      have : ((0 : Int) : Rat) * p2 b = 0 := by simp
      rw [this]; split <;> grind
    · rw [if_neg h0, hn, ← hsum]
      by_cases hu : S + T < 0
      · rw [if_pos hu, decide_eq_true hu, if_pos rfl]; grind
      · rw [if_neg hu, decide_eq_false hu]; rfl
  rw [e] at this
  exact this

/-- the other sign -/
theorem read_opp (y : Nat) (hy : FinW y) : ∃ s m p, Ieee.single.read y = .number s m p ∧ (Ieee.single.read y).opposite = .number (!s) m p ∧ val y = (if s then -nv m p else nv m p) ∧ -149 ≤ p := by
  obtain ⟨s, m, p, hr, hp, hvx, _⟩ := read_val hy
  exact ⟨s, m, p, hr, by rw [hr]; rfl, hvx, hp⟩
theorem fv_sub (x y : Nat) : FV .f32 .sub (some x) (some y) = ((Ieee.single.read x).sum (Ieee.single.read y).opposite).map Ieee.single.write := rfl
theorem sub_err {x y : Nat} {M : Rat} (hx : FinW x) (hy : FinW y) (h1 : -M ≤ val x - val y) (h2 : val x - val y ≤ M) (hM : M ≤ p2 100) :
    ∃ z, FV .f32 .sub (some x) (some y) = some z ∧ Nr z (val x - val y) (ep M) := by
  obtain ⟨y', hy', hv', hr'⟩ : ∃ y', FinW y' ∧ val y' = -val y ∧ Ieee.single.read y' = (Ieee.single.read y).opposite := by
    have a1 := hy.lt
    have a2 := hy.fin
    by_cases c : y < 2147483648
    · have e : y % 2147483648 = y := Nat.mod_eq_of_lt c
      rw [e] at a2
      refine ⟨2147483648 + y, ⟨by omega, by omega⟩, ?_, ?_⟩
      · unfold val; rw [if_neg (by omega), if_pos c, show 2147483648 + y - 2147483648 = y by omega]
      · unfold Ieee.Format.read
        have h0 : Ieee.single.signWeight = 2147483648 := by decide
        have hq : (2147483648 + y) / 2147483648 = 1 := by omega
        have hm : (2147483648 + y) % 2147483648 = y := by omega
        have hq2 : y / 2147483648 = 0 := by omega
        simp only [h0, hq, hm, hq2, e]
        split
        · rfl
        · split
          · rfl
          · split <;> rfl
    · obtain ⟨z, rfl⟩ : ∃ z, y = 2147483648 + z := ⟨y - 2147483648, by omega⟩
      have e : (2147483648 + z) % 2147483648 = z := by omega
      rw [e] at a2
      refine ⟨z, ⟨by omega, by omega⟩, ?_, ?_⟩
      · unfold val; rw [if_pos (by omega), if_neg (by omega), show 2147483648 + z - 2147483648 = z by omega]; grind
      · unfold Ieee.Format.read
        have h0 : Ieee.single.signWeight = 2147483648 := by decide
        have hq : (2147483648 + z) / 2147483648 = 1 := by omega
        have hm : (2147483648 + z) % 2147483648 = z := by omega
        have hq2 : z / 2147483648 = 0 := by omega
        have hm2 : z % 2147483648 = z := by omega
        simp only [h0, hq, hm, hq2, hm2]
        split
        · rfl
        · split
          · rfl
          · split <;> rfl
  have := add_err (M := M) hx hy' (by rw [hv']; grind) (by rw [hv']; grind) hM
  rw [hv', ← Rat.sub_eq_add_neg] at this
  rw [fv_sub, ← hr', ← fv_add]
  exact this
end Go.Proofs.Ytjgpnbchnenbeaa
