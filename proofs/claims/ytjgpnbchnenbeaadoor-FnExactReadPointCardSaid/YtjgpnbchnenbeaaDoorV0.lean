/- Widening: a float32 as a float64; the same float. -/
import Derived.Test.YtjgpnbchnenbeaaDoorF0
import Derived.Test.YtjgpnbchnenbeaaDoorK0
namespace Go.Proofs.YtjgpnbchnenbeaaDoor
set_option linter.unusedSimpArgs false
set_option linter.unusedVariables false
open Go
open Go.RowKit (Below)

theorem dbl_fin (neg : Bool) (r : Nat) (h : r < 9218868437227405312) : ∃ m p, Ieee.double.read (Ieee.double.word neg r) = .number neg m p := by
  have e1 : Ieee.double.signWeight = 9223372036854775808 := by decide
  have e2 : Ieee.double.infRung = 9218868437227405312 := by decide
  have e3 : Ieee.double.binade = 4503599627370496 := by decide
  have hw : Ieee.double.word neg r % 9223372036854775808 = r ∧ (Ieee.double.word neg r / 9223372036854775808 % 2 == 1) = neg := by
    unfold Ieee.Format.word
    rw [e1]
    cases neg
    · refine ⟨by simp only [Bool.false_eq_true, if_false]; omega, ?_⟩
      have : r / 9223372036854775808 % 2 = 0 := by omega
      simp only [Bool.false_eq_true, if_false, this]; rfl
    · refine ⟨by simp only [if_true]; omega, ?_⟩
      have : (9223372036854775808 + r) / 9223372036854775808 % 2 = 1 := by omega
      simp only [if_true, this]; rfl
  unfold Ieee.Format.read
  simp only [e1, e2, e3, hw.1, hw.2]
  by_cases hb : r < 4503599627370496
  · rw [if_pos hb]; exact ⟨_, _, rfl⟩
  · rw [if_neg hb, if_pos h]; exact ⟨_, _, rfl⟩
theorem cap_lt (t q : Nat) (ht : t ≤ 1149) (hq : q < 9007199254740992) : min (t * 4503599627370496 + q) 9218868437227405312 < 9218868437227405312 := by
  have h1 : t * 4503599627370496 ≤ 1149 * 4503599627370496 := Nat.mul_le_mul_right _ ht
  have h2 : t * 4503599627370496 + q < 9218868437227405312 := Nat.lt_of_lt_of_le (Nat.add_lt_add_of_le_of_lt h1 hq) (by decide)
  exact Nat.lt_of_le_of_lt (Nat.min_le_left _ _) h2
theorem pow53 : (2 : Nat) ^ 53 = 9007199254740992 := by decide
theorem kept_lt (m L : Nat) (hL : L ≤ 23) (hlt : m < 2 ^ (L + 1)) : m * 2 ^ (52 - L) < 9007199254740992 := by
  have a1 : m * 2 ^ (52 - L) < 2 ^ (L + 1) * 2 ^ (52 - L) := Nat.mul_lt_mul_of_pos_right hlt (Nat.two_pow_pos _)
  rw [← Nat.pow_add, show L + 1 + (52 - L) = 53 by omega, pow53] at a1
  exact a1
theorem dbl_least : Ieee.double.leastPlace = -1074 := by decide
theorem dbl_frac : Ieee.double.fractionBits = 52 := by decide
theorem dbl_bin : Ieee.double.binade = 4503599627370496 := by decide
theorem dbl_inf : Ieee.double.infRung = 9218868437227405312 := by decide
theorem log_small (m : Nat) (h0 : m ≠ 0) (hm : m < 16777216) : m.log2 ≤ 23 := by
  have := (Nat.log2_lt h0 (k := 24)).2 (by show m < 2 ^ 24; exact hm)
  omega
theorem wide_near (neg : Bool) (m : Nat) (p : Int) (h0 : m ≠ 0) (hm : m < 16777216) (h1 : -149 ≤ p) (h2 : p ≤ 104) : ∃ t q, t ≤ 1149 ∧ q < 9007199254740992 ∧ Ieee.double.nearest neg m p = Ieee.double.word neg (min (t * 4503599627370496 + q) 9218868437227405312) := by
  have hL := log_small m h0 hm
  have hlt : m < 2 ^ (m.log2 + 1) := Nat.lt_log2_self
  unfold Ieee.Format.nearest
  rw [if_neg h0]
  simp only [cut_rne, dbl_least, dbl_frac, dbl_bin, dbl_inf]
  generalize m.log2 = L at *
  have e5 : max (p + (L : Int) - ((52 : Nat) : Int)) (-1074) = p + (L : Int) - 52 := by omega
  rw [e5]
  have e7 : (p + (L : Int) - 52 - p).toNat = 0 := by omega
  have e8 : (p - (p + (L : Int) - 52)).toNat = 52 - L := by omega
  rw [e7, rne_zero, e8, Nat.shiftLeft_eq]
  exact ⟨_, _, by omega, kept_lt m L hL hlt, rfl⟩
theorem wide_fin (neg : Bool) (m : Nat) (p : Int) (hm : m < 16777216) (h1 : -149 ≤ p) (h2 : p ≤ 104) : ∃ m' p', Ieee.double.read (Ieee.double.nearest neg m p) = .number neg m' p' := by
  rcases Nat.decEq m 0 with h0 | h0
  · obtain ⟨t, q, ht, hq, he⟩ := wide_near neg m p h0 hm h1 h2
    rw [he]
    exact dbl_fin neg _ (cap_lt t q ht hq)
  · unfold Ieee.Format.nearest
    rw [if_pos h0]
    exact dbl_fin neg 0 (by decide)
def W64 (b : Nat) : Nat := FloatKind.f64.encode (FloatKind.f32.decode b)
/-- what a float32 is as a float64 -/
def Wd (b r : Nat) : Prop := isNan .f64 r = isNan .f32 b ∧ (isNan .f32 b = false → r = W64 b)
theorem dec_cases (b : Nat) : (∃ s t, FloatKind.f32.decode b = .nan s t) ∨ (∃ s, FloatKind.f32.decode b = .infinity s) ∨ ∃ s m p, FloatKind.f32.decode b = .number s m p ∧ m < 16777216 ∧ -149 ≤ p ∧ p ≤ 104 := by
  show (∃ s t, Ieee.single.read b = .nan s t) ∨ (∃ s, Ieee.single.read b = .infinity s) ∨ ∃ s m p, Ieee.single.read b = .number s m p ∧ m < 16777216 ∧ -149 ≤ p ∧ p ≤ 104
  have e1 : Ieee.single.signWeight = 2147483648 := by decide
  have e2 : Ieee.single.infRung = 2139095040 := by decide
  have e3 : Ieee.single.binade = 8388608 := by decide
  have e4 : Ieee.single.leastPlace = -149 := by decide
  unfold Ieee.Format.read
  simp only [e1, e2, e3, e4]
  by_cases h1 : b % 2147483648 < 8388608
  · rw [if_pos h1]; exact .inr (.inr ⟨_, _, _, rfl, by omega, by omega, by omega⟩)
  · rw [if_neg h1]
    by_cases h2 : b % 2147483648 < 2139095040
    · rw [if_pos h2]; exact .inr (.inr ⟨_, _, _, rfl, by omega, by omega, by omega⟩)
    · rw [if_neg h2]
      by_cases h3 : b % 2147483648 = 2139095040
      · rw [if_pos h3]; exact .inr (.inl ⟨_, rfl⟩)
      · rw [if_neg h3]; exact .inl ⟨_, _, rfl⟩
theorem run_widen (P : Program) (w : World) (b : Nat) : ∃ r n, (Conv.floatToFloat .f32 b .f64).run P w = .ok (.float .f64 r) (w.drewN n) ∧ Wd b r := by
  have hn : isNan .f32 b = (FloatKind.f32.decode b).isNaN := rfl
  unfold Conv.floatToFloat Wd
  rw [if_neg (by decide), hn]
  rcases dec_cases b with ⟨s, t, h⟩ | ⟨s, h⟩ | ⟨s, m, p, h, h1, h2, h3⟩
  · rw [h]
    refine ⟨(Question.nanConv .f64 b).cut (w.tape w.drawn (.nanConv .f64 b)), 1, ?_, ?_, fun e => by cases e⟩
    · simp only [Sem.run_bind, run_choose, Question.forced, Bool.false_eq_true, if_false, Result.andThen_ok, Sem.run_pure]; rfl
    · exact nan_bits .f64 b b _
  · rw [h]
    refine ⟨FloatKind.f64.encode (.infinity s), 0, rfl, ?_, fun _ => by unfold W64; rw [h]⟩
    cases s <;> decide
  · rw [h]
    obtain ⟨m', p', hr⟩ := wide_fin s m p h1 h2 h3
    have hr' : FloatKind.f64.decode (FloatKind.f64.encode (.number s m p)) = .number s m' p' := hr
    refine ⟨FloatKind.f64.encode (.number s m p), 0, ?_, ?_, fun _ => by unfold W64; rw [h]⟩
    · simp only [hr', Ieee.Datum.isInfinity, Bool.false_eq_true, if_false]; rfl
    · show (FloatKind.f64.decode (FloatKind.f64.encode (.number s m p))).isNaN = false
      rw [hr']; rfl
theorem cv_c {P : Program} {src dst : TypeId} {a b : Nat} {w : World} {K : Value → World → Prop} {d : Option TypeDesc} (hs : (P.underlying src).isSome = true) (hd : P.underlying dst = some (.complex .f64)) (h0 : d = some (.complex .f64))
    (h : ∀ a' b' w', Wd a a' → Wd b b' → Bl w w' → K (.complex .f64 a' b') w') : cvW P src dst d (.complex .f32 a b) w K := by
  subst h0
  show runW P (convert src dst (.complex .f32 a b)) w K
  obtain ⟨u, hu⟩ := Option.isSome_iff_exists.1 hs
  obtain ⟨r1, n1, h1, k1⟩ := run_widen P w a
  obtain ⟨r2, n2, h2, k2⟩ := run_widen P (w.drewN n1) b
  refine ⟨.complex .f64 r1 r2, (w.drewN n1).drewN n2, ?_, h _ _ _ k1 k2 ((Bl.drewN w n1).trans (Bl.drewN _ n2))⟩
  cases u <;> simp [convert, run_underlying hu, run_underlying hd, Conv.complexToComplex, h1, h2]
theorem cv_f {P : Program} {src dst : TypeId} {a : Nat} {w : World} {K : Value → World → Prop} {d : Option TypeDesc} (hs : (P.underlying src).isSome = true) (hd : P.underlying dst = some (.float .f64)) (h0 : d = some (.float .f64))
    (h : ∀ a' w', Wd a a' → Bl w w' → K (.float .f64 a') w') : cvW P src dst d (.float .f32 a) w K := by
  subst h0
  show runW P (convert src dst (.float .f32 a)) w K
  obtain ⟨u, hu⟩ := Option.isSome_iff_exists.1 hs
  obtain ⟨r1, n1, h1, k1⟩ := run_widen P w a
  refine ⟨.float .f64 r1, w.drewN n1, ?_, h _ _ k1 (Bl.drewN w n1)⟩
  cases u <;> simp [convert, run_underlying hu, run_underlying hd, h1]
/-- the same: both NaN, or one word -/
def Sm (a b : Nat) : Prop := isNan .f64 a = isNan .f64 b ∧ (isNan .f64 a = false → a = b)
theorem Wd.same {b x y : Nat} (h : Wd b x) (k : Wd b y) : Sm x y :=
  ⟨h.1.trans k.1.symm, fun hn => (h.2 (h.1.symm.trans hn)).trans (k.2 (h.1.symm.trans hn)).symm⟩
abbrev dl (x : Nat) : Value := .float .f64 x
theorem beql (w : World) (b : Bool) (x y : Operand) : (do eqGuard .eql 4 x y (.bool b) (.bool b); binOp .eql 4 (.bool b) (.bool b) : Sem Value).run Tryd.prog w = .ok (.bool true) w := by cases b <;> kernel_rfl
theorem fgt_cn {k : FloatKind} {x y z : Nat} (h : cn k x = cn k y) : fgt k x z = fgt k y z := by
  unfold cn at h
  unfold fgt
  cases hx : isNan k x <;> cases hy : isNan k y <;> rw [hx, hy] at h
  · simp only [Bool.false_eq_true, if_false, Option.some.injEq] at h
    rw [h]
  · cases h
  · cases h
  · rw [order_nan (.inl hx), order_nan (.inl hy)]
set_option maxRecDepth 100000 in
theorem sameFloat_ct (w : World) (a b : Nat) (h : Sm a b) : Ct Tryd.prog 66 #[dl a, dl b] w (Is (.bool true) w) := by
  obtain ⟨h1, h2⟩ := h
  have ea := fne_self' .f64 a
  have eb := fne_self' .f64 b
  have eq := feq_self' .f64 a
  (refine fn_of_W Tryd.func66 rfl (by kernel_rfl) (by kernel_rfl) (Nat.le_of_ble_eq_true (by kernel_rfl)) ?_; (try simp only [RS, RF, cond_true, cond_false, List.nil_append, List.cons_append, List.toList_toArray, Option.isSome_some, Option.map_some, Option.map_none, Nat.reduceBEq, isShift, kEq, fEq, binInt, binFloat, shiftInt, binStr, Tryd.f66]))
  cases hn : isNan .f64 a
  · have := h2 hn
    subst this
    rw [hn] at ea eq
    (try simp only [RS, RF, cond_true, cond_false, List.nil_append, List.cons_append, List.toList_toArray, Option.isSome_some, Option.map_some, Option.map_none, Nat.reduceBEq, isShift, kEq, fEq, binInt, binFloat, shiftInt, binStr, forall_eq, ea])
    cases hz : feq .f64 a 0
    · (try simp only [RS, RF, cond_true, cond_false, List.nil_append, List.cons_append, List.toList_toArray, Option.isSome_some, Option.map_some, Option.map_none, Nat.reduceBEq, isShift, kEq, fEq, binInt, binFloat, shiftInt, binStr, forall_eq, hz, eq])
      exact ⟨rfl, Bl.refl w⟩
    · (try simp only [RS, RF, cond_true, cond_false, List.nil_append, List.cons_append, List.toList_toArray, Option.isSome_some, Option.map_some, Option.map_none, Nat.reduceBEq, isShift, kEq, fEq, binInt, binFloat, shiftInt, binStr, forall_eq, hz])
      intro r1 n1 hr1
      (try simp only [RS, RF, cond_true, cond_false, List.nil_append, List.cons_append, List.toList_toArray, Option.isSome_some, Option.map_some, Option.map_none, Nat.reduceBEq, isShift, kEq, fEq, binInt, binFloat, shiftInt, binStr])
      intro r2 n2 hr2
      (try simp only [RS, RF, cond_true, cond_false, List.nil_append, List.cons_append, List.toList_toArray, Option.isSome_some, Option.map_some, Option.map_none, Nat.reduceBEq, isShift, kEq, fEq, binInt, binFloat, shiftInt, binStr])
      rw [fgt_cn (hr1.trans hr2.symm)]
      (have hr__ := beql ((w.drewN n1).drewN n2) (fgt .f64 r2 0) (.tmp 29) (.tmp 32); refine ⟨_, _, hr__, ?_⟩; clear hr__)
      (try simp only [RS, RF, cond_true, cond_false, List.nil_append, List.cons_append, List.toList_toArray, Option.isSome_some, Option.map_some, Option.map_none, Nat.reduceBEq, isShift, kEq, fEq, binInt, binFloat, shiftInt, binStr])
      exact ⟨rfl, (Bl.drewN _ _).trans (Bl.drewN _ _)⟩
  · rw [hn] at ea h1
    rw [← h1] at eb
    (try simp only [RS, RF, cond_true, cond_false, List.nil_append, List.cons_append, List.toList_toArray, Option.isSome_some, Option.map_some, Option.map_none, Nat.reduceBEq, isShift, kEq, fEq, binInt, binFloat, shiftInt, binStr, forall_eq, ea, eb])
    exact ⟨rfl, Bl.refl w⟩
set_option maxRecDepth 100000 in
theorem sameComplex_ct (w : World) (a b x y : Nat) (h : Sm a x) (k : Sm b y) : Ct Tryd.prog 12 #[.complex .f64 a b, .complex .f64 x y] w (Is (.bool true) w) := by
  (refine fn_of_W Tryd.func12 rfl (by kernel_rfl) (by kernel_rfl) (Nat.le_of_ble_eq_true (by kernel_rfl)) ?_; (try simp only [RS, RF, cond_true, cond_false, List.nil_append, List.cons_append, List.toList_toArray, Option.isSome_some, Option.map_some, Option.map_none, Nat.reduceBEq, isShift, kEq, fEq, binInt, binFloat, shiftInt, binStr, Tryd.f12]))
  (refine (sameFloat_ct w a x h).mono ?_; rintro _ w1 ⟨rfl, hw1⟩)
  (try simp only [RS, RF, cond_true, cond_false, List.nil_append, List.cons_append, List.toList_toArray, Option.isSome_some, Option.map_some, Option.map_none, Nat.reduceBEq, isShift, kEq, fEq, binInt, binFloat, shiftInt, binStr])
  (refine (sameFloat_ct w1 b y k).mono ?_; rintro _ w2 ⟨rfl, hw2⟩)
  (try simp only [RS, RF, cond_true, cond_false, List.nil_append, List.cons_append, List.toList_toArray, Option.isSome_some, Option.map_some, Option.map_none, Nat.reduceBEq, isShift, kEq, fEq, binInt, binFloat, shiftInt, binStr])
  exact ⟨rfl, hw1.trans hw2⟩
end Go.Proofs.YtjgpnbchnenbeaaDoor
