/- Contracts of small functions. -/
import Derived.Test.YtjgpnbchnenbeaaL0
import Derived.Test.YtjgpnbchnenbeaaF1
namespace Go.Proofs.Ytjgpnbchnenbeaa
set_option linter.unusedSimpArgs false
set_option linter.unusedVariables false
open Go
open Go.RowKit (Below)

/-- the answer is v0, and no old block turns -/
def Is (v0 : Value) (w : World) : Value → World → Prop := fun v w' => v = v0 ∧ Bl w w'
/-- the answer is a float that stands for F -/
def IsF (F : Option Nat) (w : World) : Value → World → Prop := fun v w' => ∃ r, v = .float .f32 r ∧ cn .f32 r = F ∧ Bl w w'
theorem Is.mk {b0 b1 : Value} {w w' : World} (h : b1 = b0) (hb : Bl w w') : Is b0 w b1 w' := ⟨h, hb⟩
theorem is_bool {b0 b1 : Bool} {w : World} (h : b1 = b0) : Is (.bool b0) w (.bool b1) w := ⟨by rw [h], Bl.refl w⟩

def flt' (x y : Option Nat) : Bool := match x, y with | some a, some b => flt .f32 a b | _, _ => false
def fgt' (x y : Option Nat) : Bool := match x, y with | some a, some b => fgt .f32 a b | _, _ => false
def fle' (x y : Option Nat) : Bool := match x, y with | some a, some b => fle .f32 a b | _, _ => false
def fge' (x y : Option Nat) : Bool := match x, y with | some a, some b => fge .f32 a b | _, _ => false
def feq' (x y : Option Nat) : Bool := match x, y with | some a, some b => feq .f32 a b | _, _ => false
theorem cn_cases (x : Nat) : (cn .f32 x = none ∧ isNan .f32 x = true) ∨ (cn .f32 x = some x ∧ isNan .f32 x = false) := by
  unfold cn; cases h : isNan .f32 x <;> simp
theorem flt_cn (x y : Nat) : flt .f32 x y = flt' (cn .f32 x) (cn .f32 y) := by
  rcases cn_cases x with ⟨h, hn⟩ | ⟨h, hn⟩ <;> rcases cn_cases y with ⟨g, gn⟩ | ⟨g, gn⟩ <;> rw [h, g] <;> simp [flt', flt, order_nan, hn, gn]
theorem fgt_cn (x y : Nat) : fgt .f32 x y = fgt' (cn .f32 x) (cn .f32 y) := by
  rcases cn_cases x with ⟨h, hn⟩ | ⟨h, hn⟩ <;> rcases cn_cases y with ⟨g, gn⟩ | ⟨g, gn⟩ <;> rw [h, g] <;> simp [fgt', fgt, order_nan, hn, gn]
theorem fle_cn (x y : Nat) : fle .f32 x y = fle' (cn .f32 x) (cn .f32 y) := by
  rcases cn_cases x with ⟨h, hn⟩ | ⟨h, hn⟩ <;> rcases cn_cases y with ⟨g, gn⟩ | ⟨g, gn⟩ <;> rw [h, g] <;> simp [fle', fle, order_nan, hn, gn]
theorem fge_cn (x y : Nat) : fge .f32 x y = fge' (cn .f32 x) (cn .f32 y) := by
  rcases cn_cases x with ⟨h, hn⟩ | ⟨h, hn⟩ <;> rcases cn_cases y with ⟨g, gn⟩ | ⟨g, gn⟩ <;> rw [h, g] <;> simp [fge', fge, order_nan, hn, gn]
theorem feq_cn (x y : Nat) : feq .f32 x y = feq' (cn .f32 x) (cn .f32 y) := by
  rcases cn_cases x with ⟨h, hn⟩ | ⟨h, hn⟩ <;> rcases cn_cases y with ⟨g, gn⟩ | ⟨g, gn⟩ <;> rw [h, g] <;> simp [feq', feq, order_nan, hn, gn]
theorem feq_self (x : Nat) : feq .f32 x x = !isNan .f32 x := by
  unfold feq
  cases h : isNan .f32 x with
  | true => rw [order_nan (.inl h)]; rfl
  | false =>
    cases ho : FloatKind.f32.format.order x x with
    | none => rcases order_none ho with h' | h' <;> rw [h'] at h <;> cases h
    | some o =>
      have : o = .eq := by
        unfold Ieee.Format.order at ho
        revert ho
        cases Ieee.Format.read FloatKind.f32.format x <;> simp [Ieee.Datum.order]
        · rintro rfl; rfl
        · rename_i s; rintro rfl; cases s <;> rfl
      subst this; rfl
theorem fne_self (x : Nat) : fne .f32 x x = isNan .f32 x := by
  have := feq_self x
  unfold feq at this; unfold fne
  rw [bne, this, Bool.not_not]

set_option maxRecDepth 100000 in
theorem between_ct (w : World) (a lo hi : Nat) :
    Ct Try.prog 99 #[.float .f32 a, .float .f32 lo, .float .f32 hi] w (Is (.bool (fle .f32 lo a && fle .f32 a hi)) w) := by
  (refine fn_of_W Try.func99 rfl (by kernel_rfl) (by kernel_rfl) (Nat.le_of_ble_eq_true (by kernel_rfl)) ?_; (try simp only [RS, RF, cond_true, cond_false, List.nil_append, List.cons_append, List.toList_toArray, Option.isSome_some, Option.map_some, Option.map_none, Nat.reduceBEq, isShift, kEq, fEq, binInt, binFloat, shiftInt, binStr, Try.f99]))
  intro b hb
  cases b
  · (try simp only [RS, RF, cond_true, cond_false, List.nil_append, List.cons_append, List.toList_toArray, Option.isSome_some, Option.map_some, Option.map_none, Nat.reduceBEq, isShift, kEq, fEq, binInt, binFloat, shiftInt, binStr])
    exact is_bool (by rw [← hb]; rfl)
  · (try simp only [RS, RF, cond_true, cond_false, List.nil_append, List.cons_append, List.toList_toArray, Option.isSome_some, Option.map_some, Option.map_none, Nat.reduceBEq, isShift, kEq, fEq, binInt, binFloat, shiftInt, binStr])
    intro b2 hb2
    exact is_bool (by rw [← hb, hb2]; rfl)
set_option maxRecDepth 100000 in
theorem within_ct (w : World) (n lo hi : Int) :
    Ct Try.prog 116 #[.int .i64 n, .int .i64 lo, .int .i64 hi] w (Is (.bool (decide (lo ≤ n) && decide (n ≤ hi))) w) := by
  (refine fn_of_W Try.func116 rfl (by kernel_rfl) (by kernel_rfl) (Nat.le_of_ble_eq_true (by kernel_rfl)) ?_; (try simp only [RS, RF, cond_true, cond_false, List.nil_append, List.cons_append, List.toList_toArray, Option.isSome_some, Option.map_some, Option.map_none, Nat.reduceBEq, isShift, kEq, fEq, binInt, binFloat, shiftInt, binStr, Try.f116]))
  intro b hb
  cases b
  · (try simp only [RS, RF, cond_true, cond_false, List.nil_append, List.cons_append, List.toList_toArray, Option.isSome_some, Option.map_some, Option.map_none, Nat.reduceBEq, isShift, kEq, fEq, binInt, binFloat, shiftInt, binStr])
    exact is_bool (by rw [← hb]; rfl)
  · (try simp only [RS, RF, cond_true, cond_false, List.nil_append, List.cons_append, List.toList_toArray, Option.isSome_some, Option.map_some, Option.map_none, Nat.reduceBEq, isShift, kEq, fEq, binInt, binFloat, shiftInt, binStr])
    intro b2 hb2
    exact is_bool (by rw [← hb, hb2]; rfl)
set_option maxRecDepth 100000 in
theorem in_ct (w : World) (n lo hi : Int) :
    Ct Try.prog 153 #[.int .i64 n, .int .i64 lo, .int .i64 hi] w (Is (.bool (decide (lo ≤ n) && decide (n ≤ hi))) w) := by
  (refine fn_of_W Try.func153 rfl (by kernel_rfl) (by kernel_rfl) (Nat.le_of_ble_eq_true (by kernel_rfl)) ?_; (try simp only [RS, RF, cond_true, cond_false, List.nil_append, List.cons_append, List.toList_toArray, Option.isSome_some, Option.map_some, Option.map_none, Nat.reduceBEq, isShift, kEq, fEq, binInt, binFloat, shiftInt, binStr, Try.f153]))
  intro b hb
  cases b
  · (try simp only [RS, RF, cond_true, cond_false, List.nil_append, List.cons_append, List.toList_toArray, Option.isSome_some, Option.map_some, Option.map_none, Nat.reduceBEq, isShift, kEq, fEq, binInt, binFloat, shiftInt, binStr])
    exact is_bool (by rw [← hb]; rfl)
  · (try simp only [RS, RF, cond_true, cond_false, List.nil_append, List.cons_append, List.toList_toArray, Option.isSome_some, Option.map_some, Option.map_none, Nat.reduceBEq, isShift, kEq, fEq, binInt, binFloat, shiftInt, binStr])
    intro b2 hb2
    exact is_bool (by rw [← hb, hb2]; rfl)
def amountB (a : Nat) : Bool := fle .f32 0 a && fle .f32 a 1233125376
def plainB (a : Nat) : Bool := fle .f32 3380609024 a && fle .f32 a 1233125376
set_option maxRecDepth 100000 in
theorem isAmount_ct (w : World) (a : Nat) : Ct Try.prog 110 #[.float .f32 a] w (Is (.bool (amountB a)) w) := by
  (refine fn_of_W Try.func110 rfl (by kernel_rfl) (by kernel_rfl) (Nat.le_of_ble_eq_true (by kernel_rfl)) ?_; (try simp only [RS, RF, cond_true, cond_false, List.nil_append, List.cons_append, List.toList_toArray, Option.isSome_some, Option.map_some, Option.map_none, Nat.reduceBEq, isShift, kEq, fEq, binInt, binFloat, shiftInt, binStr, Try.f110]))
  (refine (between_ct w a 0 1233125376).mono ?_; rintro _ w1 ⟨rfl, hw1⟩)
  (try simp only [RS, RF, cond_true, cond_false, List.nil_append, List.cons_append, List.toList_toArray, Option.isSome_some, Option.map_some, Option.map_none, Nat.reduceBEq, isShift, kEq, fEq, binInt, binFloat, shiftInt, binStr])
  exact ⟨rfl, hw1⟩
set_option maxRecDepth 100000 in
theorem isPlain_ct (w : World) (a : Nat) : Ct Try.prog 96 #[.float .f32 a] w (Is (.bool (plainB a)) w) := by
  (refine fn_of_W Try.func96 rfl (by kernel_rfl) (by kernel_rfl) (Nat.le_of_ble_eq_true (by kernel_rfl)) ?_; (try simp only [RS, RF, cond_true, cond_false, List.nil_append, List.cons_append, List.toList_toArray, Option.isSome_some, Option.map_some, Option.map_none, Nat.reduceBEq, isShift, kEq, fEq, binInt, binFloat, shiftInt, binStr, Try.f96]))
  (refine (between_ct w a 3380609024 1233125376).mono ?_; rintro _ w1 ⟨rfl, hw1⟩)
  (try simp only [RS, RF, cond_true, cond_false, List.nil_append, List.cons_append, List.toList_toArray, Option.isSome_some, Option.map_some, Option.map_none, Nat.reduceBEq, isShift, kEq, fEq, binInt, binFloat, shiftInt, binStr])
  exact ⟨rfl, hw1⟩
theorem order_swap (x y : Nat) : FloatKind.f32.format.order y x = (FloatKind.f32.format.order x y).map Ordering.swap := by
  unfold Ieee.Format.order
  cases Ieee.Format.read FloatKind.f32.format x <;> cases Ieee.Format.read FloatKind.f32.format y <;> simp only [Ieee.Datum.order, Option.map_none, Option.map_some, Option.some.injEq]
  · rename_i s m p t n q
    rw [Int.min_comm p q]
    rw [← Std.OrientedCmp.eq_swap (cmp := compare)]
  · rename_i t; cases t <;> rfl
  · rename_i s _ _ _; cases s <;> rfl
  · rename_i s t; cases s <;> cases t <;> rfl
theorem fge_swap (x y : Nat) : fge .f32 x y = fle .f32 y x := by
  unfold fge fle; rw [order_swap x y]
  cases FloatKind.f32.format.order x y with
  | none => rfl
  | some o => cases o <;> rfl
theorem fgt_swap (x y : Nat) : fgt .f32 x y = flt .f32 y x := by
  unfold fgt flt; rw [order_swap x y]
  cases FloatKind.f32.format.order x y with
  | none => rfl
  | some o => cases o <;> rfl
set_option maxRecDepth 100000 in
theorem fast_ct (w : World) (a : Nat) : Ct Try.prog 121 #[.float .f32 a] w (Is (.bool (amountB a)) w) := by
  (refine fn_of_W Try.func121 rfl (by kernel_rfl) (by kernel_rfl) (Nat.le_of_ble_eq_true (by kernel_rfl)) ?_; (try simp only [RS, RF, cond_true, cond_false, List.nil_append, List.cons_append, List.toList_toArray, Option.isSome_some, Option.map_some, Option.map_none, Nat.reduceBEq, isShift, kEq, fEq, binInt, binFloat, shiftInt, binStr, Try.f121]))
  intro b hb
  rw [fge_swap] at hb
  cases b
  · (try simp only [RS, RF, cond_true, cond_false, List.nil_append, List.cons_append, List.toList_toArray, Option.isSome_some, Option.map_some, Option.map_none, Nat.reduceBEq, isShift, kEq, fEq, binInt, binFloat, shiftInt, binStr])
    exact is_bool (by rw [amountB, ← hb]; rfl)
  · (try simp only [RS, RF, cond_true, cond_false, List.nil_append, List.cons_append, List.toList_toArray, Option.isSome_some, Option.map_some, Option.map_none, Nat.reduceBEq, isShift, kEq, fEq, binInt, binFloat, shiftInt, binStr])
    intro b2 hb2
    exact is_bool (by rw [amountB, ← hb, hb2]; rfl)
set_option maxRecDepth 100000 in
theorem plain_ct (w : World) (a : Nat) : Ct Try.prog 100 #[.float .f32 a] w (Is (.bool (plainB a)) w) := by
  (refine fn_of_W Try.func100 rfl (by kernel_rfl) (by kernel_rfl) (Nat.le_of_ble_eq_true (by kernel_rfl)) ?_; (try simp only [RS, RF, cond_true, cond_false, List.nil_append, List.cons_append, List.toList_toArray, Option.isSome_some, Option.map_some, Option.map_none, Nat.reduceBEq, isShift, kEq, fEq, binInt, binFloat, shiftInt, binStr, Try.f100]))
  intro b hb
  rw [fge_swap] at hb
  cases b
  · (try simp only [RS, RF, cond_true, cond_false, List.nil_append, List.cons_append, List.toList_toArray, Option.isSome_some, Option.map_some, Option.map_none, Nat.reduceBEq, isShift, kEq, fEq, binInt, binFloat, shiftInt, binStr])
    exact is_bool (by rw [plainB, ← hb]; rfl)
  · (try simp only [RS, RF, cond_true, cond_false, List.nil_append, List.cons_append, List.toList_toArray, Option.isSome_some, Option.map_some, Option.map_none, Nat.reduceBEq, isShift, kEq, fEq, binInt, binFloat, shiftInt, binStr])
    intro b2 hb2
    exact is_bool (by rw [plainB, ← hb, hb2]; rfl)
def signZ (a : Option Nat) : Int := if flt' a (some 0) then -1 else if fgt' a (some 0) then 1 else 0
theorem cn0 : cn .f32 0 = some 0 := by decide
set_option maxRecDepth 100000 in
theorem sign_ct (w : World) (a : Nat) : Ct Try.prog 114 #[.float .f32 a] w (Is (.int .i64 (signZ (cn .f32 a))) w) := by
  (refine fn_of_W Try.func114 rfl (by kernel_rfl) (by kernel_rfl) (Nat.le_of_ble_eq_true (by kernel_rfl)) ?_; (try simp only [RS, RF, cond_true, cond_false, List.nil_append, List.cons_append, List.toList_toArray, Option.isSome_some, Option.map_some, Option.map_none, Nat.reduceBEq, isShift, kEq, fEq, binInt, binFloat, shiftInt, binStr, Try.f114]))
  intro b hb
  rw [flt_cn, cn0] at hb
  cases b
  · (try simp only [RS, RF, cond_true, cond_false, List.nil_append, List.cons_append, List.toList_toArray, Option.isSome_some, Option.map_some, Option.map_none, Nat.reduceBEq, isShift, kEq, fEq, binInt, binFloat, shiftInt, binStr])
    intro b2 hb2
    rw [fgt_cn, cn0] at hb2
    cases b2
    · (try simp only [RS, RF, cond_true, cond_false, List.nil_append, List.cons_append, List.toList_toArray, Option.isSome_some, Option.map_some, Option.map_none, Nat.reduceBEq, isShift, kEq, fEq, binInt, binFloat, shiftInt, binStr])
      exact Is.mk (by rw [signZ, ← hb, ← hb2]; rfl) (Bl.refl w)
    · (try simp only [RS, RF, cond_true, cond_false, List.nil_append, List.cons_append, List.toList_toArray, Option.isSome_some, Option.map_some, Option.map_none, Nat.reduceBEq, isShift, kEq, fEq, binInt, binFloat, shiftInt, binStr])
      exact Is.mk (by rw [signZ, ← hb, ← hb2]; rfl) (Bl.refl w)
  · (try simp only [RS, RF, cond_true, cond_false, List.nil_append, List.cons_append, List.toList_toArray, Option.isSome_some, Option.map_some, Option.map_none, Nat.reduceBEq, isShift, kEq, fEq, binInt, binFloat, shiftInt, binStr])
    exact Is.mk (by rw [signZ, ← hb]; rfl) (Bl.refl w)
/-- different signs -/
def apartB (a b : Option Nat) : Bool := (flt' a (some 0) && fgt' b (some 0)) || (fgt' a (some 0) && flt' b (some 0))
set_option maxRecDepth 100000 in
theorem apart_ct (w : World) (x y : Nat) : Ct Try.prog 115 #[.float .f32 x, .float .f32 y] w (Is (.bool (apartB (cn .f32 x) (cn .f32 y))) w) := by
  (refine fn_of_W Try.func115 rfl (by kernel_rfl) (by kernel_rfl) (Nat.le_of_ble_eq_true (by kernel_rfl)) ?_; (try simp only [RS, RF, cond_true, cond_false, List.nil_append, List.cons_append, List.toList_toArray, Option.isSome_some, Option.map_some, Option.map_none, Nat.reduceBEq, isShift, kEq, fEq, binInt, binFloat, shiftInt, binStr, Try.f115]))
  intro b1 h1
  rw [flt_cn, cn0] at h1
  unfold apartB
  rw [← h1]
  cases b1
  · (try simp only [RS, RF, cond_true, cond_false, List.nil_append, List.cons_append, List.toList_toArray, Option.isSome_some, Option.map_some, Option.map_none, Nat.reduceBEq, isShift, kEq, fEq, binInt, binFloat, shiftInt, binStr])
    intro b2 h2
    rw [fgt_cn, cn0] at h2
    rw [← h2]
    cases b2
    · (try simp only [RS, RF, cond_true, cond_false, List.nil_append, List.cons_append, List.toList_toArray, Option.isSome_some, Option.map_some, Option.map_none, Nat.reduceBEq, isShift, kEq, fEq, binInt, binFloat, shiftInt, binStr])
      exact is_bool rfl
    · (try simp only [RS, RF, cond_true, cond_false, List.nil_append, List.cons_append, List.toList_toArray, Option.isSome_some, Option.map_some, Option.map_none, Nat.reduceBEq, isShift, kEq, fEq, binInt, binFloat, shiftInt, binStr])
      intro b3 h3
      rw [flt_cn, cn0] at h3
      rw [← h3]
      (try simp only [RS, RF, cond_true, cond_false, List.nil_append, List.cons_append, List.toList_toArray, Option.isSome_some, Option.map_some, Option.map_none, Nat.reduceBEq, isShift, kEq, fEq, binInt, binFloat, shiftInt, binStr])
      exact is_bool rfl
  · (try simp only [RS, RF, cond_true, cond_false, List.nil_append, List.cons_append, List.toList_toArray, Option.isSome_some, Option.map_some, Option.map_none, Nat.reduceBEq, isShift, kEq, fEq, binInt, binFloat, shiftInt, binStr])
    intro b2 h2
    rw [fgt_cn, cn0] at h2
    rw [← h2]
    cases b2
    · (try simp only [RS, RF, cond_true, cond_false, List.nil_append, List.cons_append, List.toList_toArray, Option.isSome_some, Option.map_some, Option.map_none, Nat.reduceBEq, isShift, kEq, fEq, binInt, binFloat, shiftInt, binStr])
      intro b3 h3
      rw [fgt_cn, cn0] at h3
      rw [← h3]
      cases b3
      · (try simp only [RS, RF, cond_true, cond_false, List.nil_append, List.cons_append, List.toList_toArray, Option.isSome_some, Option.map_some, Option.map_none, Nat.reduceBEq, isShift, kEq, fEq, binInt, binFloat, shiftInt, binStr])
        exact is_bool rfl
      · (try simp only [RS, RF, cond_true, cond_false, List.nil_append, List.cons_append, List.toList_toArray, Option.isSome_some, Option.map_some, Option.map_none, Nat.reduceBEq, isShift, kEq, fEq, binInt, binFloat, shiftInt, binStr])
        intro b4 h4
        rw [flt_cn, cn0] at h4
        rw [← h4]
        (try simp only [RS, RF, cond_true, cond_false, List.nil_append, List.cons_append, List.toList_toArray, Option.isSome_some, Option.map_some, Option.map_none, Nat.reduceBEq, isShift, kEq, fEq, binInt, binFloat, shiftInt, binStr])
        exact is_bool rfl
    · (try simp only [RS, RF, cond_true, cond_false, List.nil_append, List.cons_append, List.toList_toArray, Option.isSome_some, Option.map_some, Option.map_none, Nat.reduceBEq, isShift, kEq, fEq, binInt, binFloat, shiftInt, binStr])
      exact is_bool rfl
set_option maxRecDepth 100000 in
theorem halved_ct (w : World) (x y : Nat) : Ct Try.prog 186 #[.float .f32 x, .float .f32 y] w (IsF (FV .f32 .quo (FV .f32 .add (cn .f32 x) (cn .f32 y)) (some 1073741824)) w) := by
  (refine fn_of_W Try.func186 rfl (by kernel_rfl) (by kernel_rfl) (Nat.le_of_ble_eq_true (by kernel_rfl)) ?_; (try simp only [RS, RF, cond_true, cond_false, List.nil_append, List.cons_append, List.toList_toArray, Option.isSome_some, Option.map_some, Option.map_none, Nat.reduceBEq, isShift, kEq, fEq, binInt, binFloat, shiftInt, binStr, Try.f186]))
  intro r1 n1 h1 r2 n2 h2
  refine ⟨r2, rfl, ?_, (Bl.drewN w n1).trans (Bl.drewN _ n2)⟩
  rw [h2, h1]; congr 1
set_option maxRecDepth 100000 in
theorem f32bits_ct (w : World) (x : Nat) : Ct Try.prog 177 #[.float .f32 x] w (Is (.int .u32 x) w) := by
  refine .inr ⟨_, w, run_callFunc_extern (e := Extern.MathFloatBits.float32bits) Try.func177 (by kernel_rfl) (by kernel_rfl) (by kernel_rfl) (by kernel_rfl) _ w, rfl, Bl.refl w⟩
set_option maxRecDepth 100000 in
theorem l01Same_ct (w : World) (x y : Nat) : Ct Try.prog 94 #[.float .f32 x, .float .f32 y] w (Is (.bool (decide (cn .f32 x = cn .f32 y))) w) := by
  (refine fn_of_W Try.func94 rfl (by kernel_rfl) (by kernel_rfl) (Nat.le_of_ble_eq_true (by kernel_rfl)) ?_; (try simp only [RS, RF, cond_true, cond_false, List.nil_append, List.cons_append, List.toList_toArray, Option.isSome_some, Option.map_some, Option.map_none, Nat.reduceBEq, isShift, kEq, fEq, binInt, binFloat, shiftInt, binStr, Try.f94]))
  have cb : ∀ z, cn .f32 z = bif isNan .f32 z then none else some z := fun z => by unfold cn; cases isNan .f32 z <;> rfl
  rw [cb x, cb y]
  intro b1 h1
  rw [fne_self] at h1
  rw [← h1]
  cases b1
  · (try simp only [RS, RF, cond_true, cond_false, List.nil_append, List.cons_append, List.toList_toArray, Option.isSome_some, Option.map_some, Option.map_none, Nat.reduceBEq, isShift, kEq, fEq, binInt, binFloat, shiftInt, binStr])
    intro b2 h2
    rw [fne_self] at h2
    rw [← h2]
    cases b2
    · (try simp only [RS, RF, cond_true, cond_false, List.nil_append, List.cons_append, List.toList_toArray, Option.isSome_some, Option.map_some, Option.map_none, Nat.reduceBEq, isShift, kEq, fEq, binInt, binFloat, shiftInt, binStr])
      (refine (f32bits_ct w x).mono ?_; rintro _ w1 ⟨rfl, hw1⟩)
      (try simp only [RS, RF, cond_true, cond_false, List.nil_append, List.cons_append, List.toList_toArray, Option.isSome_some, Option.map_some, Option.map_none, Nat.reduceBEq, isShift, kEq, fEq, binInt, binFloat, shiftInt, binStr])
      (refine (f32bits_ct w1 y).mono ?_; rintro _ w2 ⟨rfl, hw2⟩)
      (try simp only [RS, RF, cond_true, cond_false, List.nil_append, List.cons_append, List.toList_toArray, Option.isSome_some, Option.map_some, Option.map_none, Nat.reduceBEq, isShift, kEq, fEq, binInt, binFloat, shiftInt, binStr])
      intro b3 h3
      refine ⟨?_, hw1.trans hw2⟩
      rw [h3]
      congr 1
      by_cases e : x = y
      · subst e; simp
      · have : ¬ ((x : Int) = (y : Int)) := by omega
        simp [e, this]
    · (try simp only [RS, RF, cond_true, cond_false, List.nil_append, List.cons_append, List.toList_toArray, Option.isSome_some, Option.map_some, Option.map_none, Nat.reduceBEq, isShift, kEq, fEq, binInt, binFloat, shiftInt, binStr])
      intro b3 h3
      rw [fne_self, ← h1] at h3
      subst h3
      (try simp only [RS, RF, cond_true, cond_false, List.nil_append, List.cons_append, List.toList_toArray, Option.isSome_some, Option.map_some, Option.map_none, Nat.reduceBEq, isShift, kEq, fEq, binInt, binFloat, shiftInt, binStr])
      exact is_bool rfl
  · (try simp only [RS, RF, cond_true, cond_false, List.nil_append, List.cons_append, List.toList_toArray, Option.isSome_some, Option.map_some, Option.map_none, Nat.reduceBEq, isShift, kEq, fEq, binInt, binFloat, shiftInt, binStr])
    intro b3 h3
    rw [fne_self, ← h1] at h3
    subst h3
    (try simp only [RS, RF, cond_true, cond_false, List.nil_append, List.cons_append, List.toList_toArray, Option.isSome_some, Option.map_some, Option.map_none, Nat.reduceBEq, isShift, kEq, fEq, binInt, binFloat, shiftInt, binStr])
    intro b4 h4
    rw [fne_self] at h4
    rw [← h4]
    cases b4
    · (try simp only [RS, RF, cond_true, cond_false, List.nil_append, List.cons_append, List.toList_toArray, Option.isSome_some, Option.map_some, Option.map_none, Nat.reduceBEq, isShift, kEq, fEq, binInt, binFloat, shiftInt, binStr])
      exact is_bool rfl
    · (try simp only [RS, RF, cond_true, cond_false, List.nil_append, List.cons_append, List.toList_toArray, Option.isSome_some, Option.map_some, Option.map_none, Nat.reduceBEq, isShift, kEq, fEq, binInt, binFloat, shiftInt, binStr])
      exact is_bool rfl
set_option maxRecDepth 100000 in
theorem SameNumber_ct (w : World) (x y : Nat) : Ct Try.prog 19 #[.float .f32 x, .float .f32 y] w (Is (.bool (decide (cn .f32 x = cn .f32 y))) w) := by
  (refine fn_of_W Try.func19 rfl (by kernel_rfl) (by kernel_rfl) (Nat.le_of_ble_eq_true (by kernel_rfl)) ?_; (try simp only [RS, RF, cond_true, cond_false, List.nil_append, List.cons_append, List.toList_toArray, Option.isSome_some, Option.map_some, Option.map_none, Nat.reduceBEq, isShift, kEq, fEq, binInt, binFloat, shiftInt, binStr, Try.f19]))
  (refine (l01Same_ct w x y).mono ?_; rintro _ w1 ⟨rfl, hw1⟩)
  (try simp only [RS, RF, cond_true, cond_false, List.nil_append, List.cons_append, List.toList_toArray, Option.isSome_some, Option.map_some, Option.map_none, Nat.reduceBEq, isShift, kEq, fEq, binInt, binFloat, shiftInt, binStr])
  exact ⟨rfl, hw1⟩
end Go.Proofs.Ytjgpnbchnenbeaa
