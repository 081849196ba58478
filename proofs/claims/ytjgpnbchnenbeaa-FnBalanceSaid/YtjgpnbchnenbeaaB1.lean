/- Points and weights: sums, parts, products, pulls. -/
import Derived.Test.YtjgpnbchnenbeaaB0
namespace Go.Proofs.Ytjgpnbchnenbeaa
set_option linter.unusedSimpArgs false
set_option linter.unusedVariables false
open Go
open Go.RowKit (Below)

/-! ### Operations on words, where they come to a number -/
def fop (o : BinOp) (x y : Nat) : Nat := (FV .f32 o (cn .f32 x) (cn .f32 y)).getD 0
def Okf (o : BinOp) (x y : Nat) : Prop := ∃ z, FV .f32 o (cn .f32 x) (cn .f32 y) = some z
abbrev fadd (x y : Nat) : Nat := fop .add x y
abbrev fsub (x y : Nat) : Nat := fop .sub x y
abbrev fmul (x y : Nat) : Nat := fop .mul x y
abbrev fquo (x y : Nat) : Nat := fop .quo x y
theorem Okf.eq {o : BinOp} {x y : Nat} (h : Okf o x y) : FV .f32 o (cn .f32 x) (cn .f32 y) = some (fop o x y) := by
  obtain ⟨z, hz⟩ := h
  unfold fop; rw [hz]; rfl
theorem Okf.word {o : BinOp} {x y r : Nat} (h : Okf o x y) (hr : cn .f32 r = FV .f32 o (cn .f32 x) (cn .f32 y)) : r = fop o x y :=
  (cn_some (hr.trans h.eq)).1

def tin : Rat := 1 / 1267650600228229401496703205376
theorem mul_bd {a b A B : Rat} (h1 : -A ≤ a) (h2 : a ≤ A) (h3 : -B ≤ b) (h4 : b ≤ B) : -(A * B) ≤ a * b ∧ a * b ≤ A * B := by
  have e1 : 0 ≤ (A - a) * (B + b) := Rat.mul_nonneg (by grind) (by grind)
  have e2 : 0 ≤ (A + a) * (B - b) := Rat.mul_nonneg (by grind) (by grind)
  have e3 : 0 ≤ (A - a) * (B - b) := Rat.mul_nonneg (by grind) (by grind)
  have e4 : 0 ≤ (A + a) * (B + b) := Rat.mul_nonneg (by grind) (by grind)
  constructor <;> grind
theorem Nr.bd {z : Nat} {v e M C : Rat} (h : Nr z v e) (h1 : -M ≤ v) (h2 : v ≤ M) (hC : M + e ≤ C) : Bd z C :=
  ⟨h.1, by have := h.2.1; grind, by have := h.2.2; grind⟩
theorem ep_tin (M : Rat) : ep M ≤ M / 16777216 + tin := ep_le
theorem Bd.add {x y : Nat} {A B C : Rat} (hx : Bd x A) (hy : Bd y B) (hC : A + B + ((A + B) / 16777216 + tin) ≤ C) (hM : A + B ≤ p2 99) : Okf .add x y ∧ Bd (fadd x y) C ∧ Nr (fadd x y) (val x + val y) (ep (A + B)) := by
  obtain ⟨h1, h2, h3⟩ := hx
  obtain ⟨k1, k2, k3⟩ := hy
  have l1 : -(A + B) ≤ val x + val y := by grind
  have l2 : val x + val y ≤ A + B := by grind
  have h100 : A + B ≤ p2 100 := Rat.le_trans hM (p2_le (by omega))
  obtain ⟨z, hz, hn⟩ := add_err h1 k1 l1 l2 h100
  have hok : Okf .add x y := ⟨z, by rw [h1.cn, k1.cn]; exact hz⟩
  have e : fadd x y = z := by
    have := hok.eq
    rw [h1.cn, k1.cn, hz] at this
    exact (Option.some.inj this).symm
  rw [e]
  have := ep_tin (A + B)
  exact ⟨hok, hn.bd l1 l2 (by grind), hn⟩
theorem Bd.sub {x y : Nat} {A B C : Rat} (hx : Bd x A) (hy : Bd y B) (hC : A + B + ((A + B) / 16777216 + tin) ≤ C) (hM : A + B ≤ p2 99) : Okf .sub x y ∧ Bd (fsub x y) C ∧ Nr (fsub x y) (val x - val y) (ep (A + B)) := by
  obtain ⟨h1, h2, h3⟩ := hx
  obtain ⟨k1, k2, k3⟩ := hy
  have l1 : -(A + B) ≤ val x - val y := by grind
  have l2 : val x - val y ≤ A + B := by grind
  have h100 : A + B ≤ p2 100 := Rat.le_trans hM (p2_le (by omega))
  obtain ⟨z, hz, hn⟩ := sub_err h1 k1 l1 l2 h100
  have hok : Okf .sub x y := ⟨z, by rw [h1.cn, k1.cn]; exact hz⟩
  have e : fsub x y = z := by
    have := hok.eq
    rw [h1.cn, k1.cn, hz] at this
    exact (Option.some.inj this).symm
  rw [e]
  have := ep_tin (A + B)
  exact ⟨hok, hn.bd l1 l2 (by grind), hn⟩
theorem Bd.mul {x y : Nat} {A B C : Rat} (hx : Bd x A) (hy : Bd y B) (hC : A * B + (A * B / 16777216 + tin) ≤ C) (hM : A * B ≤ p2 99) : Okf .mul x y ∧ Bd (fmul x y) C ∧ Nr (fmul x y) (val x * val y) (ep (A * B)) := by
  obtain ⟨h1, h2, h3⟩ := hx
  obtain ⟨k1, k2, k3⟩ := hy
  obtain ⟨l1, l2⟩ := mul_bd h2 h3 k2 k3
  have h100 : A * B ≤ p2 100 := Rat.le_trans hM (p2_le (by omega))
  obtain ⟨z, hz, hn⟩ := mul_err h1 k1 l1 l2 h100
  have hok : Okf .mul x y := ⟨z, by rw [h1.cn, k1.cn]; exact hz⟩
  have e : fmul x y = z := by
    have := hok.eq
    rw [h1.cn, k1.cn, hz] at this
    exact (Option.some.inj this).symm
  rw [e]
  have := ep_tin (A * B)
  exact ⟨hok, hn.bd l1 l2 (by grind), hn⟩
/-- a quotient Q, bounded -/
theorem quo_ok {x y : Nat} {M C Q : Rat} (hx : FinW x) (hy : FinW y) (h0 : val y ≠ 0) (hQ : Q * val y = val x) (h1 : -M ≤ Q) (h2 : Q ≤ M) (hM : M ≤ p2 99) (hC : M + 2 * (M / 16777216 + tin) ≤ C) :
    Okf .quo x y ∧ Bd (fquo x y) C ∧ Nr (fquo x y) Q (2 * ep M) := by
  obtain ⟨z, hz, hn⟩ := quo_err hx hy h0 hQ h1 h2 hM
  have hok : Okf .quo x y := ⟨z, by rw [hx.cn, hy.cn]; exact hz⟩
  have e : fquo x y = z := by
    have := hok.eq
    rw [hx.cn, hy.cn, hz] at this
    exact (Option.some.inj this).symm
  rw [e]
  have := ep_tin M
  exact ⟨hok, hn.bd h1 h2 (by grind), hn⟩
set_option maxRecDepth 100000 in
theorem Part_ct (w : World) (x y m : Nat) (h1 : Okf .mul x m) (h2 : Okf .mul y m) :
    Ct Try.prog 144 #[cx x y, fl m] w (Is (cx (fmul x m) (fmul y m)) w) := by
  (refine fn_of_W Try.func144 rfl (by kernel_rfl) (by kernel_rfl) (Nat.le_of_ble_eq_true (by kernel_rfl)) ?_; (try simp only [RS, RF, cond_true, cond_false, List.nil_append, List.cons_append, List.toList_toArray, Option.isSome_some, Option.map_some, Option.map_none, Nat.reduceBEq, isShift, kEq, fEq, binInt, binFloat, shiftInt, binStr, Try.f144]))
  intro r n hr s k hs
  rw [h1.word hr, h2.word hs]
  exact ⟨rfl, (Bl.drewN _ _).trans (Bl.drewN _ _)⟩
set_option maxRecDepth 100000 in
theorem lPart_ct (w : World) (x y m : Nat) (h1 : Okf .mul x m) (h2 : Okf .mul y m) :
    Ct Try.prog 147 #[cx x y, fl m] w (Is (cx (fmul x m) (fmul y m)) w) := by
  (refine fn_of_W Try.func147 rfl (by kernel_rfl) (by kernel_rfl) (Nat.le_of_ble_eq_true (by kernel_rfl)) ?_; (try simp only [RS, RF, cond_true, cond_false, List.nil_append, List.cons_append, List.toList_toArray, Option.isSome_some, Option.map_some, Option.map_none, Nat.reduceBEq, isShift, kEq, fEq, binInt, binFloat, shiftInt, binStr, Try.f147]))
  intro r n hr s k hs
  rw [h1.word hr, h2.word hs]
  exact ⟨rfl, (Bl.drewN _ _).trans (Bl.drewN _ _)⟩
set_option maxRecDepth 100000 in
theorem Plus_ct (w : World) (x y u v : Nat) (h1 : Okf .add x u) (h2 : Okf .add y v) :
    Ct Try.prog 143 #[cx x y, cx u v] w (Is (cx (fadd x u) (fadd y v)) w) := by
  (refine fn_of_W Try.func143 rfl (by kernel_rfl) (by kernel_rfl) (Nat.le_of_ble_eq_true (by kernel_rfl)) ?_; (try simp only [RS, RF, cond_true, cond_false, List.nil_append, List.cons_append, List.toList_toArray, Option.isSome_some, Option.map_some, Option.map_none, Nat.reduceBEq, isShift, kEq, fEq, binInt, binFloat, shiftInt, binStr, Try.f143]))
  intro r n hr s k hs
  rw [h1.word hr, h2.word hs]
  exact ⟨rfl, (Bl.drewN _ _).trans (Bl.drewN _ _)⟩
set_option maxRecDepth 100000 in
theorem lPlus_ct (w : World) (x y u v : Nat) (h1 : Okf .add x u) (h2 : Okf .add y v) :
    Ct Try.prog 146 #[cx x y, cx u v] w (Is (cx (fadd x u) (fadd y v)) w) := by
  (refine fn_of_W Try.func146 rfl (by kernel_rfl) (by kernel_rfl) (Nat.le_of_ble_eq_true (by kernel_rfl)) ?_; (try simp only [RS, RF, cond_true, cond_false, List.nil_append, List.cons_append, List.toList_toArray, Option.isSome_some, Option.map_some, Option.map_none, Nat.reduceBEq, isShift, kEq, fEq, binInt, binFloat, shiftInt, binStr, Try.f146]))
  intro r n hr s k hs
  rw [h1.word hr, h2.word hs]
  exact ⟨rfl, (Bl.drewN _ _).trans (Bl.drewN _ _)⟩
def dotW (x y u v : Nat) : Nat := fadd (fmul x u) (fmul y v)
def Dot (x y u v : Nat) : Prop := Okf .mul x u ∧ Okf .mul y v ∧ Okf .add (fmul x u) (fmul y v)
set_option maxRecDepth 100000 in
theorem dot_ct (w : World) (x y u v : Nat) (h : Dot x y u v) : Ct Try.prog 138 #[cx x y, cx u v] w (Is (fl (dotW x y u v)) w) := by
  obtain ⟨h1, h2, h3⟩ := h
  (refine fn_of_W Try.func138 rfl (by kernel_rfl) (by kernel_rfl) (Nat.le_of_ble_eq_true (by kernel_rfl)) ?_; (try simp only [RS, RF, cond_true, cond_false, List.nil_append, List.cons_append, List.toList_toArray, Option.isSome_some, Option.map_some, Option.map_none, Nat.reduceBEq, isShift, kEq, fEq, binInt, binFloat, shiftInt, binStr, Try.f138]))
  intro r n hr s k hs
  rw [h1.word hr, h2.word hs]
  intro t m ht
  rw [h3.word ht]
  exact ⟨rfl, ((Bl.drewN _ _).trans (Bl.drewN _ _)).trans (Bl.drewN _ _)⟩
set_option maxRecDepth 100000 in
theorem Square_ct (w : World) (x y : Nat) (h : Dot x y x y) : Ct Try.prog 50 #[cx x y] w (Is (fl (dotW x y x y)) w) := by
  (refine fn_of_W Try.func50 rfl (by kernel_rfl) (by kernel_rfl) (Nat.le_of_ble_eq_true (by kernel_rfl)) ?_; (try simp only [RS, RF, cond_true, cond_false, List.nil_append, List.cons_append, List.toList_toArray, Option.isSome_some, Option.map_some, Option.map_none, Nat.reduceBEq, isShift, kEq, fEq, binInt, binFloat, shiftInt, binStr, Try.f50]))
  (refine (dot_ct w x y x y h).mono ?_; rintro _ w1 ⟨rfl, hw1⟩)
  (try simp only [RS, RF, cond_true, cond_false, List.nil_append, List.cons_append, List.toList_toArray, Option.isSome_some, Option.map_some, Option.map_none, Nat.reduceBEq, isShift, kEq, fEq, binInt, binFloat, shiftInt, binStr])
  exact ⟨rfl, hw1⟩
set_option maxRecDepth 100000 in
theorem lSquare_ct (w : World) (x y : Nat) (h : Dot x y x y) : Ct Try.prog 141 #[cx x y] w (Is (fl (dotW x y x y)) w) := by
  obtain ⟨h1, h2, h3⟩ := h
  (refine fn_of_W Try.func141 rfl (by kernel_rfl) (by kernel_rfl) (Nat.le_of_ble_eq_true (by kernel_rfl)) ?_; (try simp only [RS, RF, cond_true, cond_false, List.nil_append, List.cons_append, List.toList_toArray, Option.isSome_some, Option.map_some, Option.map_none, Nat.reduceBEq, isShift, kEq, fEq, binInt, binFloat, shiftInt, binStr, Try.f141]))
  intro r n hr s k hs
  rw [h1.word hr, h2.word hs]
  intro t m ht
  rw [h3.word ht]
  exact ⟨rfl, ((Bl.drewN _ _).trans (Bl.drewN _ _)).trans (Bl.drewN _ _)⟩
set_option maxRecDepth 100000 in
theorem sSquare_ct (w : World) (x y : Nat) (h : Dot x y x y) : Ct Try.prog 53 #[cx x y] w (Is (fl (dotW x y x y)) w) := by
  (refine fn_of_W Try.func53 rfl (by kernel_rfl) (by kernel_rfl) (Nat.le_of_ble_eq_true (by kernel_rfl)) ?_; (try simp only [RS, RF, cond_true, cond_false, List.nil_append, List.cons_append, List.toList_toArray, Option.isSome_some, Option.map_some, Option.map_none, Nat.reduceBEq, isShift, kEq, fEq, binInt, binFloat, shiftInt, binStr, Try.f53]))
  (refine (lSquare_ct w x y h).mono ?_; rintro _ w1 ⟨rfl, hw1⟩)
  (try simp only [RS, RF, cond_true, cond_false, List.nil_append, List.cons_append, List.toList_toArray, Option.isSome_some, Option.map_some, Option.map_none, Nat.reduceBEq, isShift, kEq, fEq, binInt, binFloat, shiftInt, binStr])
  exact ⟨rfl, hw1⟩
/-- the difference of the products of unlike parts -/
def crossW (x y u v : Nat) : Nat := fsub (fmul x v) (fmul y u)
def Cross (x y u v : Nat) : Prop := Okf .mul x v ∧ Okf .mul y u ∧ Okf .sub (fmul x v) (fmul y u)
set_option maxRecDepth 100000 in
theorem cross_ct (w : World) (x y u v : Nat) (h : Cross x y u v) : Ct Try.prog 151 #[cx x y, cx u v] w (Is (fl (crossW x y u v)) w) := by
  obtain ⟨h1, h2, h3⟩ := h
  (refine fn_of_W Try.func151 rfl (by kernel_rfl) (by kernel_rfl) (Nat.le_of_ble_eq_true (by kernel_rfl)) ?_; (try simp only [RS, RF, cond_true, cond_false, List.nil_append, List.cons_append, List.toList_toArray, Option.isSome_some, Option.map_some, Option.map_none, Nat.reduceBEq, isShift, kEq, fEq, binInt, binFloat, shiftInt, binStr, Try.f151]))
  intro r n hr s k hs
  rw [h1.word hr, h2.word hs]
  intro t m ht
  rw [h3.word ht]
  exact ⟨rfl, ((Bl.drewN _ _).trans (Bl.drewN _ _)).trans (Bl.drewN _ _)⟩

/-! ### The same, tests -/
set_option maxRecDepth 100000 in
theorem iSame_ct (w : World) (x : Nat) (h : isNan .f32 x = false) : Ct Try.prog 140 #[fl x, fl x] w (Is (.bool true) w) := by
  (refine fn_of_W Try.func140 rfl (by kernel_rfl) (by kernel_rfl) (Nat.le_of_ble_eq_true (by kernel_rfl)) ?_; (try simp only [RS, RF, cond_true, cond_false, List.nil_append, List.cons_append, List.toList_toArray, Option.isSome_some, Option.map_some, Option.map_none, Nat.reduceBEq, isShift, kEq, fEq, binInt, binFloat, shiftInt, binStr, Try.f140]))
  have e : fne .f32 x x = false := by rw [fne_self]; exact h
  (try simp only [RS, RF, cond_true, cond_false, List.nil_append, List.cons_append, List.toList_toArray, Option.isSome_some, Option.map_some, Option.map_none, Nat.reduceBEq, isShift, kEq, fEq, binInt, binFloat, shiftInt, binStr, forall_eq, e])
  (refine (f32bits_ct w x).mono ?_; rintro _ w1 ⟨rfl, hw1⟩)
  (try simp only [RS, RF, cond_true, cond_false, List.nil_append, List.cons_append, List.toList_toArray, Option.isSome_some, Option.map_some, Option.map_none, Nat.reduceBEq, isShift, kEq, fEq, binInt, binFloat, shiftInt, binStr])
  (refine (f32bits_ct w1 x).mono ?_; rintro _ w2 ⟨rfl, hw2⟩)
  (try simp only [RS, RF, cond_true, cond_false, List.nil_append, List.cons_append, List.toList_toArray, Option.isSome_some, Option.map_some, Option.map_none, Nat.reduceBEq, isShift, kEq, fEq, binInt, binFloat, shiftInt, binStr, forall_eq, beq_self_eq_true])
  exact ⟨rfl, hw1.trans hw2⟩
set_option maxRecDepth 100000 in
theorem lSame_ct (w : World) (x y : Nat) : Ct Try.prog 139 #[cx x y, cx x y] w (Is (.bool true) w) := by
  (refine fn_of_W Try.func139 rfl (by kernel_rfl) (by kernel_rfl) (Nat.le_of_ble_eq_true (by kernel_rfl)) ?_; (try simp only [RS, RF, cond_true, cond_false, List.nil_append, List.cons_append, List.toList_toArray, Option.isSome_some, Option.map_some, Option.map_none, Nat.reduceBEq, isShift, kEq, fEq, binInt, binFloat, shiftInt, binStr, Try.f139]))
  (refine (l01Same_ct w x x).mono ?_; rintro _ w1 ⟨rfl, hw1⟩)
  rw [decide_eq_true rfl]
  (try simp only [RS, RF, cond_true, cond_false, List.nil_append, List.cons_append, List.toList_toArray, Option.isSome_some, Option.map_some, Option.map_none, Nat.reduceBEq, isShift, kEq, fEq, binInt, binFloat, shiftInt, binStr])
  (refine (l01Same_ct w1 y y).mono ?_; rintro _ w2 ⟨rfl, hw2⟩)
  rw [decide_eq_true rfl]
  (try simp only [RS, RF, cond_true, cond_false, List.nil_append, List.cons_append, List.toList_toArray, Option.isSome_some, Option.map_some, Option.map_none, Nat.reduceBEq, isShift, kEq, fEq, binInt, binFloat, shiftInt, binStr])
  exact ⟨rfl, hw1.trans hw2⟩
set_option maxRecDepth 100000 in
theorem sSamePoint_ct (w : World) (x y : Nat) : Ct Try.prog 51 #[cx x y, cx x y] w (Is (.bool true) w) := by
  (refine fn_of_W Try.func51 rfl (by kernel_rfl) (by kernel_rfl) (Nat.le_of_ble_eq_true (by kernel_rfl)) ?_; (try simp only [RS, RF, cond_true, cond_false, List.nil_append, List.cons_append, List.toList_toArray, Option.isSome_some, Option.map_some, Option.map_none, Nat.reduceBEq, isShift, kEq, fEq, binInt, binFloat, shiftInt, binStr, Try.f51]))
  (refine (lSame_ct w x y).mono ?_; rintro _ w1 ⟨rfl, hw1⟩)
  (try simp only [RS, RF, cond_true, cond_false, List.nil_append, List.cons_append, List.toList_toArray, Option.isSome_some, Option.map_some, Option.map_none, Nat.reduceBEq, isShift, kEq, fEq, binInt, binFloat, shiftInt, binStr])
  exact ⟨rfl, hw1⟩
set_option maxRecDepth 100000 in
theorem iSamePoint_ct (w : World) (x y : Nat) (h1 : isNan .f32 x = false) (h2 : isNan .f32 y = false) : Ct Try.prog 52 #[cx x y, cx x y] w (Is (.bool true) w) := by
  (refine fn_of_W Try.func52 rfl (by kernel_rfl) (by kernel_rfl) (Nat.le_of_ble_eq_true (by kernel_rfl)) ?_; (try simp only [RS, RF, cond_true, cond_false, List.nil_append, List.cons_append, List.toList_toArray, Option.isSome_some, Option.map_some, Option.map_none, Nat.reduceBEq, isShift, kEq, fEq, binInt, binFloat, shiftInt, binStr, Try.f52]))
  (refine (iSame_ct w x h1).mono ?_; rintro _ w1 ⟨rfl, hw1⟩)
  (try simp only [RS, RF, cond_true, cond_false, List.nil_append, List.cons_append, List.toList_toArray, Option.isSome_some, Option.map_some, Option.map_none, Nat.reduceBEq, isShift, kEq, fEq, binInt, binFloat, shiftInt, binStr])
  (refine (iSame_ct w1 y h2).mono ?_; rintro _ w2 ⟨rfl, hw2⟩)
  (try simp only [RS, RF, cond_true, cond_false, List.nil_append, List.cons_append, List.toList_toArray, Option.isSome_some, Option.map_some, Option.map_none, Nat.reduceBEq, isShift, kEq, fEq, binInt, binFloat, shiftInt, binStr])
  exact ⟨rfl, hw1.trans hw2⟩
theorem val_m20 : FinW 3380609024 ∧ val 3380609024 = -1048576 := by
  refine ⟨⟨by omega, by omega⟩, ?_⟩
  have := val_const (x := 3380609024) (-1048576) 0 (by omega) (by kernel_rfl)
  rw [show -((0 : Nat) : Int) = 0 from rfl, p2_zero, Rat.mul_one] at this
  rw [this]; rfl
theorem val_20 : FinW 1233125376 ∧ val 1233125376 = 1048576 := by
  refine ⟨⟨by omega, by omega⟩, ?_⟩
  have := val_const (x := 1233125376) 1048576 0 (by omega) (by kernel_rfl)
  rw [show -((0 : Nat) : Int) = 0 from rfl, p2_zero, Rat.mul_one] at this
  rw [this]; rfl
theorem val_zero : FinW 0 ∧ val 0 = 0 := ⟨⟨by omega, by omega⟩, by unfold val; rw [if_pos (by omega), qv_zero]⟩
theorem plain_val {x : Nat} (h : FinW x) : plainB x = (decide (-1048576 ≤ val x) && decide (val x ≤ 1048576)) := by
  unfold plainB
  rw [fle_val val_m20.1 h, fle_val h val_20.1, val_m20.2, val_20.2]
theorem amount_val {x : Nat} (h : FinW x) : amountB x = (decide (0 ≤ val x) && decide (val x ≤ 1048576)) := by
  unfold amountB
  rw [fle_val val_zero.1 h, fle_val h val_20.1, val_zero.2, val_20.2]
theorem Bd.plain {x : Nat} (h : Bd x 1048576) : plainB x = true := by
  rw [plain_val h.fin, decide_eq_true h.lo, decide_eq_true h.hi]; rfl
set_option maxRecDepth 100000 in
theorem IsPoint_ct (w : World) (x y : Nat) (h1 : plainB x = true) (h2 : plainB y = true) : Ct Try.prog 55 #[cx x y] w (Is (.bool true) w) := by
  (refine fn_of_W Try.func55 rfl (by kernel_rfl) (by kernel_rfl) (Nat.le_of_ble_eq_true (by kernel_rfl)) ?_; (try simp only [RS, RF, cond_true, cond_false, List.nil_append, List.cons_append, List.toList_toArray, Option.isSome_some, Option.map_some, Option.map_none, Nat.reduceBEq, isShift, kEq, fEq, binInt, binFloat, shiftInt, binStr, Try.f55]))
  (refine (isPlain_ct w x).mono ?_; rintro _ w1 ⟨rfl, hw1⟩)
  rw [h1]
  (try simp only [RS, RF, cond_true, cond_false, List.nil_append, List.cons_append, List.toList_toArray, Option.isSome_some, Option.map_some, Option.map_none, Nat.reduceBEq, isShift, kEq, fEq, binInt, binFloat, shiftInt, binStr])
  (refine (isPlain_ct w1 y).mono ?_; rintro _ w2 ⟨rfl, hw2⟩)
  rw [h2]
  (try simp only [RS, RF, cond_true, cond_false, List.nil_append, List.cons_append, List.toList_toArray, Option.isSome_some, Option.map_some, Option.map_none, Nat.reduceBEq, isShift, kEq, fEq, binInt, binFloat, shiftInt, binStr])
  exact ⟨rfl, hw1.trans hw2⟩
set_option maxRecDepth 100000 in
theorem lPoint_ct (w : World) (x y : Nat) (h1 : plainB x = true) (h2 : plainB y = true) : Ct Try.prog 145 #[cx x y] w (Is (.bool true) w) := by
  (refine fn_of_W Try.func145 rfl (by kernel_rfl) (by kernel_rfl) (Nat.le_of_ble_eq_true (by kernel_rfl)) ?_; (try simp only [RS, RF, cond_true, cond_false, List.nil_append, List.cons_append, List.toList_toArray, Option.isSome_some, Option.map_some, Option.map_none, Nat.reduceBEq, isShift, kEq, fEq, binInt, binFloat, shiftInt, binStr, Try.f145]))
  (refine (plain_ct w x).mono ?_; rintro _ w1 ⟨rfl, hw1⟩)
  rw [h1]
  (try simp only [RS, RF, cond_true, cond_false, List.nil_append, List.cons_append, List.toList_toArray, Option.isSome_some, Option.map_some, Option.map_none, Nat.reduceBEq, isShift, kEq, fEq, binInt, binFloat, shiftInt, binStr])
  (refine (plain_ct w1 y).mono ?_; rintro _ w2 ⟨rfl, hw2⟩)
  rw [h2]
  (try simp only [RS, RF, cond_true, cond_false, List.nil_append, List.cons_append, List.toList_toArray, Option.isSome_some, Option.map_some, Option.map_none, Nat.reduceBEq, isShift, kEq, fEq, binInt, binFloat, shiftInt, binStr])
  exact ⟨rfl, hw1.trans hw2⟩

/-! ### Weights -/
/-- weights lie from a cell of a block onwards -/
structure WtAt (w : World) (b o : Nat) (ws : List WV) : Prop where
  cells : ∀ k d, ws[k]? = some d → w.cell? ⟨b, o + k * 2, none⟩ = some (cx d.1 d.2.1) ∧ w.cell? ⟨b, o + k * 2 + 1, none⟩ = some (fl d.2.2)
  le : ws.length ≤ 20
theorem WtAt.bl {w w' : World} {b o : Nat} {ws : List WV} (h : WtAt w b o ws) (hb : Bl w w') : WtAt w' b o ws :=
  ⟨fun k d hk => ⟨hb.cell (h.cells k d hk).1, hb.cell (h.cells k d hk).2⟩, h.le⟩
/-- the value of a slice of weights: its address is none only where it is empty -/
def WtV (w : World) (v : Value) (ws : List WV) : Prop := ∃ a cap, v = .slice a ws.length cap ∧ ws.length ≤ 20 ∧ (0 < ws.length → ∃ b o, a = some ⟨b, o, none⟩ ∧ WtAt w b o ws)
theorem WtV.bl {w w' : World} {v : Value} {ws : List WV} (h : WtV w v ws) (hb : Bl w w') : WtV w' v ws := by
  obtain ⟨a, cap, rfl, hl, hc⟩ := h
  exact ⟨a, cap, rfl, hl, fun h0 => by obtain ⟨b, o, e, hW⟩ := hc h0; exact ⟨b, o, e, hW.bl hb⟩⟩
theorem WtV.of_own {w : World} {B : Nat} {v : Value} {ws : List WV} {el : TypeId} (h : w.ownsRow B el 2 v ws.length (ws.flatMap wcells)) (h5 : ws.length ≤ 20) : WtV w v ws := by
  obtain ⟨_, a, cap, rfl, hc⟩ := Rd.of_own h
  refine ⟨a, cap, rfl, h5, fun h0 => ?_⟩
  obtain ⟨b, o, rfl, hcell⟩ := hc h0
  refine ⟨b, o, rfl, fun k d hk => ⟨?_, ?_⟩, h5⟩
  · exact hcell _ _ (flat_get wcells_len ws k 0 d hk (by omega))
  · exact hcell _ _ (flat_get wcells_len ws k 1 d hk (by omega))
/-- a weight that may be told of: parts plain, the mass an amount -/
def Wok (d : WV) : Prop := plainB d.1 = true ∧ plainB d.2.1 = true ∧ amountB d.2.2 = true ∧ FinW d.2.2
theorem WOK.ok {d : WV} (h : WOK d) : Wok d := by
  obtain ⟨h1, h2, h3⟩ := h
  have m := h3.bd
  refine ⟨(h1.bd.mono (by grind)).plain, (h2.bd.mono (by grind)).plain, ?_, m.1.fin⟩
  · rw [amount_val m.1.fin, decide_eq_true m.2, decide_eq_true (by have := m.1.hi; grind)]; rfl
theorem amount_plain {x : Nat} (h : amountB x = true) (hf : FinW x) : plainB x = true ∧ flt .f32 x 0 = false := by
  rw [amount_val hf] at h
  simp only [Bool.and_eq_true, decide_eq_true_eq] at h
  refine ⟨?_, ?_⟩
  · rw [plain_val hf, decide_eq_true (by grind), decide_eq_true h.2]; rfl
  · rw [flt_val hf val_zero.1, val_zero.2, decide_eq_false (by grind)]
end Go.Proofs.Ytjgpnbchnenbeaa
