/- Points and weights that are drawn: numbers, places, weights. -/
import Derived.Test.YtjgpnbchnenbeaaC1
import Derived.Test.YtjgpnbchnenbeaaM1
import Derived.Test.YtjgpnbchnenbeaaF5
namespace Go.Proofs.Ytjgpnbchnenbeaa
set_option linter.unusedSimpArgs false
set_option linter.unusedVariables false
open Go
open Go.RowKit (Below)

abbrev fl (x : Nat) : Value := .float .f32 x
abbrev cx (x y : Nat) : Value := .complex .f32 x y

/-! ### Bounded words -/
structure Bd (x : Nat) (M : Rat) : Prop where
  fin : FinW x
  lo : -M ≤ val x
  hi : val x ≤ M
theorem Bd.mono {x : Nat} {M N : Rat} (h : Bd x M) (hn : M ≤ N) : Bd x N := ⟨h.fin, by have := h.lo; grind, by have := h.hi; grind⟩
theorem qv_mono {x c : Nat} (hc : c ≤ 2139095040) (h : x ≤ c) : qv x ≤ qv c := nv_le _ ((mag_le (by omega) hc).2 h)
/-- words from -10 to 10 -/
def PtOK (x : Nat) : Prop := x < 4294967296 ∧ x % 2147483648 ≤ 1092616192
/-- words from 0 to 39 -/
def MsOK (x : Nat) : Prop := x ≤ 1109131264
theorem qv_10 : qv 1092616192 = 10 := by
  have := val_const (x := 1092616192) 10 0 (by omega) (by kernel_rfl)
  rw [show -((0 : Nat) : Int) = 0 from rfl, p2_zero] at this
  have e : val 1092616192 = qv 1092616192 := rfl
  rw [e] at this
  rw [this, Rat.mul_one]; rfl
theorem qv_39 : qv 1109131264 = 39 := by
  have := val_const (x := 1109131264) 39 0 (by omega) (by kernel_rfl)
  rw [show -((0 : Nat) : Int) = 0 from rfl, p2_zero] at this
  have e : val 1109131264 = qv 1109131264 := rfl
  rw [e] at this
  rw [this, Rat.mul_one]; rfl
theorem PtOK.bd {x : Nat} (h : PtOK x) : Bd x 10 := by
  obtain ⟨h1, h2⟩ := h
  have hf : FinW x := ⟨h1, by omega⟩
  have hq := qv_mono (by omega) h2
  have h0 := qv_nonneg (x % 2147483648)
  rw [qv_10] at hq
  refine ⟨hf, ?_, ?_⟩ <;> unfold val <;> split
  · have e : x % 2147483648 = x := by omega
    rw [e] at hq h0; grind
  · have e : x % 2147483648 = x - 2147483648 := by omega
    rw [e] at hq h0; grind
  · have e : x % 2147483648 = x := by omega
    rw [e] at hq h0; grind
  · have e : x % 2147483648 = x - 2147483648 := by omega
    rw [e] at hq h0; grind
theorem MsOK.bd {x : Nat} (h : MsOK x) : Bd x 39 ∧ 0 ≤ val x := by
  unfold MsOK at h
  have hq := qv_mono (by omega) h
  rw [qv_39] at hq
  have h0 := qv_nonneg x
  have e : val x = qv x := by unfold val; rw [if_pos (by omega)]
  exact ⟨⟨⟨by omega, by omega⟩, by grind, by grind⟩, by grind⟩

def inR (c : Nat) (F : Option Nat) : Bool := match F with | some r => decide (r < 4294967296) && decide (r % 2147483648 ≤ c) | none => false
theorem inR_pt {F : Option Nat} {r : Nat} (h : inR 1092616192 F = true) (hr : cn .f32 r = F) : PtOK r := by
  unfold inR at h
  split at h
  · rename_i z
    simp only [Bool.and_eq_true, decide_eq_true_eq] at h
    have := (cn_some hr).1
    subst this
    exact h
  · cases h
def fewAll : Bool := (List.range 65).all fun x => inR 1092616192 (FV .f32 .quo (fi ((x : Int) - 32)) (cn .f32 1082130432))
theorem fewAll_t : fewAll = true := by kernel_rfl
def hunAll : Bool := (List.range 2001).all fun x => inR 1092616192 (FV .f32 .quo (fi ((x : Int) - 1000)) (cn .f32 1120403456))
theorem hunAll_t : hunAll = true := by kernel_rfl
def massAll : Bool := (List.range 40).all fun x => [1, 3, 4].all fun y => match FV .f32 .quo (fi (x : Int)) (fi y) with | some r => decide (r ≤ 1109131264) | none => false
theorem massAll_t : massAll = true := by kernel_rfl
theorem few_ok {x : Int} (h0 : 0 ≤ x) (h1 : x < 65) {r : Nat} (hr : cn .f32 r = FV .f32 .quo (cn .f32 (FloatKind.f32.nearest (x - 32))) (cn .f32 1082130432)) : PtOK r := by
  have := List.all_eq_true.1 fewAll_t x.toNat (List.mem_range.2 (by omega))
  rw [show ((x.toNat : Nat) : Int) = x by omega] at this
  exact inR_pt this hr
theorem hun_ok {x : Int} (h0 : 0 ≤ x) (h1 : x < 2001) {r : Nat} (hr : cn .f32 r = FV .f32 .quo (cn .f32 (FloatKind.f32.nearest (x - 1000))) (cn .f32 1120403456)) : PtOK r := by
  have := List.all_eq_true.1 hunAll_t x.toNat (List.mem_range.2 (by omega))
  rw [show ((x.toNat : Nat) : Int) = x by omega] at this
  exact inR_pt this hr
theorem mass_ok {x y : Int} (h0 : 0 ≤ x) (h1 : x < 40) (hy : y ∈ [1, 3, 4]) {r : Nat} (hr : cn .f32 r = FV .f32 .quo (cn .f32 (FloatKind.f32.nearest x)) (cn .f32 (FloatKind.f32.nearest y))) : MsOK r := by
  have := List.all_eq_true.1 (List.all_eq_true.1 massAll_t x.toNat (List.mem_range.2 (by omega))) y hy
  rw [show ((x.toNat : Nat) : Int) = x by omega] at this
  split at this
  · rename_i z hz
    have e : cn .f32 r = some z := hr.trans hz
    have e2 := (cn_some e).1
    subst e2
    have h2 : r ≤ 1109131264 := of_decide_eq_true this
    exact h2
  · cases this

/-! ### Places -/
/-- the words of the places -/
def plW : Nat → Nat × Nat
  | 0 => (1065353216, 0) | 1 => (1060438016, 1060438016) | 2 => (0, 1065353216) | 3 => (3207921664, 1060438016)
  | 4 => (3212836864, 0) | 5 => (3207921664, 3207921664) | 6 => (0, 3212836864) | _ => (1060438016, 3207921664)
/-- the same in 256ths -/
def plI : Nat → Int × Int
  | 0 => (256, 0) | 1 => (181, 181) | 2 => (0, 256) | 3 => (-181, 181)
  | 4 => (-256, 0) | 5 => (-181, -181) | 6 => (0, -256) | _ => (181, -181)
theorem plW_val : ∀ n, n < 8 → val (plW n).1 = ((plI n).1 : Rat) * p2 (-8) ∧ val (plW n).2 = ((plI n).2 : Rat) * p2 (-8) := by
  intro n hn
  match n, hn with
  | 0, _ => exact ⟨val_const 256 8 (by omega) (by kernel_rfl), val_const 0 8 (by omega) (by kernel_rfl)⟩
  | 1, _ => exact ⟨val_const 181 8 (by omega) (by kernel_rfl), val_const 181 8 (by omega) (by kernel_rfl)⟩
  | 2, _ => exact ⟨val_const 0 8 (by omega) (by kernel_rfl), val_const 256 8 (by omega) (by kernel_rfl)⟩
  | 3, _ => exact ⟨val_const (-181) 8 (by omega) (by kernel_rfl), val_const 181 8 (by omega) (by kernel_rfl)⟩
  | 4, _ => exact ⟨val_const (-256) 8 (by omega) (by kernel_rfl), val_const 0 8 (by omega) (by kernel_rfl)⟩
  | 5, _ => exact ⟨val_const (-181) 8 (by omega) (by kernel_rfl), val_const (-181) 8 (by omega) (by kernel_rfl)⟩
  | 6, _ => exact ⟨val_const 0 8 (by omega) (by kernel_rfl), val_const (-256) 8 (by omega) (by kernel_rfl)⟩
  | 7, _ => exact ⟨val_const 181 8 (by omega) (by kernel_rfl), val_const (-181) 8 (by omega) (by kernel_rfl)⟩
theorem plW_ok : ∀ n, n < 8 → (plW n).1 < 4294967296 ∧ (plW n).1 % 2147483648 ≤ 1065353216 ∧ (plW n).2 < 4294967296 ∧ (plW n).2 % 2147483648 ≤ 1065353216 := by decide
theorem plW_pt {n : Nat} (h : n < 8) : PtOK (plW n).1 ∧ PtOK (plW n).2 := by
  obtain ⟨h1, h2, h3, h4⟩ := plW_ok n h
  exact ⟨⟨h1, by omega⟩, ⟨h3, by omega⟩⟩
theorem bsPlaces (w : World) : (Instr.buildSlice 188 8 ([(0, cx 1065353216 0), (1, cx 1060438016 1060438016), (2, cx 0 1065353216), (3, cx 3207921664 1060438016), (4, cx 3212836864 0), (5, cx 3207921664 3207921664), (6, cx 0 3212836864), (7, cx 1060438016 3207921664)] : List (Nat × Value)).toArray).run Try.prog w =
    .ok (.slice (some ⟨w.heap.size, 0, none⟩) 8 8) (w.alloc (.cells ((List.range 8).map fun n => cx (plW n).1 (plW n).2).toArray 62)) := by kernel_rfl
set_option maxRecDepth 100000 in
theorem place_ct (w : World) (n : Nat) (h : n < 8) : Ct Try.prog 148 #[.int .i64 n] w (Is (cx (plW n).1 (plW n).2) w) := by
  (refine fn_of_W Try.func148 rfl (by kernel_rfl) (by kernel_rfl) (Nat.le_of_ble_eq_true (by kernel_rfl)) ?_; (try simp only [RS, RF, cond_true, cond_false, List.nil_append, List.cons_append, List.toList_toArray, Option.isSome_some, Option.map_some, Option.map_none, Nat.reduceBEq, isShift, kEq, fEq, binInt, binFloat, shiftInt, binStr, Try.f148]))
  (have hr__ := bsPlaces w; refine ⟨_, _, hr__, ?_⟩; clear hr__)
  (try simp only [RS, RF, cond_true, cond_false, List.nil_append, List.cons_append, List.toList_toArray, Option.isSome_some, Option.map_some, Option.map_none, Nat.reduceBEq, isShift, kEq, fEq, binInt, binFloat, shiftInt, binStr, Int.toNat_natCast])
  refine ⟨by omega, _, ldb (by kernel_rfl) (alloc_new w _) (v := cx (plW n).1 (plW n).2) ?_, ?_⟩
  · rw [List.toList_toArray, List.getElem?_map, List.getElem?_range h]; rfl
  (try simp only [RS, RF, cond_true, cond_false, List.nil_append, List.cons_append, List.toList_toArray, Option.isSome_some, Option.map_some, Option.map_none, Nat.reduceBEq, isShift, kEq, fEq, binInt, binFloat, shiftInt, binStr])
  exact ⟨rfl, Bl.alloc w _⟩
set_option maxRecDepth 100000 in
theorem l07Place_ct (w : World) (n : Nat) (h : n < 8) : Ct Try.prog 150 #[.int .i64 n] w (Is (cx (plW n).1 (plW n).2) w) := by
  (refine fn_of_W Try.func150 rfl (by kernel_rfl) (by kernel_rfl) (Nat.le_of_ble_eq_true (by kernel_rfl)) ?_; (try simp only [RS, RF, cond_true, cond_false, List.nil_append, List.cons_append, List.toList_toArray, Option.isSome_some, Option.map_some, Option.map_none, Nat.reduceBEq, isShift, kEq, fEq, binInt, binFloat, shiftInt, binStr, Try.f150]))
  match n, h with
  | 0, _ => (try simp only [RS, RF, cond_true, cond_false, List.nil_append, List.cons_append, List.toList_toArray, Option.isSome_some, Option.map_some, Option.map_none, Nat.reduceBEq, isShift, kEq, fEq, binInt, binFloat, shiftInt, binStr, forall_eq, beq_self_eq_true, Int.cast_ofNat_Int]); exact ⟨rfl, Bl.refl w⟩
  | 1, _ => (try simp only [RS, RF, cond_true, cond_false, List.nil_append, List.cons_append, List.toList_toArray, Option.isSome_some, Option.map_some, Option.map_none, Nat.reduceBEq, isShift, kEq, fEq, binInt, binFloat, shiftInt, binStr, forall_eq, beq_self_eq_true, Int.cast_ofNat_Int, Int.reduceBEq]); exact ⟨rfl, Bl.refl w⟩
  | 2, _ => (try simp only [RS, RF, cond_true, cond_false, List.nil_append, List.cons_append, List.toList_toArray, Option.isSome_some, Option.map_some, Option.map_none, Nat.reduceBEq, isShift, kEq, fEq, binInt, binFloat, shiftInt, binStr, forall_eq, beq_self_eq_true, Int.cast_ofNat_Int, Int.reduceBEq]); exact ⟨rfl, Bl.refl w⟩
  | 3, _ => (try simp only [RS, RF, cond_true, cond_false, List.nil_append, List.cons_append, List.toList_toArray, Option.isSome_some, Option.map_some, Option.map_none, Nat.reduceBEq, isShift, kEq, fEq, binInt, binFloat, shiftInt, binStr, forall_eq, beq_self_eq_true, Int.cast_ofNat_Int, Int.reduceBEq]); exact ⟨rfl, Bl.refl w⟩
  | 4, _ => (try simp only [RS, RF, cond_true, cond_false, List.nil_append, List.cons_append, List.toList_toArray, Option.isSome_some, Option.map_some, Option.map_none, Nat.reduceBEq, isShift, kEq, fEq, binInt, binFloat, shiftInt, binStr, forall_eq, beq_self_eq_true, Int.cast_ofNat_Int, Int.reduceBEq]); exact ⟨rfl, Bl.refl w⟩
  | 5, _ => (try simp only [RS, RF, cond_true, cond_false, List.nil_append, List.cons_append, List.toList_toArray, Option.isSome_some, Option.map_some, Option.map_none, Nat.reduceBEq, isShift, kEq, fEq, binInt, binFloat, shiftInt, binStr, forall_eq, beq_self_eq_true, Int.cast_ofNat_Int, Int.reduceBEq]); exact ⟨rfl, Bl.refl w⟩
  | 6, _ => (try simp only [RS, RF, cond_true, cond_false, List.nil_append, List.cons_append, List.toList_toArray, Option.isSome_some, Option.map_some, Option.map_none, Nat.reduceBEq, isShift, kEq, fEq, binInt, binFloat, shiftInt, binStr, forall_eq, beq_self_eq_true, Int.cast_ofNat_Int, Int.reduceBEq]); exact ⟨rfl, Bl.refl w⟩
  | 7, _ => (try simp only [RS, RF, cond_true, cond_false, List.nil_append, List.cons_append, List.toList_toArray, Option.isSome_some, Option.map_some, Option.map_none, Nat.reduceBEq, isShift, kEq, fEq, binInt, binFloat, shiftInt, binStr, forall_eq, beq_self_eq_true, Int.cast_ofNat_Int, Int.reduceBEq]); exact ⟨rfl, Bl.refl w⟩

/-! ### What is drawn -/
theorem pickN (w : World) (b M : Nat) (n : Int) (hs : Src w b M) (hM : M + 2 ≤ 1000000) (h1 : 1 ≤ n) (hn : n ≤ 1000000) :
    Ct Try.prog 124 #[.pointer (some ⟨b, 0, none⟩), .int .i64 n] w fun v w' => ∃ x : Nat, v = .int .i64 x ∧ (x : Int) < n ∧ Src w' b (M + 2) ∧ Bx b w w' := by
  rcases Int.lt_or_le 1 n with h | h
  · refine (pick_ct w b M n hs hM hn).mono ?_
    rintro _ w1 ⟨x, rfl, hx0, hx1, hs1, hxx⟩
    exact ⟨x.toNat, by congr 1; omega, by have := hx1 (by omega); omega, hs1, hxx⟩
  · refine (pick_ct w b M n hs hM hn).mono ?_
    rintro _ w1 ⟨x, rfl, hx0, hx1, hs1, hxx⟩
    exact ⟨x.toNat, by congr 1; omega, by have := hx1 (by omega); omega, hs1, hxx⟩
set_option maxRecDepth 100000 in
theorem l01Few_ct (w : World) (b M : Nat) (hs : Src w b M) (hM : M + 2 ≤ 1000000) :
    Ct Try.prog 196 #[.pointer (some ⟨b, 0, none⟩)] w fun v w' => ∃ r, v = fl r ∧ PtOK r ∧ Src w' b (M + 2) ∧ Bx b w w' := by
  (refine fn_of_W Try.func196 rfl (by kernel_rfl) (by kernel_rfl) (Nat.le_of_ble_eq_true (by kernel_rfl)) ?_; (try simp only [RS, RF, cond_true, cond_false, List.nil_append, List.cons_append, List.toList_toArray, Option.isSome_some, Option.map_some, Option.map_none, Nat.reduceBEq, isShift, kEq, fEq, binInt, binFloat, shiftInt, binStr, Try.f196]))
  (refine (pick_ct w b M 65 hs hM (by omega)).mono ?_; rintro _ w1 ⟨x, rfl, hx0, hx1, hs1, hxx1⟩)
  (try simp only [RS, RF, cond_true, cond_false, List.nil_append, List.cons_append, List.toList_toArray, Option.isSome_some, Option.map_some, Option.map_none, Nat.reduceBEq, isShift, kEq, fEq, binInt, binFloat, shiftInt, binStr])
  rw [IntWalk.i64_in (x - 32) (by have := hx1 (by omega); omega)]
  intro r n hr
  exact ⟨r, rfl, few_ok hx0 (by have := hx1 (by omega); omega) hr, hs1.bl (Bl.drewN _ _), hxx1.trans (Bx.of_bl (Bl.drewN _ _))⟩
set_option maxRecDepth 100000 in
theorem l07Few_ct (w : World) (b M : Nat) (hs : Src w b M) (hM : M + 6 ≤ 1000000) :
    Ct Try.prog 134 #[.pointer (some ⟨b, 0, none⟩)] w fun v w' => ∃ x y, v = cx x y ∧ PtOK x ∧ PtOK y ∧ Src w' b (M + 6) ∧ Bx b w w' := by
  (refine fn_of_W Try.func134 rfl (by kernel_rfl) (by kernel_rfl) (Nat.le_of_ble_eq_true (by kernel_rfl)) ?_; (try simp only [RS, RF, cond_true, cond_false, List.nil_append, List.cons_append, List.toList_toArray, Option.isSome_some, Option.map_some, Option.map_none, Nat.reduceBEq, isShift, kEq, fEq, binInt, binFloat, shiftInt, binStr, Try.f134]))
  (refine (pick_ct w b M 4 hs (by omega) (by omega)).mono ?_; rintro _ w1 ⟨x, rfl, hx0, hx1, hs1, hxx1⟩)
  (try simp only [RS, RF, cond_true, cond_false, List.nil_append, List.cons_append, List.toList_toArray, Option.isSome_some, Option.map_some, Option.map_none, Nat.reduceBEq, isShift, kEq, fEq, binInt, binFloat, shiftInt, binStr])
  intro b1 hb1
  cases b1
  rotate_left
  · (try simp only [RS, RF, cond_true, cond_false, List.nil_append, List.cons_append, List.toList_toArray, Option.isSome_some, Option.map_some, Option.map_none, Nat.reduceBEq, isShift, kEq, fEq, binInt, binFloat, shiftInt, binStr])
    (refine (pickN w1 b (M + 2) 8 hs1 (by omega) (by omega) (by omega)).mono ?_; rintro _ w2 ⟨n, rfl, hn, hs2, hxx2⟩)
    (try simp only [RS, RF, cond_true, cond_false, List.nil_append, List.cons_append, List.toList_toArray, Option.isSome_some, Option.map_some, Option.map_none, Nat.reduceBEq, isShift, kEq, fEq, binInt, binFloat, shiftInt, binStr])
    (refine (l07Place_ct w2 n (by omega)).mono ?_; rintro _ w3 ⟨rfl, hw3⟩)
    (try simp only [RS, RF, cond_true, cond_false, List.nil_append, List.cons_append, List.toList_toArray, Option.isSome_some, Option.map_some, Option.map_none, Nat.reduceBEq, isShift, kEq, fEq, binInt, binFloat, shiftInt, binStr])
    have hp := plW_pt (n := n) (by omega)
    exact ⟨_, _, rfl, hp.1, hp.2, (hs2.bl hw3).more (by omega) (by omega), (hxx1.trans hxx2).bl hw3⟩
  (try simp only [RS, RF, cond_true, cond_false, List.nil_append, List.cons_append, List.toList_toArray, Option.isSome_some, Option.map_some, Option.map_none, Nat.reduceBEq, isShift, kEq, fEq, binInt, binFloat, shiftInt, binStr])
  intro b2 hb2
  cases b2
  rotate_left
  · (try simp only [RS, RF, cond_true, cond_false, List.nil_append, List.cons_append, List.toList_toArray, Option.isSome_some, Option.map_some, Option.map_none, Nat.reduceBEq, isShift, kEq, fEq, binInt, binFloat, shiftInt, binStr])
    (refine (pick_ct w1 b (M + 2) 2001 hs1 (by omega) (by omega)).mono ?_; rintro _ w2 ⟨y, rfl, hy0, hy1, hs2, hxx2⟩)
    (try simp only [RS, RF, cond_true, cond_false, List.nil_append, List.cons_append, List.toList_toArray, Option.isSome_some, Option.map_some, Option.map_none, Nat.reduceBEq, isShift, kEq, fEq, binInt, binFloat, shiftInt, binStr])
    have hy1' := hy1 (by omega)
    rw [IntWalk.i64_in (y - 1000) (by omega)]
    intro r n hr
    (try simp only [RS, RF, cond_true, cond_false, List.nil_append, List.cons_append, List.toList_toArray, Option.isSome_some, Option.map_some, Option.map_none, Nat.reduceBEq, isShift, kEq, fEq, binInt, binFloat, shiftInt, binStr])
    (refine (pick_ct (w2.drewN n) b (M + 4) 2001 (hs2.bl (Bl.drewN _ _)) (by omega) (by omega)).mono ?_; rintro _ w3 ⟨z, rfl, hz0, hz1, hs3, hxx3⟩)
    (try simp only [RS, RF, cond_true, cond_false, List.nil_append, List.cons_append, List.toList_toArray, Option.isSome_some, Option.map_some, Option.map_none, Nat.reduceBEq, isShift, kEq, fEq, binInt, binFloat, shiftInt, binStr])
    have hz1' := hz1 (by omega)
    rw [IntWalk.i64_in (z - 1000) (by omega)]
    intro r2 n2 hr2
    (try simp only [RS, RF, cond_true, cond_false, List.nil_append, List.cons_append, List.toList_toArray, Option.isSome_some, Option.map_some, Option.map_none, Nat.reduceBEq, isShift, kEq, fEq, binInt, binFloat, shiftInt, binStr])
    exact ⟨r, r2, rfl, hun_ok hy0 hy1' hr, hun_ok hz0 hz1' hr2, (hs3.bl (Bl.drewN _ _)).more (by omega) (by omega), (((hxx1.trans hxx2).bl (Bl.drewN _ _)).trans hxx3).bl (Bl.drewN _ _)⟩
  · (try simp only [RS, RF, cond_true, cond_false, List.nil_append, List.cons_append, List.toList_toArray, Option.isSome_some, Option.map_some, Option.map_none, Nat.reduceBEq, isShift, kEq, fEq, binInt, binFloat, shiftInt, binStr])
    (refine (l01Few_ct w1 b (M + 2) hs1 (by omega)).mono ?_; rintro _ w2 ⟨r, rfl, hr, hs2, hxx2⟩)
    (try simp only [RS, RF, cond_true, cond_false, List.nil_append, List.cons_append, List.toList_toArray, Option.isSome_some, Option.map_some, Option.map_none, Nat.reduceBEq, isShift, kEq, fEq, binInt, binFloat, shiftInt, binStr])
    (refine (l01Few_ct w2 b (M + 4) hs2 (by omega)).mono ?_; rintro _ w3 ⟨r2, rfl, hr2, hs3, hxx3⟩)
    (try simp only [RS, RF, cond_true, cond_false, List.nil_append, List.cons_append, List.toList_toArray, Option.isSome_some, Option.map_some, Option.map_none, Nat.reduceBEq, isShift, kEq, fEq, binInt, binFloat, shiftInt, binStr])
    exact ⟨r, r2, rfl, hr, hr2, hs3, (hxx1.trans hxx2).trans hxx3⟩

abbrev WV := Nat × Nat × Nat
def WOK (d : WV) : Prop := PtOK d.1 ∧ PtOK d.2.1 ∧ MsOK d.2.2
def wcells (d : WV) : List Value := [cx d.1 d.2.1, fl d.2.2]
theorem wcells_len (d : WV) : (wcells d).length = 2 := rfl
set_option maxRecDepth 100000 in
theorem drawn_ct (w : World) (b M : Nat) (hs : Src w b M) (hM : M + 100 ≤ 1000000) :
    Ct Try.prog 133 #[.pointer (some ⟨b, 0, none⟩)] w fun v w' => ∃ ws : List WV, w'.ownsRow w.heap.size 77 2 v ws.length (ws.flatMap wcells) ∧ ws.length ≤ 5 ∧ (∀ d ∈ ws, WOK d) ∧ Bx b w w' := by
  have hbB := hs.lt
  (refine fn_of_W Try.func133 rfl (by kernel_rfl) (by kernel_rfl) (Nat.le_of_ble_eq_true (by kernel_rfl)) ?_; (try simp only [RS, RF, cond_true, cond_false, List.nil_append, List.cons_append, List.toList_toArray, Option.isSome_some, Option.map_some, Option.map_none, Nat.reduceBEq, isShift, kEq, fEq, binInt, binFloat, shiftInt, binStr, Try.f133]))
  refine ⟨_, _, bs0 st_60 w, ?_⟩
  (try simp only [RS, RF, cond_true, cond_false, List.nil_append, List.cons_append, List.toList_toArray, Option.isSome_some, Option.map_some, Option.map_none, Nat.reduceBEq, isShift, kEq, fEq, binInt, binFloat, shiftInt, binStr])
  (refine (pickN _ b M 6 (hs.bl (Bl.alloc w _)) (by omega) (by omega) (by omega)).mono ?_; rintro _ w1 ⟨x, rfl, hx1, hs1, hxx1⟩)
  (try simp only [RS, RF, cond_true, cond_false, List.nil_append, List.cons_append, List.toList_toArray, Option.isSome_some, Option.map_some, Option.map_none, Nat.reduceBEq, isShift, kEq, fEq, binInt, binFloat, shiftInt, binStr])
  refine loop_W (σ := Nat × List WV × Value) (fun s => [(0, .pointer (some ⟨b, 0, none⟩)), (3, s.2.2), (4, .int .i64 s.1)])
    (fun s w' => s.1 + s.2.1.length = x ∧ w'.ownsRow w.heap.size 77 2 s.2.2 s.2.1.length (s.2.1.flatMap wcells) ∧ (∀ d ∈ s.2.1, WOK d) ∧ Src w' b (M + 2 + 10 * s.2.1.length) ∧ Bx b w w' ∧ w.heap.size ≤ w'.heap.size)
    (fun s => s.1) (x, [], .slice (some ⟨w.heap.size, 0, none⟩) 0 0) (agr_cons rfl (agr_cons rfl (agr_cons rfl (agr_nil)))) ?_ ?_
  · refine ⟨by simp, own_bx (own0 w w.heap.size _ _ (Nat.le_refl _)) hxx1 hbB, by simp, by simpa using hs1, (Bx.of_bl (Bl.alloc w _)).trans hxx1, ?_⟩
    have := hxx1.size; rw [alloc_size] at this; omega
  · rintro ⟨k, ws, v⟩ w2 e2 ⟨hk, hown, hok, hs2, hx2, hsz2⟩
    simp only at hk hown hok hs2
    (try simp only [RS, RF, cond_true, cond_false, List.nil_append, List.cons_append, List.toList_toArray, Option.isSome_some, Option.map_some, Option.map_none, Nat.reduceBEq, isShift, kEq, fEq, binInt, binFloat, shiftInt, binStr])
    intro b1 hb1
    cases b1
    · (try simp only [RS, RF, cond_true, cond_false, List.nil_append, List.cons_append, List.toList_toArray, Option.isSome_some, Option.map_some, Option.map_none, Nat.reduceBEq, isShift, kEq, fEq, binInt, binFloat, shiftInt, binStr])
      exact ⟨ws, hown, by omega, hok, hx2⟩
    · (try simp only [RS, RF, cond_true, cond_false, List.nil_append, List.cons_append, List.toList_toArray, Option.isSome_some, Option.map_some, Option.map_none, Nat.reduceBEq, isShift, kEq, fEq, binInt, binFloat, shiftInt, binStr])
      have hk0 : 1 ≤ k := by have := hb1; simp at this; omega
      (refine (l07Few_ct w2 b _ hs2 (by omega)).mono ?_; rintro _ w3 ⟨px, py, rfl, hpx, hpy, hs3, hxx3⟩)
      (try simp only [RS, RF, cond_true, cond_false, List.nil_append, List.cons_append, List.toList_toArray, Option.isSome_some, Option.map_some, Option.map_none, Nat.reduceBEq, isShift, kEq, fEq, binInt, binFloat, shiftInt, binStr])
      (refine (pick_ct w3 b _ 40 hs3 (by omega) (by omega)).mono ?_; rintro _ w4 ⟨m, rfl, hm0, hm1, hs4, hxx4⟩)
      have hm1' := hm1 (by omega)
      (try simp only [RS, RF, cond_true, cond_false, List.nil_append, List.cons_append, List.toList_toArray, Option.isSome_some, Option.map_some, Option.map_none, Nat.reduceBEq, isShift, kEq, fEq, binInt, binFloat, shiftInt, binStr])
      (have hr__ := bs134 w4; refine ⟨_, _, hr__, ?_⟩; clear hr__)
      (try simp only [RS, RF, cond_true, cond_false, List.nil_append, List.cons_append, List.toList_toArray, Option.isSome_some, Option.map_some, Option.map_none, Nat.reduceBEq, isShift, kEq, fEq, binInt, binFloat, shiftInt, binStr])
      (refine (among_ct _ b _ w4.heap.size [1, 3, 4] (hs4.bl (Bl.alloc w4 _)) (by omega) (alloc_new w4 _) (by have := hs4.lt; omega) (by decide) (by decide)).mono ?_; rintro _ w5 ⟨y, hy, rfl, hs5, hxx5⟩)
      (try simp only [RS, RF, cond_true, cond_false, List.nil_append, List.cons_append, List.toList_toArray, Option.isSome_some, Option.map_some, Option.map_none, Nat.reduceBEq, isShift, kEq, fEq, binInt, binFloat, shiftInt, binStr])
      intro r n hr
      have hms := mass_ok hm0 hm1' hy hr
      have hx25 : Bx b w2 (w5.drewN n) := (((hxx3.trans hxx4).bl (Bl.alloc w4 _)).trans hxx5).bl (Bl.drewN _ _)
      have hs6 := hs5.bl (Bl.drewN w5 n)
      have hown6 := own_bx hown hx25 hbB
      have hsz56 : w5.heap.size = (w5.drewN n).heap.size := rfl
      clear hs1 hs2 hs3 hs4 hs5 hxx3 hxx4 hxx5
      (try simp only [RS, RF, cond_true, cond_false, List.nil_append, List.cons_append, List.toList_toArray, Option.isSome_some, Option.map_some, Option.map_none, Nat.reduceBEq, isShift, kEq, fEq, binInt, binFloat, shiftInt, binStr])
      refine ⟨#[cx px py, fl r], by kernel_rfl, ?_⟩
      (try simp only [RS, RF, cond_true, cond_false, List.nil_append, List.cons_append, List.toList_toArray, Option.isSome_some, Option.map_some, Option.map_none, Nat.reduceBEq, isShift, kEq, fEq, binInt, binFloat, shiftInt, binStr])
      obtain ⟨w7, hr7, hb7, hx7, hsz7⟩ := stn (P := Try.prog) 77 (b := w5.heap.size) 0 (l := [cx 0 0, fl 0]) (vs := [cx px py, fl r]) (by kernel_rfl) (by simp) (by simp [Value.oneCell']) (alloc_new (w5.drewN n) _) (by simp)
      refine ⟨_, hr7, ?_⟩
      (try simp only [RS, RF, cond_true, cond_false, List.nil_append, List.cons_append, List.toList_toArray, Option.isSome_some, Option.map_some, Option.map_none, Nat.reduceBEq, isShift, kEq, fEq, binInt, binFloat, shiftInt, binStr])
      have hb67 : Bl (w5.drewN n) w7 := Bl.of_bx (Bl.alloc _ _) hx7 (Nat.le_refl _)
      refine ⟨_, ldn (cs := [cx px py, fl r]) (by kernel_rfl) (fun j u hu => by rw [add_off, cell_blk hb7, Nat.zero_add]; simpa using hu), ?_⟩
      (try simp only [RS, RF, cond_true, cond_false, List.nil_append, List.cons_append, List.toList_toArray, Option.isSome_some, Option.map_some, Option.map_none, Nat.reduceBEq, isShift, kEq, fEq, binInt, binFloat, shiftInt, binStr])
      (have hr__ := bs1 st_60 w7 (.agg [cx px py, fl r].toArray) rfl (by decide); refine ⟨_, _, hr__, ?_⟩; clear hr__)
      (try simp only [RS, RF, cond_true, cond_false, List.nil_append, List.cons_append, List.toList_toArray, Option.isSome_some, Option.map_some, Option.map_none, Nat.reduceBEq, isShift, kEq, fEq, binInt, binFloat, shiftInt, binStr])
      have hsz6 := hx25.size
      have hsz67 := hb67.size
      refine app1 (v := .agg [cx px py, fl r].toArray) st_60 (own_bl hown6 hb67) (by omega) rfl (by simp [Value.cells, Value.oneCell']) (by omega) (by decide) ?_
      intro s' w8 ho8 hb8 hsz8 hk8 _
      (try simp only [RS, RF, cond_true, cond_false, List.nil_append, List.cons_append, List.toList_toArray, Option.isSome_some, Option.map_some, Option.map_none, Nat.reduceBEq, isShift, kEq, fEq, binInt, binFloat, shiftInt, binStr])
      rw [IntWalk.i64_in ((k : Int) - 1) (by omega), show (k : Int) - 1 = ((k - 1 : Nat) : Int) by omega]
      refine ⟨(k - 1, ws ++ [(px, py, r)], s'), (agr_cons rfl (agr_cons rfl (agr_cons rfl (agr_nil)))), ⟨?_, ?_, ?_, ?_, ?_, ?_⟩, ?_⟩
      · simp; omega
      · have e1 : (ws ++ [(px, py, r)]).length = ws.length + 1 := by simp
        have e2 : (ws ++ [(px, py, r)]).flatMap wcells = ws.flatMap wcells ++ [cx px py, fl r] := by simp [wcells]
        show w8.ownsRow _ _ _ s' (ws ++ [(px, py, r)]).length ((ws ++ [(px, py, r)]).flatMap wcells)
        rw [e1, e2]; exact ho8
      · intro d hd
        rcases List.mem_append.1 hd with hd | hd
        · exact hok d hd
        · simp at hd
          subst hd
          exact ⟨hpx, hpy, hms⟩
      · have : M + 2 + 10 * (ws ++ [(px, py, r)]).length = M + 2 + 10 * ws.length + 6 + 2 + 2 := by simp; omega
        rw [this]
        exact (hs6.bl hb67).keep fun g hg => hb8.block g (by omega)
      · exact ((hx2.trans hx25).bl hb67).below hb8
      · omega
      · simp; omega
end Go.Proofs.Ytjgpnbchnenbeaa
