/- Contracts of drawn trains. -/
import Derived.Test.YtjgpnbchnenbeaaC0
import Derived.Test.YtjgpnbchnenbeaaM1
import Derived.Test.YtjgpnbchnenbeaaF2
import Derived.Test.YtjgpnbchnenbeaaL1
namespace Go.Proofs.Ytjgpnbchnenbeaa
set_option linter.unusedSimpArgs false
set_option linter.unusedVariables false
open Go
open Go.RowKit (Below)

def wheels : List Int := [6, 8, 10, 12, 15, 16, 20, 24, 25, 30, 37, 48, 60, 96, 127, 200]
/-- a pair: the driver, the driven, what is lost -/
abbrev PairV := Int × Int × Nat
def PairOK (p : PairV) : Prop := p.1 ∈ wheels ∧ p.2.1 ∈ wheels ∧ fle .f32 0 p.2.2 = true ∧ fle .f32 p.2.2 1065353216 = true
def pcells (p : PairV) : List Value := [.int .i16 p.1, .int .i16 p.2.1, .float .f32 p.2.2]
theorem pcells_len (p : PairV) : (pcells p).length = 3 := rfl
theorem wheel_bound {x : Int} (h : x ∈ wheels) : 6 ≤ x ∧ x ≤ 200 := by
  simp only [wheels, List.mem_cons, List.mem_nil_iff, or_false] at h
  omega

theorem bsWheels (w : World) : (Instr.buildSlice 168 16 ([(0, .int .i64 6), (1, .int .i64 8), (2, .int .i64 10), (3, .int .i64 12), (4, .int .i64 15), (5, .int .i64 16), (6, .int .i64 20), (7, .int .i64 24), (8, .int .i64 25), (9, .int .i64 30), (10, .int .i64 37), (11, .int .i64 48), (12, .int .i64 60), (13, .int .i64 96), (14, .int .i64 127), (15, .int .i64 200)] : List (Nat × Value)).toArray).run Try.prog w =
    .ok (.slice (some ⟨w.heap.size, 0, none⟩) 16 16) (w.alloc (.cells (wheels.map (Value.int .i64)).toArray 2)) := by kernel_rfl
set_option maxRecDepth 100000 in
theorem wheel_ct (w : World) (b M : Nat) (hs : Src w b M) (hM : M + 2 ≤ 1000000) :
    Ct Try.prog 187 #[.pointer (some ⟨b, 0, none⟩)] w fun v w' => ∃ x ∈ wheels, v = .int .i16 x ∧ Src w' b (M + 2) ∧ Bx b w w' := by
  (refine fn_of_W Try.func187 rfl (by kernel_rfl) (by kernel_rfl) (Nat.le_of_ble_eq_true (by kernel_rfl)) ?_; (try simp only [RS, RF, cond_true, cond_false, List.nil_append, List.cons_append, List.toList_toArray, Option.isSome_some, Option.map_some, Option.map_none, Nat.reduceBEq, isShift, kEq, fEq, binInt, binFloat, shiftInt, binStr, Try.f187]))
  (have hr__ := bsWheels w; refine ⟨_, _, hr__, ?_⟩; clear hr__)
  (try simp only [RS, RF, cond_true, cond_false, List.nil_append, List.cons_append, List.toList_toArray, Option.isSome_some, Option.map_some, Option.map_none, Nat.reduceBEq, isShift, kEq, fEq, binInt, binFloat, shiftInt, binStr])
  (refine (among_ct _ b M w.heap.size wheels (hs.bl (Bl.alloc _ _)) hM (alloc_new w _) (by have := hs.lt; omega) (by decide) (by decide)).mono ?_; rintro _ w1 ⟨x, hx, rfl, hs1, hx1⟩)
  (try simp only [RS, RF, cond_true, cond_false, List.nil_append, List.cons_append, List.toList_toArray, Option.isSome_some, Option.map_some, Option.map_none, Nat.reduceBEq, isShift, kEq, fEq, binInt, binFloat, shiftInt, binStr])
  have hb := wheel_bound hx
  rw [show IntKind.i16.wrap x = x from IntWalk.i16_in x (by omega)]
  exact ⟨x, hx, rfl, hs1, (Bx.of_bl (Bl.alloc _ _)).trans hx1⟩
set_option maxRecDepth 100000 in
theorem one_ct (w : World) (b M : Nat) (n : Int) (hs : Src w b M) (hM : M + 2 ≤ 1000000) (hn : n ≤ 1000000) :
    Ct Try.prog 166 #[.pointer (some ⟨b, 0, none⟩), .int .i64 n] w fun v w' => ∃ x : Bool, v = .bool x ∧ Src w' b (M + 2) ∧ Bx b w w' := by
  (refine fn_of_W Try.func166 rfl (by kernel_rfl) (by kernel_rfl) (Nat.le_of_ble_eq_true (by kernel_rfl)) ?_; (try simp only [RS, RF, cond_true, cond_false, List.nil_append, List.cons_append, List.toList_toArray, Option.isSome_some, Option.map_some, Option.map_none, Nat.reduceBEq, isShift, kEq, fEq, binInt, binFloat, shiftInt, binStr, Try.f166]))
  (refine (pick_ct w b M n hs hM hn).mono ?_; rintro _ w1 ⟨x, rfl, hx0, hx1, hs1, hxx1⟩)
  (try simp only [RS, RF, cond_true, cond_false, List.nil_append, List.cons_append, List.toList_toArray, Option.isSome_some, Option.map_some, Option.map_none, Nat.reduceBEq, isShift, kEq, fEq, binInt, binFloat, shiftInt, binStr])
  intro b1 hb1
  exact ⟨b1, rfl, hs1, hxx1⟩

/-- a part of a whole number is a part -/
theorem part_le {x N : Int} {c : Nat} (h0 : 0 ≤ x) (h1 : x ≤ N) (hN : N ≤ 1048576) (hN1 : 1 ≤ N) (hc : rung N.toNat 0 = c) {r : Nat} (hr : cn .f32 r = FV .f32 .quo (cn .f32 (FloatKind.f32.nearest x)) (cn .f32 c)) :
    fle .f32 0 r = true ∧ fle .f32 r 1065353216 = true ∧ r ≤ 1065353216 := by
  have e1 : FloatKind.f32.nearest x = rung x.toNat 0 := by
    have := nearest_pos x.toNat
    rwa [show ((x.toNat : Nat) : Int) = x by omega] at this
  have l1 : rung x.toNat 0 ≤ rung N.toNat 0 := rung_mono _ (by omega)
  have l2 : rung N.toNat 0 ≤ 1233125376 := by rw [← rung_top]; exact rung_mono _ (by omega)
  have l3 : rung N.toNat 0 ≠ 0 := fun e => by
    have := rung_mono (m := 1) (n := N.toNat) 0 (by omega)
    rw [rung_one, e] at this
    omega
  rw [e1, ← hc, cn_pos (x := rung x.toNat 0) (by omega), cn_pos (x := rung N.toNat 0) (by omega)] at hr
  obtain ⟨q, hq, hq1⟩ := quo_le_one (x := rung x.toNat 0) (c := rung N.toNat 0) (by omega) (by omega) l3 l1
  rw [hq] at hr
  have e := (cn_some hr).1
  subst e
  refine ⟨?_, ?_, hq1⟩
  · rw [fle_pos (by omega) (by omega)]; exact decide_eq_true (Nat.zero_le _)
  · rw [fle_pos (by omega) (by omega)]; exact decide_eq_true hq1
theorem r17 : rung (Int.toNat 16) 0 = 1098907648 := by decide
theorem r1001 : rung (Int.toNat 1000) 0 = 1148846080 := by decide
theorem rbig : rung (Int.toNat 1048576) 0 = 1233125376 := by decide
theorem r64 : rung (Int.toNat 64) 0 = 1115684864 := by decide

theorem pick_big (w : World) (b M : Nat) (n : Int) (hs : Src w b M) (hM : M + 2 ≤ 1000000) (hn : 1 ≤ n) :
    Ct Try.prog 124 #[.pointer (some ⟨b, 0, none⟩), .int .i64 n] w fun v w' => ∃ x : Int, v = .int .i64 x ∧ 0 ≤ x ∧ x < n ∧ Src w' b (M + 2) ∧ Bx b w w' := by
  (refine fn_of_W Try.func124 rfl (by kernel_rfl) (by kernel_rfl) (Nat.le_of_ble_eq_true (by kernel_rfl)) ?_; (try simp only [RS, RF, cond_true, cond_false, List.nil_append, List.cons_append, List.toList_toArray, Option.isSome_some, Option.map_some, Option.map_none, Nat.reduceBEq, isShift, kEq, fEq, binInt, binFloat, shiftInt, binStr, Try.f124]))
  intro b1 hb1
  cases b1
  · (try simp only [RS, RF, cond_true, cond_false, List.nil_append, List.cons_append, List.toList_toArray, Option.isSome_some, Option.map_some, Option.map_none, Nat.reduceBEq, isShift, kEq, fEq, binInt, binFloat, shiftInt, binStr])
    have hn1 : 1 < n := by have := hb1; simp at this; omega
    refine (next_ct w b M hs (by omega)).mono ?_
    rintro _ w1 ⟨x, rfl, hx0, hx1, hs1, hxx1⟩
    (try simp only [RS, RF, cond_true, cond_false, List.nil_append, List.cons_append, List.toList_toArray, Option.isSome_some, Option.map_some, Option.map_none, Nat.reduceBEq, isShift, kEq, fEq, binInt, binFloat, shiftInt, binStr])
    intro b2 hb2
    have fin : ∀ (y : Int) (w2 : World), 0 ≤ y → Src w2 b (M + 2) → Bx b w w2 → n ≠ 0 ∧ ∃ x : Int, Value.int .i64 (y.tmod n) = Value.int .i64 x ∧ 0 ≤ x ∧ x < n ∧ Src w2 b (M + 2) ∧ Bx b w w2 := by
      intro y w2 hy hs2 hx2
      refine ⟨by omega, _, rfl, ?_, ?_, hs2, hx2⟩
      · rw [Int.tmod_eq_emod_of_nonneg hy]; exact Int.emod_nonneg _ (by omega)
      · rw [Int.tmod_eq_emod_of_nonneg hy]; exact Int.emod_lt_of_pos _ (by omega)
    cases b2
    · (try simp only [RS, RF, cond_true, cond_false, List.nil_append, List.cons_append, List.toList_toArray, Option.isSome_some, Option.map_some, Option.map_none, Nat.reduceBEq, isShift, kEq, fEq, binInt, binFloat, shiftInt, binStr])
      exact fin x w1 hx0 (hs1.more (by omega) (by omega)) hxx1
    · (try simp only [RS, RF, cond_true, cond_false, List.nil_append, List.cons_append, List.toList_toArray, Option.isSome_some, Option.map_some, Option.map_none, Nat.reduceBEq, isShift, kEq, fEq, binInt, binFloat, shiftInt, binStr])
      refine (next_ct w1 b (M + 1) hs1 (by omega)).mono ?_
      rintro _ w2 ⟨y, rfl, hy0, hy1, hs2, hxx2⟩
      (try simp only [RS, RF, cond_true, cond_false, List.nil_append, List.cons_append, List.toList_toArray, Option.isSome_some, Option.map_some, Option.map_none, Nat.reduceBEq, isShift, kEq, fEq, binInt, binFloat, shiftInt, binStr])
      rw [IntWalk.i64_in (x * 256) (by omega), IntWalk.i64_in (x * 256 + y) (by omega)]
      exact fin _ w2 (by omega) hs2 (hxx1.trans hxx2)
  · (try simp only [RS, RF, cond_true, cond_false, List.nil_append, List.cons_append, List.toList_toArray, Option.isSome_some, Option.map_some, Option.map_none, Nat.reduceBEq, isShift, kEq, fEq, binInt, binFloat, shiftInt, binStr])
    exact ⟨0, rfl, by omega, by omega, hs.more (by omega) (by omega), Bx.refl b w⟩

set_option maxRecDepth 100000 in
theorem tone_ct (w : World) (b M : Nat) (hs : Src w b M) (hM : M + 4 ≤ 1000000) :
    Ct Try.prog 188 #[.pointer (some ⟨b, 0, none⟩)] w fun v w' => ∃ r, v = .float .f32 r ∧ (fle .f32 0 r = true ∧ fle .f32 r 1065353216 = true ∧ r ≤ 1065353216) ∧ Src w' b (M + 4) ∧ Bx b w w' := by
  (refine fn_of_W Try.func188 rfl (by kernel_rfl) (by kernel_rfl) (Nat.le_of_ble_eq_true (by kernel_rfl)) ?_; (try simp only [RS, RF, cond_true, cond_false, List.nil_append, List.cons_append, List.toList_toArray, Option.isSome_some, Option.map_some, Option.map_none, Nat.reduceBEq, isShift, kEq, fEq, binInt, binFloat, shiftInt, binStr, Try.f188]))
  (refine (pick_ct w b M 4 hs (by omega) (by omega)).mono ?_; rintro _ w1 ⟨x, rfl, hx0, hx1, hs1, hxx1⟩)
  (try simp only [RS, RF, cond_true, cond_false, List.nil_append, List.cons_append, List.toList_toArray, Option.isSome_some, Option.map_some, Option.map_none, Nat.reduceBEq, isShift, kEq, fEq, binInt, binFloat, shiftInt, binStr])
  intro b1 hb1
  cases b1
  · (try simp only [RS, RF, cond_true, cond_false, List.nil_append, List.cons_append, List.toList_toArray, Option.isSome_some, Option.map_some, Option.map_none, Nat.reduceBEq, isShift, kEq, fEq, binInt, binFloat, shiftInt, binStr])
    intro b2 hb2
    cases b2
    · (try simp only [RS, RF, cond_true, cond_false, List.nil_append, List.cons_append, List.toList_toArray, Option.isSome_some, Option.map_some, Option.map_none, Nat.reduceBEq, isShift, kEq, fEq, binInt, binFloat, shiftInt, binStr])
      (refine (pick_big w1 b (M + 2) 1048576 hs1 (by omega) (by omega)).mono ?_; rintro _ w2 ⟨y, rfl, hy0, hy1, hs2, hxx2⟩)
      (try simp only [RS, RF, cond_true, cond_false, List.nil_append, List.cons_append, List.toList_toArray, Option.isSome_some, Option.map_some, Option.map_none, Nat.reduceBEq, isShift, kEq, fEq, binInt, binFloat, shiftInt, binStr])
      intro r n hr
      exact ⟨r, rfl, part_le hy0 (N := 1048576) (by omega) (by omega) (by omega) rbig hr, hs2.bl (Bl.drewN _ _), (hxx1.trans hxx2).trans (Bx.of_bl (Bl.drewN _ _))⟩
    · (try simp only [RS, RF, cond_true, cond_false, List.nil_append, List.cons_append, List.toList_toArray, Option.isSome_some, Option.map_some, Option.map_none, Nat.reduceBEq, isShift, kEq, fEq, binInt, binFloat, shiftInt, binStr])
      (refine (pick_big w1 b (M + 2) 1001 hs1 (by omega) (by omega)).mono ?_; rintro _ w2 ⟨y, rfl, hy0, hy1, hs2, hxx2⟩)
      (try simp only [RS, RF, cond_true, cond_false, List.nil_append, List.cons_append, List.toList_toArray, Option.isSome_some, Option.map_some, Option.map_none, Nat.reduceBEq, isShift, kEq, fEq, binInt, binFloat, shiftInt, binStr])
      intro r n hr
      exact ⟨r, rfl, part_le hy0 (N := 1000) (by omega) (by omega) (by omega) r1001 hr, hs2.bl (Bl.drewN _ _), (hxx1.trans hxx2).trans (Bx.of_bl (Bl.drewN _ _))⟩
  · (try simp only [RS, RF, cond_true, cond_false, List.nil_append, List.cons_append, List.toList_toArray, Option.isSome_some, Option.map_some, Option.map_none, Nat.reduceBEq, isShift, kEq, fEq, binInt, binFloat, shiftInt, binStr])
    (refine (pick_big w1 b (M + 2) 17 hs1 (by omega) (by omega)).mono ?_; rintro _ w2 ⟨y, rfl, hy0, hy1, hs2, hxx2⟩)
    (try simp only [RS, RF, cond_true, cond_false, List.nil_append, List.cons_append, List.toList_toArray, Option.isSome_some, Option.map_some, Option.map_none, Nat.reduceBEq, isShift, kEq, fEq, binInt, binFloat, shiftInt, binStr])
    intro r n hr
    exact ⟨r, rfl, part_le hy0 (N := 16) (by omega) (by omega) (by omega) r17 hr, hs2.bl (Bl.drewN _ _), (hxx1.trans hxx2).trans (Bx.of_bl (Bl.drewN _ _))⟩
end Go.Proofs.Ytjgpnbchnenbeaa
