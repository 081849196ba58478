/- Balance: at a point; with two places. -/
import Derived.Test.YtjgpnbchnenbeaaB2
namespace Go.Proofs.Ytjgpnbchnenbeaa
set_option linter.unusedSimpArgs false
set_option linter.unusedVariables false
open Go
open Go.RowKit (Below)

abbrev least : Nat := 981467136
theorem val_least : FinW 981467136 ∧ val 981467136 = 1 / 1024 := by
  refine ⟨⟨by omega, by omega⟩, ?_⟩
  have := val_const (x := 981467136) 1 10 (by omega) (by kernel_rfl)
  have h := p2_inv 10
  have e : ((2 ^ 10 : Nat) : Rat) = 1024 := by decide
  rw [e] at h
  rw [this]
  have e1 : ((1 : Int) : Rat) = 1 := rfl
  rw [e1]; grind

/-! ### At a point -/
def qW (px py ax ay : Nat) : Nat := fquo (dotW px py ax ay) (dotW ax ay ax ay)
def mW (px py ax ay : Nat) : Nat := bif fgt .f32 (fsub 0 (qW px py ax ay)) 0 then fsub 0 (qW px py ax ay) else 0
/-- what is reckoned comes to numbers -/
structure BalOK (px py ax ay : Nat) : Prop where
  d2 : Dot px py ax ay
  d3 : Okf .quo (dotW px py ax ay) (dotW ax ay ax ay)
  d4 : Okf .sub 0 (qW px py ax ay)
  d5 : Okf .mul ax (mW px py ax ay)
  d6 : Okf .mul ay (mW px py ax ay)
  d7 : Okf .add px (fmul ax (mW px py ax ay))
  d8 : Okf .add py (fmul ay (mW px py ax ay))
def restX (px py ax ay : Nat) : Nat := fadd px (fmul ax (mW px py ax ay))
def restY (px py ax ay : Nat) : Nat := fadd py (fmul ay (mW px py ax ay))
def balV (px py ax ay : Nat) : Value := bif flt .f32 (dotW ax ay ax ay) least then .tuple #[fl 0, cx 0 0, .int .i64 2] else .tuple #[fl (mW px py ax ay), cx (restX px py ax ay) (restY px py ax ay), .int .i64 0]
set_option maxRecDepth 100000 in
theorem atLeast0_ct (w : World) (a : Nat) : Ct Try.prog 142 #[fl a] w (Is (fl (bif fgt .f32 a 0 then a else 0)) w) := by
  (refine fn_of_W Try.func142 rfl (by kernel_rfl) (by kernel_rfl) (Nat.le_of_ble_eq_true (by kernel_rfl)) ?_; (try simp only [RS, RF, cond_true, cond_false, List.nil_append, List.cons_append, List.toList_toArray, Option.isSome_some, Option.map_some, Option.map_none, Nat.reduceBEq, isShift, kEq, fEq, binInt, binFloat, shiftInt, binStr, Try.f142]))
  intro b hb
  cases b
  · (try simp only [RS, RF, cond_true, cond_false, List.nil_append, List.cons_append, List.toList_toArray, Option.isSome_some, Option.map_some, Option.map_none, Nat.reduceBEq, isShift, kEq, fEq, binInt, binFloat, shiftInt, binStr])
    rw [← hb]; exact ⟨rfl, Bl.refl w⟩
  · (try simp only [RS, RF, cond_true, cond_false, List.nil_append, List.cons_append, List.toList_toArray, Option.isSome_some, Option.map_some, Option.map_none, Nat.reduceBEq, isShift, kEq, fEq, binInt, binFloat, shiftInt, binStr])
    rw [← hb]; exact ⟨rfl, Bl.refl w⟩
set_option maxRecDepth 100000 in
theorem BalanceAt_ct (w : World) (v : Value) (ws : List WV) (ax ay : Nat) (h : WtV w v ws) (hok : ∀ d ∈ ws, Wok d) (hp : Pulls (0, 0) ws) (hx : plainB ax = true) (hy : plainB ay = true) (hs : Dot ax ay ax ay)
    (hb : flt .f32 (dotW ax ay ax ay) least = false → BalOK (pullW (0, 0) ws).1 (pullW (0, 0) ws).2 ax ay) :
    Ct Try.prog 56 #[v, cx ax ay] w (Is (balV (pullW (0, 0) ws).1 (pullW (0, 0) ws).2 ax ay) w) := by
  (refine fn_of_W Try.func56 rfl (by kernel_rfl) (by kernel_rfl) (Nat.le_of_ble_eq_true (by kernel_rfl)) ?_; (try simp only [RS, RF, cond_true, cond_false, List.nil_append, List.cons_append, List.toList_toArray, Option.isSome_some, Option.map_some, Option.map_none, Nat.reduceBEq, isShift, kEq, fEq, binInt, binFloat, shiftInt, binStr, Try.f56]))
  (refine (ValidWeights_ct w v ws h hok).mono ?_; rintro _ w1 ⟨rfl, hw1⟩)
  (try simp only [RS, RF, cond_true, cond_false, List.nil_append, List.cons_append, List.toList_toArray, Option.isSome_some, Option.map_some, Option.map_none, Nat.reduceBEq, isShift, kEq, fEq, binInt, binFloat, shiftInt, binStr])
  (refine (IsPoint_ct w1 ax ay hx hy).mono ?_; rintro _ w2 ⟨rfl, hw2⟩)
  (try simp only [RS, RF, cond_true, cond_false, List.nil_append, List.cons_append, List.toList_toArray, Option.isSome_some, Option.map_some, Option.map_none, Nat.reduceBEq, isShift, kEq, fEq, binInt, binFloat, shiftInt, binStr])
  (refine (Square_ct w2 ax ay hs).mono ?_; rintro _ w3 ⟨rfl, hw3⟩)
  have hb3 := (hw1.trans hw2).trans hw3
  cases hf : flt .f32 (dotW ax ay ax ay) least
  · obtain ⟨d2, d3, d4, d5, d6, d7, d8⟩ := hb hf
    (try simp only [RS, RF, cond_true, cond_false, List.nil_append, List.cons_append, List.toList_toArray, Option.isSome_some, Option.map_some, Option.map_none, Nat.reduceBEq, isShift, kEq, fEq, binInt, binFloat, shiftInt, binStr, forall_eq, hf])
    (refine (pullOf_ct w3 v ws (h.bl hb3) hp).mono ?_; rintro _ w4 ⟨rfl, hw4⟩)
    (try simp only [RS, RF, cond_true, cond_false, List.nil_append, List.cons_append, List.toList_toArray, Option.isSome_some, Option.map_some, Option.map_none, Nat.reduceBEq, isShift, kEq, fEq, binInt, binFloat, shiftInt, binStr])
    (refine (dot_ct w4 _ _ ax ay d2).mono ?_; rintro _ w5 ⟨rfl, hw5⟩)
    (try simp only [RS, RF, cond_true, cond_false, List.nil_append, List.cons_append, List.toList_toArray, Option.isSome_some, Option.map_some, Option.map_none, Nat.reduceBEq, isShift, kEq, fEq, binInt, binFloat, shiftInt, binStr])
    (refine (Square_ct w5 ax ay hs).mono ?_; rintro _ w6 ⟨rfl, hw6⟩)
    (try simp only [RS, RF, cond_true, cond_false, List.nil_append, List.cons_append, List.toList_toArray, Option.isSome_some, Option.map_some, Option.map_none, Nat.reduceBEq, isShift, kEq, fEq, binInt, binFloat, shiftInt, binStr])
    intro r n hr
    rw [d3.word hr]
    intro s m hs2
    rw [Okf.word (x := 0) d4 hs2]
    (refine (atLeast0_ct _ (fsub 0 (qW (pullW (0, 0) ws).1 (pullW (0, 0) ws).2 ax ay))).mono ?_; rintro _ w7 ⟨rfl, hw7⟩)
    (try simp only [RS, RF, cond_true, cond_false, List.nil_append, List.cons_append, List.toList_toArray, Option.isSome_some, Option.map_some, Option.map_none, Nat.reduceBEq, isShift, kEq, fEq, binInt, binFloat, shiftInt, binStr])
    (refine (Part_ct w7 ax ay (mW (pullW (0, 0) ws).1 (pullW (0, 0) ws).2 ax ay) d5 d6).mono ?_; rintro _ w8 ⟨rfl, hw8⟩)
    (try simp only [RS, RF, cond_true, cond_false, List.nil_append, List.cons_append, List.toList_toArray, Option.isSome_some, Option.map_some, Option.map_none, Nat.reduceBEq, isShift, kEq, fEq, binInt, binFloat, shiftInt, binStr])
    (refine (Plus_ct w8 _ _ _ _ d7 d8).mono ?_; rintro _ w9 ⟨rfl, hw9⟩)
    (try simp only [RS, RF, cond_true, cond_false, List.nil_append, List.cons_append, List.toList_toArray, Option.isSome_some, Option.map_some, Option.map_none, Nat.reduceBEq, isShift, kEq, fEq, binInt, binFloat, shiftInt, binStr])
    refine ⟨?_, (((((hb3.trans hw4).trans hw5).trans hw6).trans (((Bl.drewN _ _).trans (Bl.drewN _ _)).trans hw7)).trans hw8).trans hw9⟩
    unfold balV
    rw [hf]; rfl
  · (try simp only [RS, RF, cond_true, cond_false, List.nil_append, List.cons_append, List.toList_toArray, Option.isSome_some, Option.map_some, Option.map_none, Nat.reduceBEq, isShift, kEq, fEq, binInt, binFloat, shiftInt, binStr, forall_eq, hf])
    refine ⟨?_, hb3⟩
    unfold balV
    rw [hf]; rfl
set_option maxRecDepth 100000 in
theorem sBalanceAt_ct (w : World) (v : Value) (ws : List WV) (ax ay : Nat) (h : WtV w v ws) (hok : ∀ d ∈ ws, Wok d) (hp : Pulls (0, 0) ws) (hx : plainB ax = true) (hy : plainB ay = true) (hs : Dot ax ay ax ay)
    (hb : flt .f32 (dotW ax ay ax ay) least = false → BalOK (pullW (0, 0) ws).1 (pullW (0, 0) ws).2 ax ay) :
    Ct Try.prog 57 #[v, cx ax ay] w (Is (balV (pullW (0, 0) ws).1 (pullW (0, 0) ws).2 ax ay) w) := by
  (refine fn_of_W Try.func57 rfl (by kernel_rfl) (by kernel_rfl) (Nat.le_of_ble_eq_true (by kernel_rfl)) ?_; (try simp only [RS, RF, cond_true, cond_false, List.nil_append, List.cons_append, List.toList_toArray, Option.isSome_some, Option.map_some, Option.map_none, Nat.reduceBEq, isShift, kEq, fEq, binInt, binFloat, shiftInt, binStr, Try.f57]))
  (refine (l07Ok_ct w v ws h hok).mono ?_; rintro _ w1 ⟨rfl, hw1⟩)
  (try simp only [RS, RF, cond_true, cond_false, List.nil_append, List.cons_append, List.toList_toArray, Option.isSome_some, Option.map_some, Option.map_none, Nat.reduceBEq, isShift, kEq, fEq, binInt, binFloat, shiftInt, binStr])
  (refine (lPoint_ct w1 ax ay hx hy).mono ?_; rintro _ w2 ⟨rfl, hw2⟩)
  (try simp only [RS, RF, cond_true, cond_false, List.nil_append, List.cons_append, List.toList_toArray, Option.isSome_some, Option.map_some, Option.map_none, Nat.reduceBEq, isShift, kEq, fEq, binInt, binFloat, shiftInt, binStr])
  (refine (lSquare_ct w2 ax ay hs).mono ?_; rintro _ w3 ⟨rfl, hw3⟩)
  have hb3 := (hw1.trans hw2).trans hw3
  cases hf : flt .f32 (dotW ax ay ax ay) least
  · obtain ⟨d2, d3, d4, d5, d6, d7, d8⟩ := hb hf
    obtain ⟨e1, e2, e3⟩ := d2
    (try simp only [RS, RF, cond_true, cond_false, List.nil_append, List.cons_append, List.toList_toArray, Option.isSome_some, Option.map_some, Option.map_none, Nat.reduceBEq, isShift, kEq, fEq, binInt, binFloat, shiftInt, binStr, forall_eq, hf])
    (refine (l07Pull_ct w3 v ws (h.bl hb3) hp).mono ?_; rintro _ w4 ⟨rfl, hw4⟩)
    (try simp only [RS, RF, cond_true, cond_false, List.nil_append, List.cons_append, List.toList_toArray, Option.isSome_some, Option.map_some, Option.map_none, Nat.reduceBEq, isShift, kEq, fEq, binInt, binFloat, shiftInt, binStr])
    intro r1 n1 hr1 r2 n2 hr2
    rw [e1.word hr1, e2.word hr2]
    intro r3 n3 hr3
    rw [e3.word hr3]
    (try simp only [RS, RF, cond_true, cond_false, List.nil_append, List.cons_append, List.toList_toArray, Option.isSome_some, Option.map_some, Option.map_none, Nat.reduceBEq, isShift, kEq, fEq, binInt, binFloat, shiftInt, binStr])
    have hb5 : Bl w ((((w4.drewN n1).drewN n2).drewN n3)) := (hb3.trans hw4).trans (((Bl.drewN _ _).trans (Bl.drewN _ _)).trans (Bl.drewN _ _))
    generalize (((w4.drewN n1).drewN n2).drewN n3) = w5 at *
    (refine (lSquare_ct w5 ax ay hs).mono ?_; rintro _ w6 ⟨rfl, hw6⟩)
    (try simp only [RS, RF, cond_true, cond_false, List.nil_append, List.cons_append, List.toList_toArray, Option.isSome_some, Option.map_some, Option.map_none, Nat.reduceBEq, isShift, kEq, fEq, binInt, binFloat, shiftInt, binStr])
    intro r n hr
    rw [Okf.word d3 hr]
    intro s m hs2
    rw [Okf.word (x := 0) d4 hs2]
    (try simp only [RS, RF, cond_true, cond_false, List.nil_append, List.cons_append, List.toList_toArray, Option.isSome_some, Option.map_some, Option.map_none, Nat.reduceBEq, isShift, kEq, fEq, binInt, binFloat, shiftInt, binStr])
    have hb7 : Bl w ((w6.drewN n).drewN m) := (hb5.trans hw6).trans ((Bl.drewN _ _).trans (Bl.drewN _ _))
    generalize (w6.drewN n).drewN m = w7 at *
    have fin : ∀ M, M = mW (pullW (0, 0) ws).1 (pullW (0, 0) ws).2 ax ay → Ct Try.prog 147 #[cx ax ay, fl M] w7 (fun v' w' => v' = cx (fmul ax M) (fmul ay M) ∧ Bl w7 w') := fun M hM => by subst hM; exact lPart_ct w7 ax ay _ d5 d6
    intro b hbb
    cases b
    · have hm : mW (pullW (0, 0) ws).1 (pullW (0, 0) ws).2 ax ay = 0 := by unfold mW; rw [show fgt .f32 (fsub 0 (qW (pullW (0, 0) ws).1 (pullW (0, 0) ws).2 ax ay)) 0 = false from hbb.symm]; rfl
      (try simp only [RS, RF, cond_true, cond_false, List.nil_append, List.cons_append, List.toList_toArray, Option.isSome_some, Option.map_some, Option.map_none, Nat.reduceBEq, isShift, kEq, fEq, binInt, binFloat, shiftInt, binStr])
      (refine (fin 0 hm.symm).mono ?_; rintro _ w8 ⟨rfl, hw8⟩)
      (try simp only [RS, RF, cond_true, cond_false, List.nil_append, List.cons_append, List.toList_toArray, Option.isSome_some, Option.map_some, Option.map_none, Nat.reduceBEq, isShift, kEq, fEq, binInt, binFloat, shiftInt, binStr])
      rw [hm] at d7 d8
      (refine (lPlus_ct w8 _ _ _ _ d7 d8).mono ?_; rintro _ w9 ⟨rfl, hw9⟩)
      (try simp only [RS, RF, cond_true, cond_false, List.nil_append, List.cons_append, List.toList_toArray, Option.isSome_some, Option.map_some, Option.map_none, Nat.reduceBEq, isShift, kEq, fEq, binInt, binFloat, shiftInt, binStr])
      refine ⟨?_, (hb7.trans hw8).trans hw9⟩
      unfold balV restX restY
      rw [hf, hm]; rfl
    · have hm : mW (pullW (0, 0) ws).1 (pullW (0, 0) ws).2 ax ay = fsub 0 (qW (pullW (0, 0) ws).1 (pullW (0, 0) ws).2 ax ay) := by unfold mW; rw [show fgt .f32 (fsub 0 (qW (pullW (0, 0) ws).1 (pullW (0, 0) ws).2 ax ay)) 0 = true from hbb.symm]; rfl
      (try simp only [RS, RF, cond_true, cond_false, List.nil_append, List.cons_append, List.toList_toArray, Option.isSome_some, Option.map_some, Option.map_none, Nat.reduceBEq, isShift, kEq, fEq, binInt, binFloat, shiftInt, binStr])
      (refine (fin _ hm.symm).mono ?_; rintro _ w8 ⟨rfl, hw8⟩)
      (try simp only [RS, RF, cond_true, cond_false, List.nil_append, List.cons_append, List.toList_toArray, Option.isSome_some, Option.map_some, Option.map_none, Nat.reduceBEq, isShift, kEq, fEq, binInt, binFloat, shiftInt, binStr])
      rw [hm] at d7 d8
      (refine (lPlus_ct w8 _ _ _ _ d7 d8).mono ?_; rintro _ w9 ⟨rfl, hw9⟩)
      (try simp only [RS, RF, cond_true, cond_false, List.nil_append, List.cons_append, List.toList_toArray, Option.isSome_some, Option.map_some, Option.map_none, Nat.reduceBEq, isShift, kEq, fEq, binInt, binFloat, shiftInt, binStr])
      refine ⟨?_, (hb7.trans hw8).trans hw9⟩
      unfold balV restX restY
      rw [hf, hm]; rfl
  · (try simp only [RS, RF, cond_true, cond_false, List.nil_append, List.cons_append, List.toList_toArray, Option.isSome_some, Option.map_some, Option.map_none, Nat.reduceBEq, isShift, kEq, fEq, binInt, binFloat, shiftInt, binStr, forall_eq, hf])
    refine ⟨?_, hb3⟩
    unfold balV
    rw [hf]; rfl

/-! ### Places -/
set_option maxRecDepth 100000 in
theorem PlaceOf_ct (w : World) (n : Nat) (h : n < 8) : Ct Try.prog 60 #[.int .i64 n] w (Is (.tuple #[cx (plW n).1 (plW n).2, .int .i64 0]) w) := by
  (refine fn_of_W Try.func60 rfl (by kernel_rfl) (by kernel_rfl) (Nat.le_of_ble_eq_true (by kernel_rfl)) ?_; (try simp only [RS, RF, cond_true, cond_false, List.nil_append, List.cons_append, List.toList_toArray, Option.isSome_some, Option.map_some, Option.map_none, Nat.reduceBEq, isShift, kEq, fEq, binInt, binFloat, shiftInt, binStr, Try.f60]))
  (refine (within_ct w n 0 7).mono ?_; rintro _ w1 ⟨rfl, hw1⟩)
  rw [decide_eq_true (by omega : (0 : Int) ≤ n), decide_eq_true (by omega : (n : Int) ≤ 7)]
  (try simp only [RS, RF, cond_true, cond_false, List.nil_append, List.cons_append, List.toList_toArray, Option.isSome_some, Option.map_some, Option.map_none, Nat.reduceBEq, isShift, kEq, fEq, binInt, binFloat, shiftInt, binStr])
  (refine (place_ct w1 n h).mono ?_; rintro _ w2 ⟨rfl, hw2⟩)
  (try simp only [RS, RF, cond_true, cond_false, List.nil_append, List.cons_append, List.toList_toArray, Option.isSome_some, Option.map_some, Option.map_none, Nat.reduceBEq, isShift, kEq, fEq, binInt, binFloat, shiftInt, binStr])
  exact ⟨rfl, hw1.trans hw2⟩
set_option maxRecDepth 100000 in
theorem sPlaceOf_ct (w : World) (n : Nat) (h : n < 8) : Ct Try.prog 64 #[.int .i64 n] w (Is (.tuple #[cx (plW n).1 (plW n).2, .int .i64 0]) w) := by
  (refine fn_of_W Try.func64 rfl (by kernel_rfl) (by kernel_rfl) (Nat.le_of_ble_eq_true (by kernel_rfl)) ?_; (try simp only [RS, RF, cond_true, cond_false, List.nil_append, List.cons_append, List.toList_toArray, Option.isSome_some, Option.map_some, Option.map_none, Nat.reduceBEq, isShift, kEq, fEq, binInt, binFloat, shiftInt, binStr, Try.f64]))
  (refine (in_ct w n 0 7).mono ?_; rintro _ w1 ⟨rfl, hw1⟩)
  rw [decide_eq_true (by omega : (0 : Int) ≤ n), decide_eq_true (by omega : (n : Int) ≤ 7)]
  (try simp only [RS, RF, cond_true, cond_false, List.nil_append, List.cons_append, List.toList_toArray, Option.isSome_some, Option.map_some, Option.map_none, Nat.reduceBEq, isShift, kEq, fEq, binInt, binFloat, shiftInt, binStr])
  (refine (l07Place_ct w1 n h).mono ?_; rintro _ w2 ⟨rfl, hw2⟩)
  (try simp only [RS, RF, cond_true, cond_false, List.nil_append, List.cons_append, List.toList_toArray, Option.isSome_some, Option.map_some, Option.map_none, Nat.reduceBEq, isShift, kEq, fEq, binInt, binFloat, shiftInt, binStr])
  exact ⟨rfl, hw1.trans hw2⟩

/-! ### With two places -/
def detW (i k : Nat) : Nat := crossW (plW i).1 (plW i).2 (plW k).1 (plW k).2
/-- the places lie on one line -/
def lineB (i k : Nat) : Bool := flt .f32 (bif flt .f32 (detW i k) 0 then fsub 0 (detW i k) else detW i k) least
def okDet (i k : Nat) : Bool := (FV .f32 .mul (cn .f32 (plW i).1) (cn .f32 (plW k).2)).isSome && (FV .f32 .mul (cn .f32 (plW i).2) (cn .f32 (plW k).1)).isSome && (FV .f32 .sub (cn .f32 (fmul (plW i).1 (plW k).2)) (cn .f32 (fmul (plW i).2 (plW k).1))).isSome &&
  (FV .f32 .sub (cn .f32 0) (cn .f32 (detW i k))).isSome && (flt .f32 (bif flt .f32 (detW i k) 0 then Op.negFloat .f32 (detW i k) else detW i k) least == lineB i k) &&
  decide (detW i k < 4294967296) && decide (detW i k % 2147483648 ≤ 1065353216) && decide (valZ (detW i k) = ((plI i).1 * (plI k).2 - (plI i).2 * (plI k).1) * 2 ^ 133) &&
  (lineB i k || decide (45000 ≤ ((plI i).1 * (plI k).2 - (plI i).2 * (plI k).1)) || decide (((plI i).1 * (plI k).2 - (plI i).2 * (plI k).1) ≤ -45000))
def okDets : Bool := (List.range 8).all fun i => (List.range 8).all fun k => okDet i k
theorem okDets_t : okDets = true := by kernel_rfl
theorem okDet_t {i k : Nat} (hi : i < 8) (hk : k < 8) : okDet i k = true :=
  List.all_eq_true.1 (List.all_eq_true.1 okDets_t i (List.mem_range.2 hi)) k (List.mem_range.2 hk)
theorem Okf.of_some {o : BinOp} {x y : Nat} (h : (FV .f32 o (cn .f32 x) (cn .f32 y)).isSome = true) : Okf o x y := Option.isSome_iff_exists.1 h
structure Det (i k : Nat) : Prop where
  cr : Cross (plW i).1 (plW i).2 (plW k).1 (plW k).2
  ng : Okf .sub 0 (detW i k)
  sz : flt .f32 (bif flt .f32 (detW i k) 0 then Op.negFloat .f32 (detW i k) else detW i k) least = lineB i k
  fin : FinW (detW i k)
  one : detW i k % 2147483648 ≤ 1065353216
  val : valZ (detW i k) = ((plI i).1 * (plI k).2 - (plI i).2 * (plI k).1) * 2 ^ 133
  big : lineB i k = false → 45000 ≤ (plI i).1 * (plI k).2 - (plI i).2 * (plI k).1 ∨ (plI i).1 * (plI k).2 - (plI i).2 * (plI k).1 ≤ -45000
theorem det_of {i k : Nat} (hi : i < 8) (hk : k < 8) : Det i k := by
  have h := okDet_t hi hk
  unfold okDet at h
  simp only [Bool.and_eq_true, decide_eq_true_eq, beq_iff_eq, Bool.or_eq_true] at h
  obtain ⟨⟨⟨⟨⟨⟨⟨⟨h1, h2⟩, h3⟩, h4⟩, h5⟩, h6⟩, h7⟩, h8⟩, h9⟩ := h
  refine ⟨⟨.of_some h1, .of_some h2, .of_some h3⟩, .of_some h4, h5, ⟨h6, by omega⟩, h7, h8, fun hl => ?_⟩
  rw [hl] at h9
  rcases h9 with (h | h) | h
  · cases h
  · exact .inl h
  · exact .inr h
def oneN (px py i k : Nat) : Nat := fsub (fmul py (plW k).1) (fmul px (plW k).2)
def twoN (px py i k : Nat) : Nat := fsub (fmul px (plW i).2) (fmul py (plW i).1)
def oneW (px py i k : Nat) : Nat := fquo (oneN px py i k) (detW i k)
def twoW (px py i k : Nat) : Nat := fquo (twoN px py i k) (detW i k)
structure MasOK (px py i k : Nat) : Prop where
  a1 : Okf .mul py (plW k).1
  a2 : Okf .mul px (plW k).2
  a3 : Okf .sub (fmul py (plW k).1) (fmul px (plW k).2)
  a4 : Okf .quo (oneN px py i k) (detW i k)
  b1 : Okf .mul px (plW i).2
  b2 : Okf .mul py (plW i).1
  b3 : Okf .sub (fmul px (plW i).2) (fmul py (plW i).1)
  b4 : Okf .quo (twoN px py i k) (detW i k)
  f1 : FinW (oneW px py i k)
  f2 : FinW (twoW px py i k)
def masV (px py i k : Nat) : Value :=
  bif lineB i k then .tuple #[fl 0, fl 0, .int .i64 4] else
  bif amountB (oneW px py i k) && amountB (twoW px py i k) then .tuple #[fl (oneW px py i k), fl (twoW px py i k), .int .i64 0] else .tuple #[fl 0, fl 0, .int .i64 6]
set_option maxRecDepth 100000 in
theorem size_ct (w : World) (a : Nat) (h : Okf .sub 0 a) : Ct Try.prog 152 #[fl a] w (Is (fl (bif flt .f32 a 0 then fsub 0 a else a)) w) := by
  (refine fn_of_W Try.func152 rfl (by kernel_rfl) (by kernel_rfl) (Nat.le_of_ble_eq_true (by kernel_rfl)) ?_; (try simp only [RS, RF, cond_true, cond_false, List.nil_append, List.cons_append, List.toList_toArray, Option.isSome_some, Option.map_some, Option.map_none, Nat.reduceBEq, isShift, kEq, fEq, binInt, binFloat, shiftInt, binStr, Try.f152]))
  intro b hb
  cases b
  · (try simp only [RS, RF, cond_true, cond_false, List.nil_append, List.cons_append, List.toList_toArray, Option.isSome_some, Option.map_some, Option.map_none, Nat.reduceBEq, isShift, kEq, fEq, binInt, binFloat, shiftInt, binStr])
    rw [← hb]; exact ⟨rfl, Bl.refl w⟩
  · (try simp only [RS, RF, cond_true, cond_false, List.nil_append, List.cons_append, List.toList_toArray, Option.isSome_some, Option.map_some, Option.map_none, Nat.reduceBEq, isShift, kEq, fEq, binInt, binFloat, shiftInt, binStr])
    intro r n hr
    rw [Okf.word (x := 0) h hr, ← hb]; exact ⟨rfl, Bl.drewN _ _⟩
set_option maxRecDepth 100000 in
theorem l01Size_ct (w : World) (a : Nat) : Ct Try.prog 197 #[fl a] w (Is (fl (bif flt .f32 a 0 then Op.negFloat .f32 a else a)) w) := by
  (refine fn_of_W Try.func197 rfl (by kernel_rfl) (by kernel_rfl) (Nat.le_of_ble_eq_true (by kernel_rfl)) ?_; (try simp only [RS, RF, cond_true, cond_false, List.nil_append, List.cons_append, List.toList_toArray, Option.isSome_some, Option.map_some, Option.map_none, Nat.reduceBEq, isShift, kEq, fEq, binInt, binFloat, shiftInt, binStr, Try.f197]))
  intro b hb
  cases b
  · (try simp only [RS, RF, cond_true, cond_false, List.nil_append, List.cons_append, List.toList_toArray, Option.isSome_some, Option.map_some, Option.map_none, Nat.reduceBEq, isShift, kEq, fEq, binInt, binFloat, shiftInt, binStr])
    rw [← hb]; exact ⟨rfl, Bl.refl w⟩
  · (try simp only [RS, RF, cond_true, cond_false, List.nil_append, List.cons_append, List.toList_toArray, Option.isSome_some, Option.map_some, Option.map_none, Nat.reduceBEq, isShift, kEq, fEq, binInt, binFloat, shiftInt, binStr])
    rw [← hb]; exact ⟨rfl, Bl.refl w⟩
theorem pl_plain {n : Nat} (h : n < 8) : plainB (plW n).1 = true ∧ plainB (plW n).2 = true := by
  have := plW_pt h
  exact ⟨(this.1.bd.mono (by grind)).plain, (this.2.bd.mono (by grind)).plain⟩
set_option maxRecDepth 100000 in
theorem BalanceWith_ct (w : World) (v : Value) (ws : List WV) (i k : Nat) (hi : i < 8) (hk : k < 8) (h : WtV w v ws) (hok : ∀ d ∈ ws, Wok d) (hp : Pulls (0, 0) ws)
    (hm : lineB i k = false → MasOK (pullW (0, 0) ws).1 (pullW (0, 0) ws).2 i k) :
    Ct Try.prog 61 #[v, cx (plW i).1 (plW i).2, cx (plW k).1 (plW k).2] w (Is (masV (pullW (0, 0) ws).1 (pullW (0, 0) ws).2 i k) w) := by
  have hd := det_of hi hk
  (refine fn_of_W Try.func61 rfl (by kernel_rfl) (by kernel_rfl) (Nat.le_of_ble_eq_true (by kernel_rfl)) ?_; (try simp only [RS, RF, cond_true, cond_false, List.nil_append, List.cons_append, List.toList_toArray, Option.isSome_some, Option.map_some, Option.map_none, Nat.reduceBEq, isShift, kEq, fEq, binInt, binFloat, shiftInt, binStr, Try.f61]))
  (refine (cross_ct w _ _ _ _ hd.cr).mono ?_; rintro _ w1 ⟨rfl, hw1⟩)
  (try simp only [RS, RF, cond_true, cond_false, List.nil_append, List.cons_append, List.toList_toArray, Option.isSome_some, Option.map_some, Option.map_none, Nat.reduceBEq, isShift, kEq, fEq, binInt, binFloat, shiftInt, binStr])
  (refine (ValidWeights_ct w1 v ws (h.bl hw1) hok).mono ?_; rintro _ w2 ⟨rfl, hw2⟩)
  (try simp only [RS, RF, cond_true, cond_false, List.nil_append, List.cons_append, List.toList_toArray, Option.isSome_some, Option.map_some, Option.map_none, Nat.reduceBEq, isShift, kEq, fEq, binInt, binFloat, shiftInt, binStr])
  (refine (IsPoint_ct w2 _ _ (pl_plain hi).1 (pl_plain hi).2).mono ?_; rintro _ w3 ⟨rfl, hw3⟩)
  (try simp only [RS, RF, cond_true, cond_false, List.nil_append, List.cons_append, List.toList_toArray, Option.isSome_some, Option.map_some, Option.map_none, Nat.reduceBEq, isShift, kEq, fEq, binInt, binFloat, shiftInt, binStr])
  (refine (IsPoint_ct w3 _ _ (pl_plain hk).1 (pl_plain hk).2).mono ?_; rintro _ w4 ⟨rfl, hw4⟩)
  (try simp only [RS, RF, cond_true, cond_false, List.nil_append, List.cons_append, List.toList_toArray, Option.isSome_some, Option.map_some, Option.map_none, Nat.reduceBEq, isShift, kEq, fEq, binInt, binFloat, shiftInt, binStr])
  (refine (size_ct w4 (detW i k) hd.ng).mono ?_; rintro _ w5 ⟨rfl, hw5⟩)
  have hb5 := (((hw1.trans hw2).trans hw3).trans hw4).trans hw5
  have el : flt .f32 (bif flt .f32 (detW i k) 0 then fsub 0 (detW i k) else detW i k) 981467136 = lineB i k := rfl
  unfold masV
  cases hl : lineB i k
  · rw [hl] at el
    obtain ⟨a1, a2, a3, a4, b1, b2, b3, b4, f1, f2⟩ := hm hl
    (try simp only [RS, RF, cond_true, cond_false, List.nil_append, List.cons_append, List.toList_toArray, Option.isSome_some, Option.map_some, Option.map_none, Nat.reduceBEq, isShift, kEq, fEq, binInt, binFloat, shiftInt, binStr, forall_eq, el])
    (refine (pullOf_ct w5 v ws (h.bl hb5) hp).mono ?_; rintro _ w6 ⟨rfl, hw6⟩)
    (try simp only [RS, RF, cond_true, cond_false, List.nil_append, List.cons_append, List.toList_toArray, Option.isSome_some, Option.map_some, Option.map_none, Nat.reduceBEq, isShift, kEq, fEq, binInt, binFloat, shiftInt, binStr])
    intro r1 n1 hr1 r2 n2 hr2
    rw [a1.word hr1, a2.word hr2]
    intro r3 n3 hr3
    rw [a3.word hr3]
    intro r4 n4 hr4
    rw [Okf.word a4 hr4]
    (try simp only [RS, RF, cond_true, cond_false, List.nil_append, List.cons_append, List.toList_toArray, Option.isSome_some, Option.map_some, Option.map_none, Nat.reduceBEq, isShift, kEq, fEq, binInt, binFloat, shiftInt, binStr])
    intro s1 m1 hs1 s2 m2 hs2
    rw [b1.word hs1, b2.word hs2]
    intro s3 m3 hs3
    rw [b3.word hs3]
    intro s4 m4 hs4
    rw [Okf.word b4 hs4]
    (try simp only [RS, RF, cond_true, cond_false, List.nil_append, List.cons_append, List.toList_toArray, Option.isSome_some, Option.map_some, Option.map_none, Nat.reduceBEq, isShift, kEq, fEq, binInt, binFloat, shiftInt, binStr])
    have hb7 : Bl w ((((((((w6.drewN n1).drewN n2).drewN n3).drewN n4).drewN m1).drewN m2).drewN m3).drewN m4) :=
      (hb5.trans hw6).trans ((((((((Bl.drewN _ _).trans (Bl.drewN _ _)).trans (Bl.drewN _ _)).trans (Bl.drewN _ _)).trans (Bl.drewN _ _)).trans (Bl.drewN _ _)).trans (Bl.drewN _ _)).trans (Bl.drewN _ _))
    generalize ((((((((w6.drewN n1).drewN n2).drewN n3).drewN n4).drewN m1).drewN m2).drewN m3).drewN m4) = w7 at *
    have e1 : fop .quo (oneN (pullW (0, 0) ws).1 (pullW (0, 0) ws).2 i k) (detW i k) = oneW (pullW (0, 0) ws).1 (pullW (0, 0) ws).2 i k := rfl
    have e2 : fop .quo (twoN (pullW (0, 0) ws).1 (pullW (0, 0) ws).2 i k) (detW i k) = twoW (pullW (0, 0) ws).1 (pullW (0, 0) ws).2 i k := rfl
    generalize oneW (pullW (0, 0) ws).1 (pullW (0, 0) ws).2 i k = U at *
    generalize twoW (pullW (0, 0) ws).1 (pullW (0, 0) ws).2 i k = V at *
    rw [e1, e2]
    (refine (isAmount_ct w7 U).mono ?_; rintro _ w8 ⟨rfl, hw8⟩)
    cases hU : amountB U
    · (try simp only [RS, RF, cond_true, cond_false, List.nil_append, List.cons_append, List.toList_toArray, Option.isSome_some, Option.map_some, Option.map_none, Nat.reduceBEq, isShift, kEq, fEq, binInt, binFloat, shiftInt, binStr])
      exact ⟨rfl, hb7.trans hw8⟩
    · (try simp only [RS, RF, cond_true, cond_false, List.nil_append, List.cons_append, List.toList_toArray, Option.isSome_some, Option.map_some, Option.map_none, Nat.reduceBEq, isShift, kEq, fEq, binInt, binFloat, shiftInt, binStr])
      (refine (isAmount_ct w8 V).mono ?_; rintro _ w9 ⟨rfl, hw9⟩)
      cases hV : amountB V
      · (try simp only [RS, RF, cond_true, cond_false, List.nil_append, List.cons_append, List.toList_toArray, Option.isSome_some, Option.map_some, Option.map_none, Nat.reduceBEq, isShift, kEq, fEq, binInt, binFloat, shiftInt, binStr])
        exact ⟨rfl, (hb7.trans hw8).trans hw9⟩
      · (try simp only [RS, RF, cond_true, cond_false, List.nil_append, List.cons_append, List.toList_toArray, Option.isSome_some, Option.map_some, Option.map_none, Nat.reduceBEq, isShift, kEq, fEq, binInt, binFloat, shiftInt, binStr])
        exact ⟨rfl, (hb7.trans hw8).trans hw9⟩
  · rw [hl] at el
    (try simp only [RS, RF, cond_true, cond_false, List.nil_append, List.cons_append, List.toList_toArray, Option.isSome_some, Option.map_some, Option.map_none, Nat.reduceBEq, isShift, kEq, fEq, binInt, binFloat, shiftInt, binStr, forall_eq, el])
    exact ⟨rfl, hb5⟩
theorem not_amount {x : Nat} (hf : FinW x) : (!plainB x || flt .f32 x 0) = !amountB x := by
  rw [plain_val hf, amount_val hf, flt_val hf val_zero.1, val_zero.2]
  by_cases h1 : val x ≤ 1048576
  · rw [decide_eq_true h1]
    by_cases h2 : 0 ≤ val x
    · rw [decide_eq_true h2, decide_eq_true (by grind : -1048576 ≤ val x), decide_eq_false (by grind)]; rfl
    · rw [decide_eq_false h2, decide_eq_true (by grind : val x < 0)]; simp
  · rw [decide_eq_false h1]; simp
set_option maxRecDepth 100000 in
theorem l07Masses_ct (w : World) (px py i k : Nat) (hi : i < 8) (hk : k < 8) (hm : lineB i k = false → MasOK px py i k) :
    Ct Try.prog 149 #[cx px py, cx (plW i).1 (plW i).2, cx (plW k).1 (plW k).2] w (Is (masV px py i k) w) := by
  have hd := det_of hi hk
  obtain ⟨c1, c2, c3⟩ := hd.cr
  (refine fn_of_W Try.func149 rfl (by kernel_rfl) (by kernel_rfl) (Nat.le_of_ble_eq_true (by kernel_rfl)) ?_; (try simp only [RS, RF, cond_true, cond_false, List.nil_append, List.cons_append, List.toList_toArray, Option.isSome_some, Option.map_some, Option.map_none, Nat.reduceBEq, isShift, kEq, fEq, binInt, binFloat, shiftInt, binStr, Try.f149]))
  intro r1 n1 hr1 r2 n2 hr2
  rw [c1.word hr1, c2.word hr2]
  intro r3 n3 hr3
  rw [c3.word hr3]
  (try simp only [RS, RF, cond_true, cond_false, List.nil_append, List.cons_append, List.toList_toArray, Option.isSome_some, Option.map_some, Option.map_none, Nat.reduceBEq, isShift, kEq, fEq, binInt, binFloat, shiftInt, binStr])
  have hb1 : Bl w (((w.drewN n1).drewN n2).drewN n3) := ((Bl.drewN _ _).trans (Bl.drewN _ _)).trans (Bl.drewN _ _)
  generalize ((w.drewN n1).drewN n2).drewN n3 = w1 at *
  (refine (l01Size_ct w1 (detW i k)).mono ?_; rintro _ w2 ⟨rfl, hw2⟩)
  have el := hd.sz
  unfold least at el
  unfold masV
  cases hl : lineB i k
  · rw [hl] at el
    obtain ⟨a1, a2, a3, a4, b1, b2, b3, b4, f1, f2⟩ := hm hl
    (try simp only [RS, RF, cond_true, cond_false, List.nil_append, List.cons_append, List.toList_toArray, Option.isSome_some, Option.map_some, Option.map_none, Nat.reduceBEq, isShift, kEq, fEq, binInt, binFloat, shiftInt, binStr, forall_eq, el])
    intro r1 n1 hr1 r2 n2 hr2
    rw [a1.word hr1, a2.word hr2]
    intro r3 n3 hr3
    rw [a3.word hr3]
    intro r4 n4 hr4
    rw [Okf.word a4 hr4]
    (try simp only [RS, RF, cond_true, cond_false, List.nil_append, List.cons_append, List.toList_toArray, Option.isSome_some, Option.map_some, Option.map_none, Nat.reduceBEq, isShift, kEq, fEq, binInt, binFloat, shiftInt, binStr])
    intro s1 m1 hs1 s2 m2 hs2
    rw [b1.word hs1, b2.word hs2]
    intro s3 m3 hs3
    rw [b3.word hs3]
    intro s4 m4 hs4
    rw [Okf.word b4 hs4]
    (try simp only [RS, RF, cond_true, cond_false, List.nil_append, List.cons_append, List.toList_toArray, Option.isSome_some, Option.map_some, Option.map_none, Nat.reduceBEq, isShift, kEq, fEq, binInt, binFloat, shiftInt, binStr])
    have hb7 : Bl w ((((((((w2.drewN n1).drewN n2).drewN n3).drewN n4).drewN m1).drewN m2).drewN m3).drewN m4) :=
      (hb1.trans hw2).trans ((((((((Bl.drewN _ _).trans (Bl.drewN _ _)).trans (Bl.drewN _ _)).trans (Bl.drewN _ _)).trans (Bl.drewN _ _)).trans (Bl.drewN _ _)).trans (Bl.drewN _ _)).trans (Bl.drewN _ _))
    generalize ((((((((w2.drewN n1).drewN n2).drewN n3).drewN n4).drewN m1).drewN m2).drewN m3).drewN m4) = w7 at *
    have e1 : fop .quo (oneN px py i k) (detW i k) = oneW px py i k := rfl
    have e2 : fop .quo (twoN px py i k) (detW i k) = twoW px py i k := rfl
    generalize oneW px py i k = U at *
    generalize twoW px py i k = V at *
    rw [e1, e2]
    have nU := not_amount f1
    have nV := not_amount f2
    (refine (plain_ct w7 U).mono ?_; rintro _ w8 ⟨rfl, hw8⟩)
    cases pU : plainB U
    · have hU : amountB U = false := by rw [pU] at nU; simpa using nU.symm
      (try simp only [RS, RF, cond_true, cond_false, List.nil_append, List.cons_append, List.toList_toArray, Option.isSome_some, Option.map_some, Option.map_none, Nat.reduceBEq, isShift, kEq, fEq, binInt, binFloat, shiftInt, binStr])
      rw [hU]
      exact ⟨rfl, hb7.trans hw8⟩
    · (try simp only [RS, RF, cond_true, cond_false, List.nil_append, List.cons_append, List.toList_toArray, Option.isSome_some, Option.map_some, Option.map_none, Nat.reduceBEq, isShift, kEq, fEq, binInt, binFloat, shiftInt, binStr])
      (refine (plain_ct w8 V).mono ?_; rintro _ w9 ⟨rfl, hw9⟩)
      cases pV : plainB V
      · have hV : amountB V = false := by rw [pV] at nV; simpa using nV.symm
        (try simp only [RS, RF, cond_true, cond_false, List.nil_append, List.cons_append, List.toList_toArray, Option.isSome_some, Option.map_some, Option.map_none, Nat.reduceBEq, isShift, kEq, fEq, binInt, binFloat, shiftInt, binStr])
        rw [hV, Bool.and_false]
        exact ⟨rfl, (hb7.trans hw8).trans hw9⟩
      · rw [pU] at nU
        rw [pV] at nV
        simp only [Bool.not_true, Bool.false_or] at nU nV
        (try simp only [RS, RF, cond_true, cond_false, List.nil_append, List.cons_append, List.toList_toArray, Option.isSome_some, Option.map_some, Option.map_none, Nat.reduceBEq, isShift, kEq, fEq, binInt, binFloat, shiftInt, binStr])
        intro b1 hb1
        rw [nU] at hb1
        cases hU : amountB U
        · rw [hU] at hb1
          subst hb1
          (try simp only [RS, RF, cond_true, cond_false, List.nil_append, List.cons_append, List.toList_toArray, Option.isSome_some, Option.map_some, Option.map_none, Nat.reduceBEq, isShift, kEq, fEq, binInt, binFloat, shiftInt, binStr])
          exact ⟨rfl, (hb7.trans hw8).trans hw9⟩
        · rw [hU] at hb1
          subst hb1
          (try simp only [RS, RF, cond_true, cond_false, List.nil_append, List.cons_append, List.toList_toArray, Option.isSome_some, Option.map_some, Option.map_none, Nat.reduceBEq, isShift, kEq, fEq, binInt, binFloat, shiftInt, binStr])
          intro b2 hb2
          rw [nV] at hb2
          cases hV : amountB V
          · rw [hV] at hb2
            subst hb2
            (try simp only [RS, RF, cond_true, cond_false, List.nil_append, List.cons_append, List.toList_toArray, Option.isSome_some, Option.map_some, Option.map_none, Nat.reduceBEq, isShift, kEq, fEq, binInt, binFloat, shiftInt, binStr])
            exact ⟨rfl, (hb7.trans hw8).trans hw9⟩
          · rw [hV] at hb2
            subst hb2
            (try simp only [RS, RF, cond_true, cond_false, List.nil_append, List.cons_append, List.toList_toArray, Option.isSome_some, Option.map_some, Option.map_none, Nat.reduceBEq, isShift, kEq, fEq, binInt, binFloat, shiftInt, binStr])
            exact ⟨rfl, (hb7.trans hw8).trans hw9⟩
  · rw [hl] at el
    (try simp only [RS, RF, cond_true, cond_false, List.nil_append, List.cons_append, List.toList_toArray, Option.isSome_some, Option.map_some, Option.map_none, Nat.reduceBEq, isShift, kEq, fEq, binInt, binFloat, shiftInt, binStr, forall_eq, el])
    exact ⟨rfl, hb1.trans hw2⟩
set_option maxRecDepth 100000 in
theorem sBalanceWith_ct (w : World) (v : Value) (ws : List WV) (i k : Nat) (hi : i < 8) (hk : k < 8) (h : WtV w v ws) (hok : ∀ d ∈ ws, Wok d) (hp : Pulls (0, 0) ws)
    (hm : lineB i k = false → MasOK (pullW (0, 0) ws).1 (pullW (0, 0) ws).2 i k) :
    Ct Try.prog 62 #[v, cx (plW i).1 (plW i).2, cx (plW k).1 (plW k).2] w fun u w' => ∃ x y c, u = .tuple #[fl x, fl y, .int .i64 c] ∧ masV (pullW (0, 0) ws).1 (pullW (0, 0) ws).2 i k = .tuple #[fl x, fl y, .int .i64 c] ∧ Bl w w' := by
  (refine fn_of_W Try.func62 rfl (by kernel_rfl) (by kernel_rfl) (Nat.le_of_ble_eq_true (by kernel_rfl)) ?_; (try simp only [RS, RF, cond_true, cond_false, List.nil_append, List.cons_append, List.toList_toArray, Option.isSome_some, Option.map_some, Option.map_none, Nat.reduceBEq, isShift, kEq, fEq, binInt, binFloat, shiftInt, binStr, Try.f62]))
  (refine (l07Ok_ct w v ws h hok).mono ?_; rintro _ w1 ⟨rfl, hw1⟩)
  (try simp only [RS, RF, cond_true, cond_false, List.nil_append, List.cons_append, List.toList_toArray, Option.isSome_some, Option.map_some, Option.map_none, Nat.reduceBEq, isShift, kEq, fEq, binInt, binFloat, shiftInt, binStr])
  (refine (lPoint_ct w1 _ _ (pl_plain hi).1 (pl_plain hi).2).mono ?_; rintro _ w2 ⟨rfl, hw2⟩)
  (try simp only [RS, RF, cond_true, cond_false, List.nil_append, List.cons_append, List.toList_toArray, Option.isSome_some, Option.map_some, Option.map_none, Nat.reduceBEq, isShift, kEq, fEq, binInt, binFloat, shiftInt, binStr])
  (refine (lPoint_ct w2 _ _ (pl_plain hk).1 (pl_plain hk).2).mono ?_; rintro _ w3 ⟨rfl, hw3⟩)
  (try simp only [RS, RF, cond_true, cond_false, List.nil_append, List.cons_append, List.toList_toArray, Option.isSome_some, Option.map_some, Option.map_none, Nat.reduceBEq, isShift, kEq, fEq, binInt, binFloat, shiftInt, binStr])
  have hb3 := (hw1.trans hw2).trans hw3
  (refine (l07Pull_ct w3 v ws (h.bl hb3) hp).mono ?_; rintro _ w4 ⟨rfl, hw4⟩)
  (try simp only [RS, RF, cond_true, cond_false, List.nil_append, List.cons_append, List.toList_toArray, Option.isSome_some, Option.map_some, Option.map_none, Nat.reduceBEq, isShift, kEq, fEq, binInt, binFloat, shiftInt, binStr])
  (refine (l07Masses_ct w4 _ _ i k hi hk hm).mono ?_; rintro _ w5 ⟨e, hw5⟩)
  obtain ⟨x, y, c, hv⟩ : ∃ x y c, masV (pullW (0, 0) ws).1 (pullW (0, 0) ws).2 i k = .tuple #[fl x, fl y, .int .i64 c] := by
    unfold masV
    cases lineB i k
    · cases amountB (oneW (pullW (0, 0) ws).1 (pullW (0, 0) ws).2 i k) && amountB (twoW (pullW (0, 0) ws).1 (pullW (0, 0) ws).2 i k)
      · exact ⟨_, _, _, rfl⟩
      · exact ⟨_, _, _, rfl⟩
    · exact ⟨_, _, _, rfl⟩
  rw [hv] at e
  subst e
  (try simp only [RS, RF, cond_true, cond_false, List.nil_append, List.cons_append, List.toList_toArray, Option.isSome_some, Option.map_some, Option.map_none, Nat.reduceBEq, isShift, kEq, fEq, binInt, binFloat, shiftInt, binStr])
  exact ⟨x, y, c, rfl, hv, (hb3.trans hw4).trans hw5⟩
end Go.Proofs.Ytjgpnbchnenbeaa
