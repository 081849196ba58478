/- Balance: the best places; what is left over. -/
import Derived.Test.YtjgpnbchnenbeaaB3
namespace Go.Proofs.Ytjgpnbchnenbeaa
set_option linter.unusedSimpArgs false
set_option linter.unusedVariables false
open Go
open Go.RowKit (Below)

def masR (px py i k : Nat) : Option (Nat × Nat) :=
  bif lineB i k then none else bif amountB (oneW px py i k) && amountB (twoW px py i k) then some (oneW px py i k, twoW px py i k) else none
theorem amount_bd {x : Nat} (hf : FinW x) (h : amountB x = true) : Bd x 1048576 ∧ 0 ≤ val x := by
  rw [amount_val hf] at h
  simp only [Bool.and_eq_true, decide_eq_true_eq] at h
  exact ⟨⟨hf, by grind, h.2⟩, h.1⟩
theorem sum_bd {x y : Nat} (hx : Bd x 1048576) (hy : Bd y 1048576) : Okf .add x y ∧ Bd (fadd x y) 2097200 := by
  have h99 : (2097152 : Rat) ≤ p2 99 := by rw [p2_99]; decide
  have := hx.add hy (C := 2097200) (by unfold tin; grind) (by grind)
  exact ⟨this.1, this.2.1⟩
theorem zero_ok : Okf .add 0 0 := ⟨0, by kernel_rfl⟩
theorem masV_cases (px py i k : Nat) (hm : lineB i k = false → MasOK px py i k) :
    (∃ c : Int, masV px py i k = .tuple #[fl 0, fl 0, .int .i64 c] ∧ (c = 4 ∨ c = 6) ∧ masR px py i k = none) ∨
    (∃ u v, masV px py i k = .tuple #[fl u, fl v, .int .i64 0] ∧ masR px py i k = some (u, v) ∧ (Bd u 1048576 ∧ 0 ≤ val u) ∧ (Bd v 1048576 ∧ 0 ≤ val v) ∧ Okf .add u v ∧ Bd (fadd u v) 2097200) := by
  unfold masV masR
  cases hl : lineB i k
  · obtain ⟨a1, a2, a3, a4, b1, b2, b3, b4, f1, f2⟩ := hm hl
    cases hU : amountB (oneW px py i k)
    · exact .inl ⟨6, rfl, .inr rfl, rfl⟩
    · cases hV : amountB (twoW px py i k)
      · exact .inl ⟨6, rfl, .inr rfl, rfl⟩
      · have u := amount_bd f1 hU
        have v := amount_bd f2 hV
        have s := sum_bd u.1 v.1
        exact .inr ⟨_, _, rfl, rfl, u, v, s.1, s.2⟩
  · exact .inl ⟨4, rfl, .inl rfl, rfl⟩

abbrev St := Option (Nat × Nat × Nat)
def nextB (px py : Nat) (st : St) (i k : Nat) : St :=
  match masR px py i k with
  | none => st
  | some (u, v) => match st with
    | none => some (i, k, fadd u v)
    | some (a, b, s) => bif flt .f32 (fadd u v) s then some (i, k, fadd u v) else some (a, b, s)
def innerB (px py i : Nat) (st : St) : Nat → St
  | 0 => st
  | n + 1 => nextB px py (innerB px py i st n) i (i + 1 + n)
def outerB (px py : Nat) : Nat → St
  | 0 => none
  | i + 1 => innerB px py i (outerB px py i) (7 - i)
def encX : St → Int | none => -1 | some (i, _, _) => i
def encY : St → Int | none => -1 | some (_, k, _) => k
def encB : St → Nat | none => 0 | some (_, _, s) => s
/-- the state is of two places below 8, and no pair that was seen has less -/
structure Good (px py : Nat) (st : St) (seen : Nat → Nat → Prop) : Prop where
  none_ : st = none → ∀ i k, seen i k → masR px py i k = none
  some_ : ∀ a b s, st = some (a, b, s) → a < b ∧ b < 8 ∧ (∃ u v, masR px py a b = some (u, v) ∧ s = fadd u v) ∧ ∀ i k u v, seen i k → masR px py i k = some (u, v) → val s ≤ val (fadd u v)
theorem Good.step {px py : Nat} {st : St} {seen : Nat → Nat → Prop} (h : Good px py st seen) {i k : Nat} (hik : i < k) (hk : k < 8) (hf : ∀ i k u v, masR px py i k = some (u, v) → i < k → k < 8 → FinW (fadd u v)) (hs : ∀ i k, seen i k → i < k ∧ k < 8) :
    Good px py (nextB px py st i k) (fun a b => seen a b ∨ a = i ∧ b = k) := by
  unfold nextB
  cases hr : masR px py i k with
  | none =>
    refine ⟨fun e a b hab => ?_, fun a b s e => ?_⟩
    · rcases hab with hab | ⟨rfl, rfl⟩
      · exact h.none_ e a b hab
      · exact hr
    · obtain ⟨h1, h2, h3, h4⟩ := h.some_ a b s e
      refine ⟨h1, h2, h3, fun a' b' u v hab huv => ?_⟩
      rcases hab with hab | ⟨rfl, rfl⟩
      · exact h4 a' b' u v hab huv
      · rw [hr] at huv; cases huv
  | some uv =>
    obtain ⟨u, v⟩ := uv
    cases st with
    | none =>
      refine ⟨fun e => (by cases e), fun a b s e => ?_⟩
      simp only [Option.some.injEq, Prod.mk.injEq] at e
      obtain ⟨rfl, rfl, rfl⟩ := e
      refine ⟨hik, hk, ⟨u, v, hr, rfl⟩, fun a' b' u' v' hab huv => ?_⟩
      rcases hab with hab | ⟨rfl, rfl⟩
      · rw [h.none_ rfl a' b' hab] at huv; cases huv
      · rw [hr] at huv
        simp only [Option.some.injEq, Prod.mk.injEq] at huv
        obtain ⟨rfl, rfl⟩ := huv
        grind
    | some t =>
      obtain ⟨a0, b0, s0⟩ := t
      obtain ⟨h1, h2, ⟨u0, v0, h3, h3'⟩, h4⟩ := h.some_ a0 b0 s0 rfl
      have f0 := hf a0 b0 u0 v0 h3 h1 h2
      have f1 := hf i k u v hr hik hk
      rw [← h3'] at f0
      have hlt := flt_val f1 f0
      simp only
      cases hc : flt .f32 (fadd u v) s0
      · rw [hc] at hlt
        have hn : ¬ val (fadd u v) < val s0 := fun e => by rw [decide_eq_true e] at hlt; cases hlt
        refine ⟨fun e => (by cases e), fun a b s e => ?_⟩
        simp only [cond_false, Option.some.injEq, Prod.mk.injEq] at e
        obtain ⟨rfl, rfl, rfl⟩ := e
        refine ⟨h1, h2, ⟨u0, v0, h3, h3'⟩, fun a' b' u' v' hab huv => ?_⟩
        rcases hab with hab | ⟨rfl, rfl⟩
        · exact h4 a' b' u' v' hab huv
        · rw [hr] at huv
          simp only [Option.some.injEq, Prod.mk.injEq] at huv
          obtain ⟨rfl, rfl⟩ := huv
          grind
      · rw [hc] at hlt
        have hn : val (fadd u v) < val s0 := of_decide_eq_true hlt.symm
        refine ⟨fun e => (by cases e), fun a b s e => ?_⟩
        simp only [cond_true, Option.some.injEq, Prod.mk.injEq] at e
        obtain ⟨rfl, rfl, rfl⟩ := e
        refine ⟨hik, hk, ⟨u, v, hr, rfl⟩, fun a' b' u' v' hab huv => ?_⟩
        rcases hab with hab | ⟨rfl, rfl⟩
        · have := h4 a' b' u' v' hab huv; grind
        · rw [hr] at huv
          simp only [Option.some.injEq, Prod.mk.injEq] at huv
          obtain ⟨rfl, rfl⟩ := huv
          grind
theorem Good.mono {px py : Nat} {st : St} {s t : Nat → Nat → Prop} (h : Good px py st s) (hst : ∀ i k, t i k → s i k) : Good px py st t :=
  ⟨fun e i k hik => h.none_ e i k (hst i k hik), fun a b s' e => by obtain ⟨h1, h2, h3, h4⟩ := h.some_ a b s' e; exact ⟨h1, h2, h3, fun i k u v hik => h4 i k u v (hst i k hik)⟩⟩
theorem inner_good {px py : Nat} (hf : ∀ i k u v, masR px py i k = some (u, v) → i < k → k < 8 → FinW (fadd u v)) {i : Nat} {st : St} (h : Good px py st (fun a b => a < i ∧ a < b ∧ b < 8)) : ∀ n, i + 1 + n ≤ 8 →
    Good px py (innerB px py i st n) (fun a b => (a < i ∨ a = i ∧ b < i + 1 + n) ∧ a < b ∧ b < 8) := by
  intro n
  induction n with
  | zero => exact fun _ => h.mono (fun a b hab => ⟨by omega, hab.2⟩)
  | succ n ih =>
    intro hn
    have := (ih (by omega)).step (i := i) (k := i + 1 + n) (by omega) (by omega) hf (fun a b hab => hab.2)
    exact this.mono (fun a b hab => by omega)
theorem outer_good {px py : Nat} (hf : ∀ i k u v, masR px py i k = some (u, v) → i < k → k < 8 → FinW (fadd u v)) : ∀ i, i ≤ 8 → Good px py (outerB px py i) (fun a b => a < i ∧ a < b ∧ b < 8) := by
  intro i
  induction i with
  | zero => exact fun _ => ⟨fun _ a b hab => absurd hab.1 (Nat.not_lt_zero a), fun a b s e => by cases e⟩
  | succ i ih =>
    intro hi
    have := inner_good hf (ih (by omega)) (7 - i) (by omega)
    exact this.mono (fun a b hab => by omega)
def bestV (st : St) : Value := match st with | none => .tuple #[.int .i64 0, .int .i64 0, fl 0, .int .i64 6] | some (i, k, s) => .tuple #[.int .i64 i, .int .i64 k, fl s, .int .i64 0]

set_option maxHeartbeats 1000000 in
set_option maxRecDepth 100000 in
theorem BestPlaces_ct (w : World) (v : Value) (ws : List WV) (h : WtV w v ws) (hok : ∀ d ∈ ws, Wok d) (hp : Pulls (0, 0) ws)
    (hm : ∀ i k, i < 8 → k < 8 → lineB i k = false → MasOK (pullW (0, 0) ws).1 (pullW (0, 0) ws).2 i k) :
    Ct Try.prog 58 #[v] w (Is (bestV (outerB (pullW (0, 0) ws).1 (pullW (0, 0) ws).2 8)) w) := by
  (refine fn_of_W Try.func58 rfl (by kernel_rfl) (by kernel_rfl) (Nat.le_of_ble_eq_true (by kernel_rfl)) ?_; (try simp only [RS, RF, cond_true, cond_false, List.nil_append, List.cons_append, List.toList_toArray, Option.isSome_some, Option.map_some, Option.map_none, Nat.reduceBEq, isShift, kEq, fEq, binInt, binFloat, shiftInt, binStr, Try.f58]))
  (refine (ValidWeights_ct w v ws h hok).mono ?_; rintro _ w1 ⟨rfl, hw1⟩)
  (try simp only [RS, RF, cond_true, cond_false, List.nil_append, List.cons_append, List.toList_toArray, Option.isSome_some, Option.map_some, Option.map_none, Nat.reduceBEq, isShift, kEq, fEq, binInt, binFloat, shiftInt, binStr])
  generalize hpx : (pullW (0, 0) ws).1 = px at *
  generalize hpy : (pullW (0, 0) ws).2 = py at *
  refine loop_W (σ := Nat) (fun i => [(0, v), (6, .int .i64 (encX (outerB px py i))), (7, .int .i64 (encY (outerB px py i))), (8, fl (encB (outerB px py i))), (18, .int .i64 i)]) (fun i w' => i ≤ 8 ∧ Bl w w') (fun i => 8 - i) 0 (agr_cons rfl (agr_cons rfl (agr_cons rfl (agr_cons rfl (agr_cons rfl (agr_nil)))))) ⟨by omega, hw1⟩ ?_
  rintro i w2 e2 ⟨hi, hb2⟩
  (try simp only [RS, RF, cond_true, cond_false, List.nil_append, List.cons_append, List.toList_toArray, Option.isSome_some, Option.map_some, Option.map_none, Nat.reduceBEq, isShift, kEq, fEq, binInt, binFloat, shiftInt, binStr])
  intro b1 h1
  cases b1
  · have hi8 : i = 8 := by have := h1.symm; simp at this; omega
    subst hi8
    (try simp only [RS, RF, cond_true, cond_false, List.nil_append, List.cons_append, List.toList_toArray, Option.isSome_some, Option.map_some, Option.map_none, Nat.reduceBEq, isShift, kEq, fEq, binInt, binFloat, shiftInt, binStr])
    intro b2 h2
    cases hst : outerB px py 8 with
    | none =>
      rw [hst] at h2
      have : b2 = true := by rw [h2]; rfl
      subst this
      (try simp only [RS, RF, cond_true, cond_false, List.nil_append, List.cons_append, List.toList_toArray, Option.isSome_some, Option.map_some, Option.map_none, Nat.reduceBEq, isShift, kEq, fEq, binInt, binFloat, shiftInt, binStr])
      exact ⟨rfl, hb2⟩
    | some t =>
      obtain ⟨a, b, s⟩ := t
      rw [hst] at h2
      have : b2 = false := by rw [h2]; exact decide_eq_false (by show ¬ ((a : Nat) : Int) < 0; omega)
      subst this
      (try simp only [RS, RF, cond_true, cond_false, List.nil_append, List.cons_append, List.toList_toArray, Option.isSome_some, Option.map_some, Option.map_none, Nat.reduceBEq, isShift, kEq, fEq, binInt, binFloat, shiftInt, binStr])
      exact ⟨rfl, hb2⟩
  · have hi8 : i < 8 := by have := h1.symm; simp at this; omega
    (try simp only [RS, RF, cond_true, cond_false, List.nil_append, List.cons_append, List.toList_toArray, Option.isSome_some, Option.map_some, Option.map_none, Nat.reduceBEq, isShift, kEq, fEq, binInt, binFloat, shiftInt, binStr])
    rw [IntWalk.i64_in ((i : Int) + 1) (by omega), show (i : Int) + 1 = ((i + 1 + 0 : Nat) : Int) by omega]
    refine loop_W (σ := Nat) (fun n => [(0, v), (6, .int .i64 (encX (innerB px py i (outerB px py i) n))), (7, .int .i64 (encY (innerB px py i (outerB px py i) n))), (8, fl (encB (innerB px py i (outerB px py i) n))), (9, .int .i64 i), (10, .int .i64 ((i + 1 + n : Nat) : Int)), (18, .int .i64 i)]) (fun n w' => i + 1 + n ≤ 8 ∧ Bl w w') (fun n => 8 - (i + 1 + n)) 0 (agr_cons rfl (agr_cons rfl (agr_cons rfl (agr_cons rfl (agr_cons rfl (agr_cons rfl (agr_cons rfl (agr_nil)))))))) ⟨by omega, hb2⟩ ?_
    rintro n w3 e3 ⟨hn, hb3⟩
    (try simp only [RS, RF, cond_true, cond_false, List.nil_append, List.cons_append, List.toList_toArray, Option.isSome_some, Option.map_some, Option.map_none, Nat.reduceBEq, isShift, kEq, fEq, binInt, binFloat, shiftInt, binStr])
    intro b2 h2
    cases b2
    · have hn8 : n = 7 - i := by have := h2.symm; simp at this; omega
      subst hn8
      (try simp only [RS, RF, cond_true, cond_false, List.nil_append, List.cons_append, List.toList_toArray, Option.isSome_some, Option.map_some, Option.map_none, Nat.reduceBEq, isShift, kEq, fEq, binInt, binFloat, shiftInt, binStr])
      rw [IntWalk.i64_in ((i : Int) + 1) (by omega), show (i : Int) + 1 = ((i + 1 : Nat) : Int) by omega]
      exact ⟨i + 1, (agr_cons rfl (agr_cons rfl (agr_cons rfl (agr_cons rfl (agr_cons rfl (agr_nil)))))), ⟨by omega, hb3⟩, by omega⟩
    · have hn8 : i + 1 + n < 8 := by have := h2.symm; simp at this; omega
      (try simp only [RS, RF, cond_true, cond_false, List.nil_append, List.cons_append, List.toList_toArray, Option.isSome_some, Option.map_some, Option.map_none, Nat.reduceBEq, isShift, kEq, fEq, binInt, binFloat, shiftInt, binStr])
      (refine (place_ct w3 i hi8).mono ?_; rintro _ w4 ⟨rfl, hw4⟩)
      (try simp only [RS, RF, cond_true, cond_false, List.nil_append, List.cons_append, List.toList_toArray, Option.isSome_some, Option.map_some, Option.map_none, Nat.reduceBEq, isShift, kEq, fEq, binInt, binFloat, shiftInt, binStr])
      (refine (place_ct w4 (i + 1 + n) hn8).mono ?_; rintro _ w5 ⟨rfl, hw5⟩)
      (try simp only [RS, RF, cond_true, cond_false, List.nil_append, List.cons_append, List.toList_toArray, Option.isSome_some, Option.map_some, Option.map_none, Nat.reduceBEq, isShift, kEq, fEq, binInt, binFloat, shiftInt, binStr])
      have hb5 := (hb3.trans hw4).trans hw5
      have hcall := BalanceWith_ct w5 v ws i (i + 1 + n) hi8 hn8 (h.bl hb5) hok hp (by rw [hpx, hpy]; exact hm i (i + 1 + n) hi8 hn8)
      rw [hpx, hpy] at hcall
      (refine (hcall).mono ?_; rintro _ w6 ⟨e6, hw6⟩)
      have hb6 := hb5.trans hw6
      have fin : ∀ (w7 : World) (e7 : Env), Bl w w7 → (∀ st, st = innerB px py i (outerB px py i) (n + 1) → agrees e7 [(0, v), (6, .int .i64 (encX st)), (7, .int .i64 (encY st)), (8, fl (encB st)), (9, .int .i64 i), (10, .int .i64 ((i + 1 + n + 1 : Nat) : Int)), (18, .int .i64 i)]) →
          ∃ s2 : Nat, agrees e7 [(0, v), (6, .int .i64 (encX (innerB px py i (outerB px py i) s2))), (7, .int .i64 (encY (innerB px py i (outerB px py i) s2))), (8, fl (encB (innerB px py i (outerB px py i) s2))), (9, .int .i64 i), (10, .int .i64 ((i + 1 + s2 : Nat) : Int)), (18, .int .i64 i)] ∧ (i + 1 + s2 ≤ 8 ∧ Bl w w7) ∧ 8 - (i + 1 + s2) < 8 - (i + 1 + n) := fun w7 e7 hb7 ha => ⟨n + 1, ha _ rfl, ⟨by omega, hb7⟩, by omega⟩
      have hstep : innerB px py i (outerB px py i) (n + 1) = nextB px py (innerB px py i (outerB px py i) n) i (i + 1 + n) := rfl
      generalize innerB px py i (outerB px py i) n = st at *
      rcases masV_cases px py i (i + 1 + n) (hm i (i + 1 + n) hi8 hn8) with ⟨c, hV, hc, hr⟩ | ⟨x, y, hV, hr, hx, hy, hsum, hsb⟩
      · rw [hV] at e6
        subst e6
        (try simp only [RS, RF, cond_true, cond_false, List.nil_append, List.cons_append, List.toList_toArray, Option.isSome_some, Option.map_some, Option.map_none, Nat.reduceBEq, isShift, kEq, fEq, binInt, binFloat, shiftInt, binStr])
        intro r m hr2
        rw [Okf.word zero_ok hr2]
        have hc0 : (c == 0) = false := by rcases hc with rfl | rfl <;> rfl
        (try simp only [RS, RF, cond_true, cond_false, List.nil_append, List.cons_append, List.toList_toArray, Option.isSome_some, Option.map_some, Option.map_none, Nat.reduceBEq, isShift, kEq, fEq, binInt, binFloat, shiftInt, binStr, forall_eq, hc0])
        rw [IntWalk.i64_in (((i + 1 + n : Nat) : Int) + 1) (by omega), show ((i + 1 + n : Nat) : Int) + 1 = ((i + 1 + n + 1 : Nat) : Int) by omega]
        refine fin _ _ (hb6.trans (Bl.drewN _ _)) ?_
        intro st' hst'
        rw [hstep] at hst'
        unfold nextB at hst'
        rw [hr] at hst'
        subst hst'
        exact (agr_cons rfl (agr_cons rfl (agr_cons rfl (agr_cons rfl (agr_cons rfl (agr_cons rfl (agr_cons rfl (agr_nil))))))))
      · rw [hV] at e6
        subst e6
        (try simp only [RS, RF, cond_true, cond_false, List.nil_append, List.cons_append, List.toList_toArray, Option.isSome_some, Option.map_some, Option.map_none, Nat.reduceBEq, isShift, kEq, fEq, binInt, binFloat, shiftInt, binStr])
        intro r m hr2
        rw [Okf.word hsum hr2]
        (try simp only [RS, RF, cond_true, cond_false, List.nil_append, List.cons_append, List.toList_toArray, Option.isSome_some, Option.map_some, Option.map_none, Nat.reduceBEq, isShift, kEq, fEq, binInt, binFloat, shiftInt, binStr, forall_eq, beq_self_eq_true])
        cases st with
        | none =>
          have e1 : decide (encX (none : St) < 0) = true := rfl
          (try simp only [RS, RF, cond_true, cond_false, List.nil_append, List.cons_append, List.toList_toArray, Option.isSome_some, Option.map_some, Option.map_none, Nat.reduceBEq, isShift, kEq, fEq, binInt, binFloat, shiftInt, binStr, forall_eq, e1])
          rw [IntWalk.i64_in (((i + 1 + n : Nat) : Int) + 1) (by omega), show ((i + 1 + n : Nat) : Int) + 1 = ((i + 1 + n + 1 : Nat) : Int) by omega]
          refine fin _ _ (hb6.trans (Bl.drewN _ _)) ?_
          intro st' hst'
          rw [hstep] at hst'
          unfold nextB at hst'
          rw [hr] at hst'
          subst hst'
          exact (agr_cons rfl (agr_cons rfl (agr_cons rfl (agr_cons rfl (agr_cons rfl (agr_cons rfl (agr_cons rfl (agr_nil))))))))
        | some t =>
          obtain ⟨a, b, s⟩ := t
          have e1 : decide (encX (some (a, b, s)) < 0) = false := decide_eq_false (by show ¬ ((a : Nat) : Int) < 0; omega)
          cases hlt : flt .f32 (fadd x y) s
          · have hlt' : flt .f32 (fop .add x y) (encB (some (a, b, s))) = false := hlt
            (try simp only [RS, RF, cond_true, cond_false, List.nil_append, List.cons_append, List.toList_toArray, Option.isSome_some, Option.map_some, Option.map_none, Nat.reduceBEq, isShift, kEq, fEq, binInt, binFloat, shiftInt, binStr, forall_eq, e1, hlt'])
            rw [IntWalk.i64_in (((i + 1 + n : Nat) : Int) + 1) (by omega), show ((i + 1 + n : Nat) : Int) + 1 = ((i + 1 + n + 1 : Nat) : Int) by omega]
            refine fin _ _ (hb6.trans (Bl.drewN _ _)) ?_
            intro st' hst'
            rw [hstep] at hst'
            unfold nextB at hst'
            rw [hr] at hst'
            simp only [hlt, cond_false] at hst'
            subst hst'
            exact (agr_cons rfl (agr_cons rfl (agr_cons rfl (agr_cons rfl (agr_cons rfl (agr_cons rfl (agr_cons rfl (agr_nil))))))))
          · have hlt' : flt .f32 (fop .add x y) (encB (some (a, b, s))) = true := hlt
            (try simp only [RS, RF, cond_true, cond_false, List.nil_append, List.cons_append, List.toList_toArray, Option.isSome_some, Option.map_some, Option.map_none, Nat.reduceBEq, isShift, kEq, fEq, binInt, binFloat, shiftInt, binStr, forall_eq, e1, hlt'])
            rw [IntWalk.i64_in (((i + 1 + n : Nat) : Int) + 1) (by omega), show ((i + 1 + n : Nat) : Int) + 1 = ((i + 1 + n + 1 : Nat) : Int) by omega]
            refine fin _ _ (hb6.trans (Bl.drewN _ _)) ?_
            intro st' hst'
            rw [hstep] at hst'
            unfold nextB at hst'
            rw [hr] at hst'
            simp only [hlt, cond_true] at hst'
            subst hst'
            exact (agr_cons rfl (agr_cons rfl (agr_cons rfl (agr_cons rfl (agr_cons rfl (agr_cons rfl (agr_cons rfl (agr_nil))))))))
end Go.Proofs.Ytjgpnbchnenbeaa
