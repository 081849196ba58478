/- Balance: the words of the walk obey the plain arithmetic. -/
import Derived.Test.YtjgpnbchnenbeaaB5
import Derived.Test.YtjgpnbchnenbeaaG1
namespace Go.Proofs.Ytjgpnbchnenbeaa
set_option linter.unusedSimpArgs false
set_option linter.unusedVariables false
open Go
open Go.RowKit (Below)

theorem ep_tn (M : Rat) : ep M ≤ uu * M + tn := by have := @ep_le M; unfold uu tn; grind
theorem fop_of {o : BinOp} {x y z : Nat} (hx : FinW x) (hy : FinW y) (hz : FV .f32 o (some x) (some y) = some z) : fop o x y = z := by
  unfold fop; rw [hx.cn, hy.cn, hz]; rfl
theorem rel_mul {x y : Nat} {A B : Rat} (hx : Bd x A) (hy : Bd y B) (hM : A * B ≤ p2 99) : Near (val (fmul x y)) (val x * val y) (uu * aab (val x * val y) + tn) := by
  obtain ⟨l1, l2⟩ := mul_bd hx.lo hx.hi hy.lo hy.hi
  obtain ⟨z, hz, hn⟩ := mul_err hx.fin hy.fin (aab_dn _) (aab_up _) (Rat.le_trans (aab_le l1 l2) (Rat.le_trans hM (p2_le (by omega))))
  have e : fmul x y = z := fop_of hx.fin hy.fin hz
  rw [e]
  exact Near.mono ⟨hn.2.1, hn.2.2⟩ (ep_tn _)
theorem rel_add {x y : Nat} {A B : Rat} (hx : Bd x A) (hy : Bd y B) (hM : A + B ≤ p2 99) : Near (val (fadd x y)) (val x + val y) (uu * aab (val x + val y) + tn) := by
  have l : aab (val x + val y) ≤ A + B := aab_le (by have := hx.lo; have := hy.lo; grind) (by have := hx.hi; have := hy.hi; grind)
  obtain ⟨z, hz, hn⟩ := add_err hx.fin hy.fin (aab_dn _) (aab_up _) (Rat.le_trans l (Rat.le_trans hM (p2_le (by omega))))
  have e : fadd x y = z := fop_of hx.fin hy.fin hz
  rw [e]
  exact Near.mono ⟨hn.2.1, hn.2.2⟩ (ep_tn _)
theorem rel_sub {x y : Nat} {A B : Rat} (hx : Bd x A) (hy : Bd y B) (hM : A + B ≤ p2 99) : Near (val (fsub x y)) (val x - val y) (uu * aab (val x - val y) + tn) := by
  have l : aab (val x - val y) ≤ A + B := aab_le (by have := hx.lo; have := hy.hi; grind) (by have := hx.hi; have := hy.lo; grind)
  obtain ⟨z, hz, hn⟩ := sub_err hx.fin hy.fin (aab_dn _) (aab_up _) (Rat.le_trans l (Rat.le_trans hM (p2_le (by omega))))
  have e : fsub x y = z := fop_of hx.fin hy.fin hz
  rw [e]
  exact Near.mono ⟨hn.2.1, hn.2.2⟩ (ep_tn _)
theorem rel_quo {x y : Nat} {Q M : Rat} (hx : FinW x) (hy : FinW y) (h0 : val y ≠ 0) (hQ : Q * val y = val x) (hM : aab Q ≤ M) (hM2 : M ≤ p2 99) : Near (val (fquo x y)) Q (2 * (uu * aab Q + tn)) := by
  obtain ⟨z, hz, hn⟩ := quo_err hx hy h0 hQ (aab_dn _) (aab_up _) (Rat.le_trans hM hM2)
  have e : fquo x y = z := fop_of hx hy hz
  rw [e]
  have := ep_tn (aab Q)
  exact Near.mono ⟨hn.2.1, hn.2.2⟩ (by grind)
/-- a sum that is not negative is not negative, rounded -/
theorem fadd_nn {x y : Nat} {A B : Rat} (hx : Bd x A) (hy : Bd y B) (h0 : 0 ≤ val x + val y) (hM : A + B ≤ p2 99) : 0 ≤ val (fadd x y) := by
  obtain ⟨s, m, p, hr, hp, hvx, _⟩ := read_val hx.fin
  obtain ⟨t, n, q, hs, hq, hvy, _⟩ := read_val hy.fin
  have hz : FV .f32 .add (some x) (some y) = ((Ieee.single.read x).sum (Ieee.single.read y)).map Ieee.single.write := fv_add x y
  rw [hr, hs] at hz
  unfold Ieee.Datum.sum at hz
  simp only [Option.map_some] at hz
  show 0 ≤ val (fop .add x y)
  rw [fop_of hx.fin hy.fin hz, write_num, near_rung]
  generalize hb : min p q = b at *
  have e1 := signed_val s m p b (by omega)
  have e2 := signed_val t n q b (by omega)
  rw [← hvx] at e1
  rw [← hvy] at e2
  generalize Ieee.signed s m (p - b).toNat = S at *
  generalize Ieee.signed t n (q - b).toNat = T at *
  have hsum : ((S + T : Int) : Rat) * p2 b = val x + val y := by rw [Rat.intCast_add, Rat.add_mul, e1, e2]
  have hST : 0 ≤ S + T := by
    rcases Int.lt_or_le (S + T) 0 with h | h
    · exfalso
      have h1 : ((S + T : Int) : Rat) < ((0 : Int) : Rat) := Rat.intCast_lt_intCast.2 h
      have h2 := Rat.mul_lt_mul_of_pos_right h1 (p2_pos b)
      have e0 : ((0 : Int) : Rat) * p2 b = 0 := by simp
      rw [hsum, e0] at h2
      grind
    · exact h
  have l : aab (val x + val y) ≤ A + B := aab_le (by have := hx.lo; have := hy.lo; grind) (by have := hx.hi; have := hy.hi; grind)
  have hnv : nv (S + T).natAbs b = val x + val y := by
    unfold nv
    have : (((S + T).natAbs : Nat) : Rat) = ((S + T : Int) : Rat) := by
      have : (((S + T).natAbs : Int) : Rat) = ((S + T : Int) : Rat) := by congr 1; omega
      exact this
    rw [this, hsum]
  have hfin := (rung_err (S + T).natAbs b (by rw [hnv]; exact Rat.le_trans (aab_up _) (Rat.le_trans l (Rat.le_trans hM (p2_le (by omega)))))).1
  rw [word_val hfin]
  have h0q := qv_nonneg (rung (S + T).natAbs b)
  by_cases hz0 : S + T = 0
  · rw [if_pos hz0, hz0]
    have : rung (Int.natAbs 0) b = 0 := by show rung 0 b = 0; unfold rung; rw [if_pos rfl]
    rw [this, qv_zero]
    split <;> grind
  · rw [if_neg hz0, decide_eq_false (by omega)]
    exact h0q

theorem z99 {M : Rat} (h : M ≤ 633825300114114700748351602688) : M ≤ p2 99 := by rw [p2_99]; exact h
theorem pt10 {x : Nat} (h : PtOK x) : Bd x 10 := h.bd
theorem dot_bd {x y u v : Nat} {A B C D : Rat} (hx : Bd x A) (hy : Bd y A) (hu : Bd u B) (hv : Bd v B) (h1 : A * B + (A * B / 16777216 + tin) ≤ C) (h2 : C + C + ((C + C) / 16777216 + tin) ≤ D) (h3 : A * B ≤ p2 99) (h4 : C + C ≤ p2 99) :
    Dot x y u v ∧ Bd (dotW x y u v) D ∧ Near (val (dotW x y u v)) (val x * val u + val y * val v) (3 * uu * (aab (val x * val u) + aab (val y * val v)) + 4 * tn) := by
  have a := hx.mul hu h1 h3
  have b := hy.mul hv h1 h3
  have s := a.2.1.add b.2.1 h2 h4
  exact ⟨⟨a.1, b.1, s.1⟩, s.2.1, dot_near (rel_mul hx hu h3) (rel_mul hy hv h3) (rel_add a.2.1 b.2.1 h4)⟩
abbrev c1w : Nat := 1065361605
abbrev c2w : Nat := 981668463
theorem c1_val : Bd 1065361605 2 ∧ val 1065361605 = 8396997 / 8388608 := by
  have h := val_const (x := 1065361605) 8396997 23 (by omega) (by kernel_rfl)
  have h2 := p2_inv 23
  have e : ((2 ^ 23 : Nat) : Rat) = 8388608 := by decide
  rw [e] at h2
  have e1 : ((8396997 : Int) : Rat) = 8396997 := rfl
  rw [e1] at h
  have hv : val 1065361605 = 8396997 / 8388608 := by rw [h]; grind
  exact ⟨⟨⟨by omega, by omega⟩, by rw [hv]; grind, by rw [hv]; grind⟩, hv⟩
theorem c2_val : Bd 981668463 1 ∧ val 981668463 = 8589935 / 8589934592 := by
  have h := val_const (x := 981668463) 8589935 33 (by omega) (by kernel_rfl)
  have h2 := p2_inv 33
  have e : ((2 ^ 33 : Nat) : Rat) = 8589934592 := by decide
  rw [e] at h2
  have e1 : ((8589935 : Int) : Rat) = 8589935 := rfl
  rw [e1] at h
  have hv : val 981668463 = 8589935 / 8589934592 := by rw [h]; grind
  exact ⟨⟨⟨by omega, by omega⟩, by rw [hv]; grind, by rw [hv]; grind⟩, hv⟩
theorem c1000_val : Bd 1148846080 1000 ∧ val 1148846080 = 1000 := by
  have h := val_const (x := 1148846080) 1000 0 (by omega) (by kernel_rfl)
  rw [show -((0 : Nat) : Int) = 0 from rfl, p2_zero, Rat.mul_one] at h
  have e1 : ((1000 : Int) : Rat) = 1000 := rfl
  rw [e1] at h
  exact ⟨⟨⟨by omega, by omega⟩, by rw [h]; grind, by rw [h]; grind⟩, h⟩
/-- the square of the pull before -/
abbrev S0w (px py : Nat) : Nat := dotW px py px py
theorem before_ok {px py : Nat} (hx : Bd px 1960) (hy : Bd py 1960) : Dot px py px py ∧ Bd (S0w px py) 7690000 ∧ Near (val (S0w px py)) (val px * val px + val py * val py) (3 * uu * (val px * val px + val py * val py) + 4 * tn) := by
  have h := dot_bd hx hy hx hy (C := 3842000) (D := 7690000) (by unfold tin; grind) (by unfold tin; grind) (z99 (by grind)) (z99 (by grind))
  have e1 : aab (val px * val px) = val px * val px := by unfold aab; rw [if_pos (sq_nn _)]
  have e2 : aab (val py * val py) = val py * val py := by unfold aab; rw [if_pos (sq_nn _)]
  rw [e1, e2] at h
  exact h
theorem at_ok {ax ay : Nat} (hx : PtOK ax) (hy : PtOK ay) : Dot ax ay ax ay ∧ Bd (dotW ax ay ax ay) 203 ∧ Near (val (dotW ax ay ax ay)) (val ax * val ax + val ay * val ay) (3 * uu * (val ax * val ax + val ay * val ay) + 4 * tn) := by
  have h := dot_bd hx.bd hy.bd hx.bd hy.bd (C := 101) (D := 203) (by unfold tin; grind) (by unfold tin; grind) (z99 (by grind)) (z99 (by grind))
  have e1 : aab (val ax * val ax) = val ax * val ax := by unfold aab; rw [if_pos (sq_nn _)]
  have e2 : aab (val ay * val ay) = val ay * val ay := by unfold aab; rw [if_pos (sq_nn _)]
  rw [e1, e2] at h
  exact h
theorem bd0 : Bd 0 0 := ⟨val_zero.1, by rw [val_zero.2]; grind, by rw [val_zero.2]; grind⟩

theorem zcase1 {X Y A B : Rat} : (X + A * 0) * (X + A * 0) + (Y + B * 0) * (Y + B * 0) = X * X + Y * Y := by grind
theorem zcase2 {A B : Rat} : A * 0 * (A * 0) + B * 0 * (B * 0) = 0 := by grind
theorem zcase3 {N : Rat} (h : 0 ≤ N) : N ≤ N + N / 100000000000 + tn := by grind
theorem zcase4 {N : Rat} (h : 0 ≤ N) : 0 ≤ 3 * N + tn := by grind
theorem low_T {S T : Rat} (hS : 1 / 1024 ≤ S) (hT : 0 ≤ T) (h : S ≤ T + (3 * uu * T + 4 * tn)) : 1 / 1100 ≤ T := by grind
theorem two_parts {a b g1 g2 h1 h2 : Rat} (p1 : a ≤ 4097 / 4096 * g1 + 4097 * (3 * (uu * uu * g1) + 27 * (uu * uu * h1) + 27 * (tn * tn))) (p2 : b ≤ 4097 / 4096 * g2 + 4097 * (3 * (uu * uu * g2) + 27 * (uu * uu * h2) + 27 * (tn * tn))) :
    a + b ≤ 4097 / 4096 * (g1 + g2) + 4097 * (3 * (uu * uu * (g1 + g2)) + 27 * (uu * uu * (h1 + h2)) + 54 * (tn * tn)) := by grind
structure BalDone (px py ax ay : Nat) : Prop where
  ok : BalOK px py ax ay
  sq : Dot (restX px py ax ay) (restY px py ax ay) (restX px py ax ay) (restY px py ax ay)
  m1 : Okf .mul (S0w px py) c1w
  m2 : Okf .add (fmul (S0w px py) c1w) c2w
  le : fgt .f32 (dotW (restX px py ax ay) (restY px py ax ay) (restX px py ax ay) (restY px py ax ay)) (fadd (fmul (S0w px py) c1w) c2w) = false
  mn : fge .f32 (mW px py ax ay) 0 = true
theorem bal_done {px py ax ay : Nat} (hx : Bd px 1960) (hy : Bd py 1960) (hax : PtOK ax) (hay : PtOK ay) (hl : flt .f32 (dotW ax ay ax ay) least = false) : BalDone px py ax ay := by
  obtain ⟨_, sB, sN⟩ := at_ok hax hay
  obtain ⟨_, bB, bN⟩ := before_ok hx hy
  have hS : 1 / 1024 ≤ val (dotW ax ay ax ay) := by
    rw [flt_val sB.fin val_least.1, val_least.2] at hl
    have : ¬ val (dotW ax ay ax ay) < 1 / 1024 := fun e => by rw [decide_eq_true e] at hl; cases hl
    grind
  have hS0 : val (dotW ax ay ax ay) ≠ 0 := fun e => by rw [e] at hS; grind
  obtain ⟨dD, dB, dN⟩ := dot_bd hx hy hax.bd hay.bd (C := 19602) (D := 39300) (by unfold tin; grind) (by unfold tin; grind) (z99 (by grind)) (z99 (by grind))
  -- the quotient
  obtain ⟨Q, hQ⟩ : ∃ Q : Rat, Q * val (dotW ax ay ax ay) = val (dotW px py ax ay) := ⟨val (dotW px py ax ay) / val (dotW ax ay ax ay), Rat.div_mul_cancel hS0⟩
  have hQb : aab Q ≤ 40243200 := by
    have h1 : aab (val (dotW px py ax ay)) ≤ 39300 := aab_le dB.lo dB.hi
    rw [← hQ, aab_mul] at h1
    have h2 := Rat.mul_le_mul_of_nonneg_left (Rat.le_trans hS (aab_up _)) (aab_nn Q)
    grind
  have q := quo_ok (M := 40243200) (C := 40243300) dB.fin sB.fin hS0 hQ (by have := aab_dn Q; grind) (by have := aab_up Q; grind) (z99 (by grind)) (by unfold tin; grind)
  have qN := rel_quo dB.fin sB.fin hS0 hQ hQb (z99 (by grind))
  have m0 : Okf .sub 0 (qW px py ax ay) ∧ Bd (fsub 0 (qW px py ax ay)) 40243400 ∧ _ := bd0.sub q.2.1 (C := 40243400) (by unfold tin; grind) (z99 (by grind))
  have mN := rel_sub bd0 q.2.1 (z99 (by grind))
  have e0 : val 0 - val (fquo (dotW px py ax ay) (dotW ax ay ax ay)) = -val (qW px py ax ay) := by
    rw [val_zero.2]; show 0 - val (qW px py ax ay) = _; grind
  rw [e0, aab_neg] at mN
  -- the mass
  have hm : Bd (mW px py ax ay) 40243400 ∧ 0 ≤ val (mW px py ax ay) ∧ (mW px py ax ay = fsub 0 (qW px py ax ay) ∨ mW px py ax ay = 0) := by
    unfold mW
    cases hg : fgt .f32 (fsub 0 (qW px py ax ay)) 0
    · exact ⟨bd0.mono (by grind), by rw [cond_false, val_zero.2]; grind, .inr rfl⟩
    · refine ⟨m0.2.1, ?_, .inl rfl⟩
      rw [fgt_val m0.2.1.fin val_zero.1, val_zero.2] at hg
      have := of_decide_eq_true hg
      rw [cond_true]
      exact Rat.le_of_lt this
  have z1 := hax.bd.mul hm.1 (C := 402434100) (by unfold tin; grind) (z99 (by grind))
  have z2 := hay.bd.mul hm.1 (C := 402434100) (by unfold tin; grind) (z99 (by grind))
  have r1 := hx.add z1.2.1 (C := 402436200) (by unfold tin; grind) (z99 (by grind))
  have r2 := hy.add z2.2.1 (C := 402436200) (by unfold tin; grind) (z99 (by grind))
  have z1N := rel_mul hax.bd hm.1 (z99 (by grind))
  have z2N := rel_mul hay.bd hm.1 (z99 (by grind))
  have r1N := rel_add hx z1.2.1 (z99 (by grind))
  have r2N := rel_add hy z2.2.1 (z99 (by grind))
  obtain ⟨sqD, sqB, sqN⟩ := dot_bd r1.2.1 r2.2.1 r1.2.1 r2.2.1 (C := 200000000000000000) (D := 1000000000000000000) (by unfold tin; grind) (by unfold tin; grind) (z99 (by grind)) (z99 (by grind))
  have t1 := bB.mul c1_val.1 (C := 15400000) (by unfold tin; grind) (z99 (by grind))
  have t1N := rel_mul bB c1_val.1 (z99 (by grind))
  have t2 := t1.2.1.add c2_val.1 (C := 15500000) (by unfold tin; grind) (z99 (by grind))
  have t2N := rel_add t1.2.1 c2_val.1 (z99 (by grind))
  rw [c1_val.2] at t1N
  rw [c2_val.2] at t2N
  -- the plain law
  have ea : aab (val px * val ax + val py * val ay) ≤ aab (val px * val ax) + aab (val py * val ay) := aab_add _ _
  have hT0 : 0 ≤ val ax * val ax + val ay * val ay := by have := sq_nn (val ax); have := sq_nn (val ay); grind
  have hT1 : val ax * val ax + val ay * val ay ≤ 201 := by
    have k1 : val ax * val ax ≤ 100 := by
      rw [← aab_sq]
      have := sq_le (aab_nn (val ax)) (aab_le hax.bd.lo hax.bd.hi)
      grind
    have k2 : val ay * val ay ≤ 100 := by
      rw [← aab_sq]
      have := sq_le (aab_nn (val ay)) (aab_le hay.bd.lo hay.bd.hi)
      grind
    grind
  have hTlow : 1 / 1100 ≤ val ax * val ax + val ay * val ay := by
    exact low_T hS hT0 sN.2
  have hPnn : 0 ≤ aab (val px * val ax) + aab (val py * val ay) := by have := aab_nn (val px * val ax); have := aab_nn (val py * val ay); grind
  have hGH : ∃ G H : Rat, 0 ≤ G ∧ 0 ≤ H ∧ G ≤ (val px * val px + val py * val py) + (val px * val px + val py * val py) / 100000000000 + tn ∧ H ≤ 3 * (val px * val px + val py * val py) + tn ∧
      G = (val px + val ax * val (mW px py ax ay)) * (val px + val ax * val (mW px py ax ay)) + (val py + val ay * val (mW px py ax ay)) * (val py + val ay * val (mW px py ax ay)) ∧
      H = (val ax * val (mW px py ax ay)) * (val ax * val (mW px py ax ay)) + (val ay * val (mW px py ax ay)) * (val ay * val (mW px py ax ay)) := by
    refine ⟨_, _, ?_, ?_, ?_, ?_, rfl, rfl⟩
    · have := sq_nn (val px + val ax * val (mW px py ax ay)); have := sq_nn (val py + val ay * val (mW px py ax ay)); grind
    · have := sq_nn (val ax * val (mW px py ax ay)); have := sq_nn (val ay * val (mW px py ax ay)); grind
    all_goals
      have nN : 0 ≤ val px * val px + val py * val py := by have := sq_nn (val px); have := sq_nn (val py); grind
      rcases hm.2.2 with e | e
      · rw [e]
        have hj := jbound (m := val (fsub 0 (qW px py ax ay))) hPnn ea dN sN hT1 hT0 hS hQ qN mN rfl
        have := gbound (m := val (fsub 0 (qW px py ax ay))) rfl rfl rfl rfl hPnn (cauchy _ _ _ _) ea hj hTlow
        first | exact this.1 | exact this.2
      · rw [e, val_zero.2]
        first
          | (rw [zcase1]; exact zcase3 nN)
          | (rw [zcase2]; exact zcase4 nN)
  obtain ⟨G, H, hG0, hH0, hG, hH, eG, eH⟩ := hGH
  have nN : 0 ≤ val px * val px + val py * val py := by have := sq_nn (val px); have := sq_nn (val py); grind
  have p1 := part_bound z1N r1N
  have p2' := part_bound z2N r2N
  have e1 : aab (val (restX px py ax ay) * val (restX px py ax ay)) = val (restX px py ax ay) * val (restX px py ax ay) := by unfold aab; rw [if_pos (sq_nn _)]
  have e2 : aab (val (restY px py ax ay) * val (restY px py ax ay)) = val (restY px py ax ay) * val (restY px py ax ay) := by unfold aab; rw [if_pos (sq_nn _)]
  have sqN' : Near (val (dotW (restX px py ax ay) (restY px py ax ay) (restX px py ax ay) (restY px py ax ay))) (val (restX px py ax ay) * val (restX px py ax ay) + val (restY px py ax ay) * val (restY px py ax ay)) (3 * uu * (val (restX px py ax ay) * val (restX px py ax ay) + val (restY px py ax ay) * val (restY px py ax ay)) + 4 * tn) := by
    have : Near (val (dotW (restX px py ax ay) (restY px py ax ay) (restX px py ax ay) (restY px py ax ay))) (val (restX px py ax ay) * val (restX px py ax ay) + val (restY px py ax ay) * val (restY px py ax ay)) (3 * uu * (aab (val (restX px py ax ay) * val (restX px py ax ay)) + aab (val (restY px py ax ay) * val (restY px py ax ay))) + 4 * tn) := sqN
    rw [e1, e2] at this
    exact this
  have hR : val (restX px py ax ay) * val (restX px py ax ay) + val (restY px py ax ay) * val (restY px py ax ay) ≤ 4097 / 4096 * G + 4097 * (3 * (uu * uu * G) + 27 * (uu * uu * H) + 54 * (tn * tn)) := by
    have p1 : val (restX px py ax ay) * val (restX px py ax ay) ≤ _ := p1
    have p2' : val (restY px py ax ay) * val (restY px py ax ay) ≤ _ := p2'
    rw [eG, eH]
    exact two_parts p1 p2'
  have nR : 0 ≤ val (restX px py ax ay) * val (restX px py ax ay) + val (restY px py ax ay) * val (restY px py ax ay) := by have := sq_nn (val (restX px py ax ay)); have := sq_nn (val (restY px py ax ay)); grind
  have hfin := rest_le nN hG0 hH0 hG hH hR nR sqN' bN t1N t2N
  refine ⟨⟨dD, q.1, m0.1, z1.1, z2.1, r1.1, r2.1⟩, sqD, t1.1, t2.1, ?_, ?_⟩
  · rw [fgt_val (show FinW (dotW (restX px py ax ay) (restY px py ax ay) (restX px py ax ay) (restY px py ax ay)) from sqB.fin) t2.2.1.fin]
    exact decide_eq_false (by grind)
  · rw [fge_val hm.1.fin val_zero.1, val_zero.2]
    exact decide_eq_true hm.2.1
end Go.Proofs.Ytjgpnbchnenbeaa
