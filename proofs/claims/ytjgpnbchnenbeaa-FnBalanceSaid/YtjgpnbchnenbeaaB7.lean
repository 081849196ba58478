/- Balance: two masses leave next to nothing. -/
import Derived.Test.YtjgpnbchnenbeaaB6
namespace Go.Proofs.Ytjgpnbchnenbeaa
set_option linter.unusedSimpArgs false
set_option linter.unusedVariables false
open Go
open Go.RowKit (Below)

theorem word_bd {x c : Nat} {M : Rat} (h1 : x < 4294967296) (h2 : x % 2147483648 ≤ c) (hc : c < 2139095040) (hM : qv c = M) : Bd x M := by
  have hf : FinW x := ⟨h1, by omega⟩
  have hq := qv_mono (by omega) h2
  have h0 := qv_nonneg (x % 2147483648)
  rw [hM] at hq
  refine ⟨hf, ?_, ?_⟩ <;> unfold val <;> split
  · have e : x % 2147483648 = x := by omega
    rw [e] at hq h0; grind
  · have e : x % 2147483648 = x - 2147483648 := by omega
    rw [e] at hq h0; grind
  · have e : x % 2147483648 = x := by omega
    rw [e] at hq h0; grind
  · have e : x % 2147483648 = x - 2147483648 := by omega
    rw [e] at hq h0; grind
theorem qv_1 : qv 1065353216 = 1 := by
  have := val_const (x := 1065353216) 1 0 (by omega) (by kernel_rfl)
  rw [show -((0 : Nat) : Int) = 0 from rfl, p2_zero] at this
  have e : val 1065353216 = qv 1065353216 := rfl
  rw [e] at this
  rw [this, Rat.mul_one]; rfl
theorem pl_bd {n : Nat} (h : n < 8) : Bd (plW n).1 1 ∧ Bd (plW n).2 1 := by
  obtain ⟨h1, h2, h3, h4⟩ := plW_ok n h
  exact ⟨word_bd h1 h2 (by omega) qv_1, word_bd h3 h4 (by omega) qv_1⟩
theorem det_bd {i k : Nat} (hi : i < 8) (hk : k < 8) : Bd (detW i k) 1 := by
  have h := det_of hi hk
  exact word_bd h.fin.lt h.one (by omega) qv_1
/-- the determinant is as it is told -/
theorem det_val {i k : Nat} (hi : i < 8) (hk : k < 8) : val (detW i k) = val (plW i).1 * val (plW k).2 - val (plW i).2 * val (plW k).1 := by
  have h := det_of hi hk
  obtain ⟨a1, a2⟩ := plW_val i hi
  obtain ⟨b1, b2⟩ := plW_val k hk
  have e := val_const (x := detW i k) ((plI i).1 * (plI k).2 - (plI i).2 * (plI k).1) 16 (by omega) h.val
  rw [e, a1, a2, b1, b2, Rat.intCast_sub, Rat.intCast_mul, Rat.intCast_mul]
  have e2 : p2 (-(16 : Nat)) = p2 (-8) * p2 (-8) := by rw [← p2_add]; congr 1
  rw [e2]; grind
theorem det_big {i k : Nat} (hi : i < 8) (hk : k < 8) (hl : lineB i k = false) : 45000 / 65536 ≤ aab (val (detW i k)) := by
  have h := det_of hi hk
  have e := val_const (x := detW i k) ((plI i).1 * (plI k).2 - (plI i).2 * (plI k).1) 16 (by omega) h.val
  have h16 := p2_inv 16
  have e3 : ((2 ^ 16 : Nat) : Rat) = 65536 := by decide
  rw [e3] at h16
  have e4 : p2 (-((16 : Nat) : Int)) = 1 / 65536 := by grind
  rw [e4] at e
  rcases h.big hl with hb | hb
  · have : ((45000 : Int) : Rat) ≤ (((plI i).1 * (plI k).2 - (plI i).2 * (plI k).1 : Int) : Rat) := Rat.intCast_le_intCast.2 hb
    have e5 : ((45000 : Int) : Rat) = 45000 := rfl
    rw [e5] at this
    have := aab_up (val (detW i k))
    generalize (((plI i).1 * (plI k).2 - (plI i).2 * (plI k).1 : Int) : Rat) = Z at *
    grind
  · have : (((plI i).1 * (plI k).2 - (plI i).2 * (plI k).1 : Int) : Rat) ≤ ((-45000 : Int) : Rat) := Rat.intCast_le_intCast.2 hb
    have e5 : ((-45000 : Int) : Rat) = -45000 := rfl
    rw [e5] at this
    have := aab_dn (val (detW i k))
    generalize (((plI i).1 * (plI k).2 - (plI i).2 * (plI k).1 : Int) : Rat) = Z at *
    grind
theorem num_near {a b x y : Nat} {M : Rat} (ha : Bd a 1960) (hb : Bd b 1960) (hx : Bd x 1) (hy : Bd y 1) (hM : aab (val a) + aab (val b) ≤ M) :
    (Okf .mul a x ∧ Okf .mul b y ∧ Okf .sub (fmul a x) (fmul b y)) ∧ Bd (fsub (fmul a x) (fmul b y)) 3925 ∧ aab (val a * val x - val b * val y) ≤ M ∧ Near (val (fsub (fmul a x) (fmul b y))) (val a * val x - val b * val y) (3 * uu * M + 4 * tn) := by
  have m1 := ha.mul hx (C := 1961) (by unfold tin; grind) (z99 (by grind))
  have m2 := hb.mul hy (C := 1961) (by unfold tin; grind) (z99 (by grind))
  have s := m1.2.1.sub m2.2.1 (C := 3925) (by unfold tin; grind) (z99 (by grind))
  have n := cross_near (rel_mul ha hx (z99 (by grind))) (rel_mul hb hy (z99 (by grind))) (rel_sub m1.2.1 m2.2.1 (z99 (by grind)))
  have k : aab (val a * val x) + aab (val b * val y) ≤ M := by
    rw [aab_mul, aab_mul]
    have h1 := Rat.mul_le_mul_of_nonneg_left (aab_le hx.lo hx.hi) (aab_nn (val a))
    have h2 := Rat.mul_le_mul_of_nonneg_left (aab_le hy.lo hy.hi) (aab_nn (val b))
    grind
  refine ⟨⟨m1.1, m2.1, s.1⟩, s.2.1, Rat.le_trans (aab_sub _ _) k, n.mono ?_⟩
  generalize aab (val a * val x) + aab (val b * val y) = K at *
  grind
theorem quo_det {n d : Nat} (hn : Bd n 3925) (hd : FinW d) (hb : 45000 / 65536 ≤ aab (val d)) : ∃ Q : Rat, Q * val d = val n ∧ aab Q ≤ 5720 ∧ Okf .quo n d ∧ Bd (fquo n d) 5721 ∧ Near (val (fquo n d)) Q (2 * (uu * aab Q + tn)) := by
  have h0 : val d ≠ 0 := fun e => by
    rw [e] at hb
    have : aab 0 = 0 := by unfold aab; rw [if_pos (by grind)]
    rw [this] at hb; grind
  have hQ : val n / val d * val d = val n := Rat.div_mul_cancel h0
  have hQb : aab (val n / val d) ≤ 5720 := by
    have h1 : aab (val n) ≤ 3925 := aab_le hn.lo hn.hi
    rw [← hQ, aab_mul] at h1
    have h2 := Rat.mul_le_mul_of_nonneg_left hb (aab_nn (val n / val d))
    grind
  have := aab_dn (val n / val d)
  have := aab_up (val n / val d)
  have q := quo_ok (M := 5720) (C := 5721) hn.fin hd h0 hQ (by grind) (by grind) (z99 (by grind)) (by unfold tin; grind)
  exact ⟨_, hQ, hQb, q.1, q.2.1, rel_quo hn.fin hd h0 hQ hQb (z99 (by grind))⟩
theorem mas_ok {px py : Nat} (hx : Bd px 1960) (hy : Bd py 1960) {i k : Nat} (hi : i < 8) (hk : k < 8) (hl : lineB i k = false) : MasOK px py i k := by
  have bi := pl_bd hi
  have bk := pl_bd hk
  have hd := det_bd hi hk
  have hb := det_big hi hk hl
  obtain ⟨a, a2, _⟩ := num_near hy hx bk.1 bk.2 (Rat.le_refl)
  obtain ⟨b, b2, _⟩ := num_near hx hy bi.2 bi.1 (Rat.le_refl)
  obtain ⟨Q1, _, _, q1, q2, _⟩ := quo_det a2 hd.fin hb
  obtain ⟨Q2, _, _, r1, r2, _⟩ := quo_det b2 hd.fin hb
  exact ⟨a.1, a.2.1, a.2.2, q1, b.1, b.2.1, b.2.2, r1, q2.fin, r2.fin⟩

/-- the two weights that balance -/
def twoWs (px py i k : Nat) : List WV := [((plW i).1, (plW i).2, oneW px py i k), ((plW k).1, (plW k).2, twoW px py i k)]
structure OverDone (px py i k : Nat) : Prop where
  pl : Pulls (px, py) (twoWs px py i k)
  sq : Dot (pullW (px, py) (twoWs px py i k)).1 (pullW (px, py) (twoWs px py i k)).2 (pullW (px, py) (twoWs px py i k)).1 (pullW (px, py) (twoWs px py i k)).2
  q1 : Okf .quo (S0w px py) 1148846080
  q2 : Okf .add (fquo (S0w px py) 1148846080) c2w
  le : fle .f32 (dotW (pullW (px, py) (twoWs px py i k)).1 (pullW (px, py) (twoWs px py i k)).2 (pullW (px, py) (twoWs px py i k)).1 (pullW (px, py) (twoWs px py i k)).2) (fadd (fquo (S0w px py) 1148846080) c2w) = true
theorem amb {P T A : Rat} (h : A ≤ P + 6 * uu * P + 10 * tn) (hT : T * (45000 / 65536) ≤ A) (hP : 0 ≤ P) : T ≤ 2 * (P + 8 * tn) := by grind
theorem lone {P E L : Rat} (hE : E = 6 * uu * P + 10 * tn) (h : L ≤ 3 * E) : L ≤ 18 * uu * P + 30 * tn := by grind
theorem lift {P M L : Rat} (hM : M = P + 8 * tn) (h : L ≤ 18 * uu * P + 30 * tn) : L ≤ 18 * uu * M + 30 * tn := by grind
theorem sq_sum {x y P M : Rat} (hP : P = aab x + aab y) (hM : M = P + 8 * tn) : M * M ≤ 4 * (x * x + y * y) + tn := by
  have h1 := sq2 P (8 * tn)
  have h2 := sq2 (aab x) (aab y)
  rw [aab_sq, aab_sq, ← hP] at h2
  rw [← hM] at h1
  generalize P * P = PP at *
  generalize M * M = MM at *
  grind
theorem over_done {px py : Nat} (hx : Bd px 1960) (hy : Bd py 1960) {i k : Nat} (hi : i < 8) (hk : k < 8) (hl : lineB i k = false) : OverDone px py i k := by
  have bi := pl_bd hi
  have bk := pl_bd hk
  have hd := det_bd hi hk
  have hb := det_big hi hk hl
  have hdv := det_val hi hk
  obtain ⟨_, bB, bN⟩ := before_ok hx hy
  obtain ⟨P, hPe⟩ : ∃ P : Rat, P = aab (val px) + aab (val py) := ⟨_, rfl⟩
  have hP0 : 0 ≤ P := by have := aab_nn (val px); have := aab_nn (val py); grind
  obtain ⟨_, a2, a3, a4⟩ := num_near hy hx bk.1 bk.2 (M := P) (by grind)
  obtain ⟨_, b2, b3, b4⟩ := num_near hx hy bi.2 bi.1 (M := P) (by grind)
  obtain ⟨Q1, qe, _, _, q2, q3⟩ := quo_det a2 hd.fin hb
  obtain ⟨Q2, re, _, _, r2, r3⟩ := quo_det b2 hd.fin hb
  have hd0 : 0 < aab (val (detW i k)) := by grind
  have hd2 : aab (val (detW i k)) ≤ 2 := Rat.le_trans (aab_le hd.lo hd.hi) (by grind)
  obtain ⟨mU, sU⟩ := mass_near hP0 a3 a4 hd0 hd2 qe q3
  obtain ⟨mV, sV⟩ := mass_near hP0 b3 b4 hd0 hd2 re r3
  have q2 : Bd (oneW px py i k) 5721 := q2
  have r2 : Bd (twoW px py i k) 5721 := r2
  have mU : Near (val (oneW px py i k) * val (detW i k)) _ _ := mU
  have mV : Near (val (twoW px py i k) * val (detW i k)) _ _ := mV
  have sU : aab (val (oneW px py i k)) * aab (val (detW i k)) ≤ _ := sU
  have sV : aab (val (twoW px py i k)) * aab (val (detW i k)) ≤ _ := sV
  have hE0 : 0 ≤ 6 * uu * P + 10 * tn := by grind
  -- sizes of the masses
  have cU := amb sU (Rat.mul_le_mul_of_nonneg_left hb (aab_nn _)) hP0
  have cV := amb sV (Rat.mul_le_mul_of_nonneg_left hb (aab_nn _)) hP0
  obtain ⟨M, hM⟩ : ∃ M : Rat, M = P + 8 * tn := ⟨_, rfl⟩
  have hM0 : 0 ≤ M := by grind
  -- steps of the pull
  have u1 := bi.1.mul q2 (C := 5722) (by unfold tin; grind) (z99 (by grind))
  have u2 := bi.2.mul q2 (C := 5722) (by unfold tin; grind) (z99 (by grind))
  have v1 := bk.1.mul r2 (C := 5722) (by unfold tin; grind) (z99 (by grind))
  have v2 := bk.2.mul r2 (C := 5722) (by unfold tin; grind) (z99 (by grind))
  have s1 := hx.add u1.2.1 (C := 7683) (by unfold tin; grind) (z99 (by grind))
  have s2 := hy.add u2.2.1 (C := 7683) (by unfold tin; grind) (z99 (by grind))
  have t1 := s1.2.1.add v1.2.1 (C := 13406) (by unfold tin; grind) (z99 (by grind))
  have t2 := s2.2.1.add v2.2.1 (C := 13406) (by unfold tin; grind) (z99 (by grind))
  obtain ⟨sqD, sqB, sqN⟩ := dot_bd t1.2.1 t2.2.1 t1.2.1 t2.2.1 (C := 179720900) (D := 359441900) (by unfold tin; grind) (by unfold tin; grind) (z99 (by grind)) (z99 (by grind))
  have lX := leave_near (X := val px) (a1 := val (plW i).1) (b1 := val (plW k).1) (d := val (detW i k)) hb (by rw [hdv]; grind) mU mV (aab_le bi.1.lo bi.1.hi) (aab_le bk.1.lo bk.1.hi) hE0
  have lY := leave_near (X := val py) (a1 := val (plW i).2) (b1 := val (plW k).2) (d := val (detW i k)) hb (by rw [hdv]; grind) mU mV (aab_le bi.2.lo bi.2.hi) (aab_le bk.2.lo bk.2.hi) hE0
  have lX := lift hM (lone rfl lX)
  have lY := lift hM (lone rfl lY)
  have small : ∀ {c m : Rat}, aab c ≤ 1 → aab m ≤ 2 * (P + 8 * tn) → aab (c * m) ≤ 2 * M := fun {c m} hc hm => by
    rw [aab_mul, hM]
    have := Rat.mul_le_mul_of_nonneg_right hc (aab_nn m)
    grind
  have aX : aab (val px) ≤ M := by have := aab_nn (val py); grind
  have aY : aab (val py) ≤ M := by have := aab_nn (val px); grind
  have pX := leave_part (rel_mul bi.1 q2 (z99 (by grind))) (rel_add hx u1.2.1 (z99 (by grind))) (rel_mul bk.1 r2 (z99 (by grind))) (rel_add s1.2.1 v1.2.1 (z99 (by grind))) aX (small (aab_le bi.1.lo bi.1.hi) cU) (small (aab_le bk.1.lo bk.1.hi) cV) hM0 lX
  have pY := leave_part (rel_mul bi.2 q2 (z99 (by grind))) (rel_add hy u2.2.1 (z99 (by grind))) (rel_mul bk.2 r2 (z99 (by grind))) (rel_add s2.2.1 v2.2.1 (z99 (by grind))) aY (small (aab_le bi.2.lo bi.2.hi) cU) (small (aab_le bk.2.lo bk.2.hi) cV) hM0 lY
  have hT : val (S0w px py) / 1000 * 1000 = val (S0w px py) := Rat.div_mul_cancel (by grind)
  have hTb : aab (val (S0w px py) / 1000) ≤ 7690 := by
    have := bB.lo; have := bB.hi
    exact aab_le (by grind) (by grind)
  have := aab_dn (val (S0w px py) / 1000)
  have := aab_up (val (S0w px py) / 1000)
  have k1 := quo_ok (x := S0w px py) (y := 1148846080) (M := 7690) (C := 7691) bB.fin c1000_val.1.fin (by rw [c1000_val.2]; grind) (by rw [c1000_val.2]; exact hT) (by grind) (by grind) (z99 (by grind)) (by unfold tin; grind)
  have k1N := rel_quo (x := S0w px py) (y := 1148846080) bB.fin c1000_val.1.fin (by rw [c1000_val.2]; grind) (by rw [c1000_val.2]; exact hT) hTb (z99 (by grind))
  have k2 := k1.2.1.add c2_val.1 (C := 7693) (by unfold tin; grind) (z99 (by grind))
  have k2N := rel_add k1.2.1 c2_val.1 (z99 (by grind))
  rw [c2_val.2] at k2N
  have nN : 0 ≤ val px * val px + val py * val py := by have := sq_nn (val px); have := sq_nn (val py); grind
  have e1 : aab (val (pullW (px, py) (twoWs px py i k)).1 * val (pullW (px, py) (twoWs px py i k)).1) = val (pullW (px, py) (twoWs px py i k)).1 * val (pullW (px, py) (twoWs px py i k)).1 := by unfold aab; rw [if_pos (sq_nn _)]
  have e2 : aab (val (pullW (px, py) (twoWs px py i k)).2 * val (pullW (px, py) (twoWs px py i k)).2) = val (pullW (px, py) (twoWs px py i k)).2 * val (pullW (px, py) (twoWs px py i k)).2 := by unfold aab; rw [if_pos (sq_nn _)]
  have sqN : Near (val (dotW (pullW (px, py) (twoWs px py i k)).1 (pullW (px, py) (twoWs px py i k)).2 (pullW (px, py) (twoWs px py i k)).1 (pullW (px, py) (twoWs px py i k)).2)) (val (pullW (px, py) (twoWs px py i k)).1 * val (pullW (px, py) (twoWs px py i k)).1 + val (pullW (px, py) (twoWs px py i k)).2 * val (pullW (px, py) (twoWs px py i k)).2) (3 * uu * (aab (val (pullW (px, py) (twoWs px py i k)).1 * val (pullW (px, py) (twoWs px py i k)).1) + aab (val (pullW (px, py) (twoWs px py i k)).2 * val (pullW (px, py) (twoWs px py i k)).2)) + 4 * tn) := sqN
  rw [e1, e2] at sqN
  have fin := over_le (sx := val (pullW (px, py) (twoWs px py i k)).1) (sy := val (pullW (px, py) (twoWs px py i k)).2) nN hM0 (sq_sum hPe hM) (Rat.le_refl) pX pY rfl sqN bN hT k1N k2N
  refine ⟨⟨u1.1, u2.1, s1.1, s2.1, v1.1, v2.1, t1.1, t2.1, trivial⟩, sqD, k1.1, k2.1, ?_⟩
  rw [fle_val (show FinW (dotW (pullW (px, py) (twoWs px py i k)).1 (pullW (px, py) (twoWs px py i k)).2 (pullW (px, py) (twoWs px py i k)).1 (pullW (px, py) (twoWs px py i k)).2) from sqB.fin) k2.2.1.fin]
  exact decide_eq_true fin
end Go.Proofs.Ytjgpnbchnenbeaa
