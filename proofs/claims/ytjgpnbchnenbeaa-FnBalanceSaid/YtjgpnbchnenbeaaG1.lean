/- Rounding errors of points: what a balance leaves. Plain arithmetic over the rationals. -/
import Derived.Test.YtjgpnbchnenbeaaG0
namespace Go.Proofs.Ytjgpnbchnenbeaa
set_option linter.unusedSimpArgs false
set_option linter.unusedVariables false

/-- what is left, before it is rounded -/
theorem gbound {X Y A B m J C N T P : Rat} (hN : N = X * X + Y * Y) (hT : T = A * A + B * B) (hC : C = X * A + Y * B) (hJ : J = m * T + C) (hP : 0 ≤ P) (hPN : P * P ≤ N * T) (hCP : aab C ≤ P) (hJP : aab J ≤ 12 * uu * P + 4000 * tn) (hT1 : 1 / 1100 ≤ T) :
    (X + A * m) * (X + A * m) + (Y + B * m) * (Y + B * m) ≤ N + N / 100000000000 + tn ∧ (A * m) * (A * m) + (B * m) * (B * m) ≤ 3 * N + tn := by
  have hTp : 0 < T := by grind
  have j2 : J * J ≤ 288 * uu * uu * (N * T) + 32000000 * tn * tn := by
    rw [← aab_sq]
    have h1 := sq_le (aab_nn J) hJP
    have h2 := sq2 (12 * uu * P) (4000 * tn)
    have e1 : 2 * (12 * uu * P * (12 * uu * P)) = 288 * uu * uu * (P * P) := by grind
    have e2 : 288 * uu * uu * (P * P) ≤ 288 * uu * uu * (N * T) := Rat.mul_le_mul_of_nonneg_left hPN (by grind)
    rw [e1] at h2
    grind
  have c2 : C * C ≤ N * T := by
    rw [← aab_sq]
    exact Rat.le_trans (sq_le (aab_nn C) hCP) hPN
  have nC := sq_nn C
  have nN : 0 ≤ N := by have := sq_nn X; have := sq_nn Y; grind
  have nNT := mul_nn nN (Rat.le_of_lt hTp)
  constructor
  · refine cancel_le hTp ?_
    have e : T * ((X + A * m) * (X + A * m) + (Y + B * m) * (Y + B * m)) = J * J + N * T - C * C := by
      rw [hJ, hC, hN, hT]; grind
    rw [e]
    have e2 : T * (N + N / 100000000000 + tn) = N * T + N * T / 100000000000 + tn * T := by grind
    rw [e2]
    generalize N * T = NT at *
    generalize J * J = JJ at *
    generalize C * C = CC at *
    grind
  · refine cancel_le hTp ?_
    have e : T * ((A * m) * (A * m) + (B * m) * (B * m)) = (J - C) * (J - C) := by
      rw [hJ, hT]; grind
    rw [e]
    have e2 : T * (3 * N + tn) = 3 * (N * T) + tn * T := by grind
    rw [e2]
    have h3 := sq2 J (-C)
    have e3 : (J + -C) * (J + -C) = (J - C) * (J - C) := by grind
    have e4 : -C * -C = C * C := by grind
    rw [e3, e4] at h3
    generalize N * T = NT at *
    generalize J * J = JJ at *
    generalize C * C = CC at *
    generalize (J - C) * (J - C) = D at *
    grind

/-- one rounded part of what is left -/
theorem part_bound {X a z r : Rat} (hz : Near z a (uu * aab a + tn)) (hr : Near r (X + z) (uu * aab (X + z) + tn)) :
    r * r ≤ 4097 / 4096 * ((X + a) * (X + a)) + 4097 * (3 * (uu * uu * ((X + a) * (X + a))) + 27 * (uu * uu * (a * a)) + 27 * (tn * tn)) := by
  have h1 : aab r ≤ aab (X + a) + (uu * aab (X + a) + 3 * uu * aab a + 3 * tn) := by
    have k1 := hr.size
    have k2 := hz.ab
    have k3 : aab (X + z) ≤ aab (X + a) + aab (z - a) := by
      have := aab_add (X + a) (z - a)
      have e : X + a + (z - a) = X + z := by grind
      rw [e] at this; exact this
    have n1 := aab_nn (X + a)
    have n2 := aab_nn a
    generalize aab (X + z) = p at *
    generalize aab (z - a) = q at *
    generalize aab (X + a) = s at *
    generalize aab a = t at *
    clear hz hr
    grind
  have h2 := sq_le (aab_nn r) h1
  rw [aab_sq] at h2
  have h3 := sq_part (aab (X + a)) (uu * aab (X + a) + 3 * uu * aab a + 3 * tn)
  have h4 := sq3 (uu * aab (X + a)) (3 * uu * aab a) (3 * tn)
  have e1 : 3 * (uu * aab (X + a) * (uu * aab (X + a))) = 3 * (uu * uu * (aab (X + a) * aab (X + a))) := by grind
  have e2 : 3 * (3 * uu * aab a * (3 * uu * aab a)) = 27 * (uu * uu * (aab a * aab a)) := by grind
  have e3 : 3 * (3 * tn * (3 * tn)) = 27 * (tn * tn) := by grind
  rw [e1, e2, e3, aab_sq, aab_sq] at h4
  rw [aab_sq] at h3
  generalize (X + a) * (X + a) = G at *
  generalize a * a = H at *
  generalize (uu * aab (X + a) + 3 * uu * aab a + 3 * tn) * (uu * aab (X + a) + 3 * uu * aab a + 3 * tn) = E at *
  generalize (aab (X + a) + (uu * aab (X + a) + 3 * uu * aab a + 3 * tn)) * (aab (X + a) + (uu * aab (X + a) + 3 * uu * aab a + 3 * tn)) = F at *
  clear h1 e1 e2 e3
  grind

/-- what is left is no more than told -/
theorem rest_le {N G H R Rf S0 t1 t2 : Rat} (nN : 0 ≤ N) (nG : 0 ≤ G) (nH : 0 ≤ H) (hG : G ≤ N + N / 100000000000 + tn) (hH : H ≤ 3 * N + tn)
    (hR : R ≤ 4097 / 4096 * G + 4097 * (3 * (uu * uu * G) + 27 * (uu * uu * H) + 54 * (tn * tn))) (nR : 0 ≤ R) (hRf : Near Rf R (3 * uu * R + 4 * tn)) (hS : Near S0 N (3 * uu * N + 4 * tn))
    (h1 : Near t1 (S0 * (8396997 / 8388608)) (uu * aab (S0 * (8396997 / 8388608)) + tn)) (h2 : Near t2 (t1 + 8589935 / 8589934592) (uu * aab (t1 + 8589935 / 8589934592) + tn)) : Rf ≤ t2 := by
  have hR2 : R ≤ N * (4099 / 4096) + tn * 10000 := by
    clear hRf hS h1 h2
    grind
  have a0 : aab (S0 * (8396997 / 8388608)) ≤ 2 * N + 1 := by
    obtain ⟨s1, s2⟩ := hS
    refine aab_le ?_ ?_ <;> grind
  have a1 : aab (t1 + 8589935 / 8589934592) ≤ 3 * N + 3 := by
    obtain ⟨s1, s2⟩ := hS
    obtain ⟨k1, k2⟩ := h1
    generalize aab (S0 * (8396997 / 8388608)) = p at *
    clear hRf h2 hR hG hH hR2
    refine aab_le ?_ ?_ <;> grind
  obtain ⟨s1, s2⟩ := hS
  obtain ⟨k1, k2⟩ := h1
  obtain ⟨l1, l2⟩ := h2
  obtain ⟨r1, r2⟩ := hRf
  generalize aab (S0 * (8396997 / 8388608)) = p at *
  generalize aab (t1 + 8589935 / 8589934592) = q at *
  clear hR hG hH
  grind

/-! ### With two places -/
/-- a mass, times the determinant -/
theorem mass_near {n num d U Q : Rat} {P : Rat} (hP : 0 ≤ P) (hn : aab num ≤ P) (h1 : Near n num (3 * uu * P + 4 * tn)) (hd1 : 0 < aab d) (hd2 : aab d ≤ 2) (hQ : Q * d = n) (hU : Near U Q (2 * (uu * aab Q + tn))) :
    Near (U * d) num (6 * uu * P + 10 * tn) ∧ aab U * aab d ≤ P + 6 * uu * P + 10 * tn := by
  have k1 := h1.size
  have e1 := h1.ab
  have eU := hU.ab
  have qd : aab Q * aab d = aab n := by rw [← hQ, aab_mul]
  have k3 : aab (U * d - num) ≤ 6 * uu * P + 10 * tn := by
    have e : U * d - num = (U - Q) * d + (n - num) := by rw [← hQ]; grind
    rw [e]
    have a1 := aab_add ((U - Q) * d) (n - num)
    rw [aab_mul] at a1
    have a2 := Rat.mul_le_mul_of_nonneg_right eU (Rat.le_of_lt hd1)
    have e2 : 2 * (uu * aab Q + tn) * aab d = 2 * uu * (aab Q * aab d) + 2 * tn * aab d := by grind
    rw [e2, qd] at a2
    generalize aab ((U - Q) * d + (n - num)) = Z at *
    generalize aab (U - Q) * aab d = W at *
    generalize aab (n - num) = V at *
    generalize aab n = na at *
    generalize aab num = nm at *
    clear e2 e eU qd hU hQ h1
    grind
  have k4 := aab_up (U * d - num)
  have k5 := aab_dn (U * d - num)
  refine ⟨⟨by grind, by grind⟩, ?_⟩
  rw [← aab_mul]
  have a3 := aab_add (U * d - num) num
  have e : U * d - num + num = U * d := by grind
  rw [e] at a3
  grind
/-- one part of what two masses leave, before it is rounded -/
theorem leave_near {X a1 b1 d U V n1 n2 E : Rat} (hd : 45000 / 65536 ≤ aab d) (hX : X * d + a1 * n1 + b1 * n2 = 0) (hU : Near (U * d) n1 E) (hV : Near (V * d) n2 E) (ha : aab a1 ≤ 1) (hb : aab b1 ≤ 1) (hE : 0 ≤ E) :
    aab (X + a1 * U + b1 * V) ≤ 3 * E := by
  have e : (X + a1 * U + b1 * V) * d = a1 * (U * d - n1) + b1 * (V * d - n2) := by grind
  have h1 : aab ((X + a1 * U + b1 * V) * d) ≤ 2 * E := by
    rw [e]
    have k1 := aab_add (a1 * (U * d - n1)) (b1 * (V * d - n2))
    rw [aab_mul, aab_mul] at k1
    have u1 := hU.ab
    have v1 := hV.ab
    have m1 := Rat.mul_le_mul_of_nonneg_right ha (aab_nn (U * d - n1))
    have m2 := Rat.mul_le_mul_of_nonneg_right hb (aab_nn (V * d - n2))
    grind
  rw [aab_mul] at h1
  have h2 := Rat.mul_le_mul_of_nonneg_left hd (aab_nn (X + a1 * U + b1 * V))
  grind
/-- one rounded part of what two masses leave -/
theorem leave_part {X u v z1 s1 z2 s2 M L : Rat} (h1 : Near z1 u (uu * aab u + tn)) (h2 : Near s1 (X + z1) (uu * aab (X + z1) + tn)) (h3 : Near z2 v (uu * aab v + tn)) (h4 : Near s2 (s1 + z2) (uu * aab (s1 + z2) + tn))
    (hX : aab X ≤ M) (hu : aab u ≤ 2 * M) (hv : aab v ≤ 2 * M) (hM : 0 ≤ M) (hL : aab (X + u + v) ≤ L) : aab s2 ≤ L + 20 * uu * M + 10 * tn := by
  have k1 := h1.size
  have k2 := h3.size
  have a1 := aab_add X z1
  have k3 := h2.size
  have a2 := aab_add s1 z2
  have f := aab_up (X + u + v)
  have g := aab_dn (X + u + v)
  obtain ⟨h1, h1'⟩ := h1
  obtain ⟨h2, h2'⟩ := h2
  obtain ⟨h3, h3'⟩ := h3
  obtain ⟨h4, h4'⟩ := h4
  generalize aab (X + u + v) = Z at *
  generalize aab (X + z1) = A at *
  generalize aab (s1 + z2) = B at *
  generalize aab u = ua at *
  generalize aab v = va at *
  generalize aab z1 = za at *
  generalize aab z2 = zb at *
  generalize aab s1 = sa at *
  generalize aab X = Xa at *
  refine aab_le ?_ ?_ <;> grind
/-- what is left over is next to nothing -/
theorem over_le {N M Lx sx sy R Rf S0 t1 : Rat} (nN : 0 ≤ N) (hM : 0 ≤ M) (hMN : M * M ≤ 4 * N + tn) (hL : Lx ≤ 18 * uu * M + 30 * tn) (hx : aab sx ≤ Lx + 20 * uu * M + 10 * tn) (hy : aab sy ≤ Lx + 20 * uu * M + 10 * tn) (hR : R = sx * sx + sy * sy)
    (hRf : Near Rf R (3 * uu * R + 4 * tn)) (hS : Near S0 N (3 * uu * N + 4 * tn)) (hQ : t1 * 1000 = S0) {T1 t3 : Rat} (h1 : Near T1 t1 (2 * (uu * aab t1 + tn))) (h2 : Near t3 (T1 + 8589935 / 8589934592) (uu * aab (T1 + 8589935 / 8589934592) + tn)) : Rf ≤ t3 := by
  have hb : ∀ s : Rat, aab s ≤ Lx + 20 * uu * M + 10 * tn → s * s ≤ 2888 * (uu * uu * (M * M)) + 3200 * tn * tn := by
    intro s hs
    have k : aab s ≤ 38 * uu * M + 40 * tn := by grind
    have h1 := sq_le (aab_nn s) k
    rw [aab_sq] at h1
    have h2 := sq2 (38 * uu * M) (40 * tn)
    have e1 : 2 * (38 * uu * M * (38 * uu * M)) = 2888 * (uu * uu * (M * M)) := by grind
    have e2 : 2 * (40 * tn * (40 * tn)) = 3200 * tn * tn := by grind
    rw [e1, e2] at h2
    exact Rat.le_trans h1 h2
  have k1 := hb sx hx
  have k2 := hb sy hy
  have hR2 : R ≤ N / 1000000 + tn := by
    rw [hR]
    have : uu * uu * (M * M) ≤ uu * uu * (4 * N + tn) := Rat.mul_le_mul_of_nonneg_left hMN (by grind)
    generalize M * M = MM at *
    generalize sx * sx = a at *
    generalize sy * sy = b at *
    clear hRf hS h1 h2 hb hR hx hy hL
    grind
  have nR : 0 ≤ R := by rw [hR]; have := sq_nn sx; have := sq_nn sy; grind
  obtain ⟨s1, s2⟩ := hS
  have a0 : aab t1 ≤ N / 500 + 1 := by
    clear hRf h1 h2 hb hR hx hy hL k1 k2
    refine aab_le ?_ ?_ <;> grind
  obtain ⟨k3, k4⟩ := h1
  have a1 : aab (T1 + 8589935 / 8589934592) ≤ N / 400 + 2 := by
    generalize aab t1 = p at *
    clear hRf h2 hb hR hx hy hL k1 k2
    refine aab_le ?_ ?_ <;> grind
  obtain ⟨l1, l2⟩ := h2
  obtain ⟨r1, r2⟩ := hRf
  generalize aab t1 = p at *
  generalize aab (T1 + 8589935 / 8589934592) = q at *
  clear hb hR hx hy hL k1 k2
  grind
end Go.Proofs.Ytjgpnbchnenbeaa
