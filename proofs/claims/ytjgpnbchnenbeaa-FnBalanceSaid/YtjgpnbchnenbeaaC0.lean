/- Contracts of the source of draws. -/
import Derived.Test.YtjgpnbchnenbeaaT
namespace Go.Proofs.Ytjgpnbchnenbeaa
set_option linter.unusedSimpArgs false
set_option linter.unusedVariables false
open Go
open Go.RowKit (Below)

/-- block b holds a source that has handed out at most M numbers; its bytes lie in an older block -/
def Src (w : World) (b : Nat) (M : Nat) : Prop :=
  ∃ (a : Option Addr) (len cap : Nat) (p q : Int), w.heap[b]? = some (.cells #[.slice a len cap, .int .i64 p, .int .u64 q] 163 (0, 0)) ∧ 0 ≤ p ∧ p ≤ M ∧ M ≤ 1000000 ∧ len ≤ 1000000 ∧
    ∀ i, i < len → ∃ bb o n, a = some ⟨bb, o, none⟩ ∧ bb < b ∧ w.cell? ⟨bb, o + i, none⟩ = some (.int .u8 n) ∧ 0 ≤ n ∧ n ≤ 255
theorem Src.keep {w w' : World} {b M : Nat} (h : Src w b M) (hk : ∀ k, k ≤ b → w'.heap[k]? = w.heap[k]?) : Src w' b M := by
  obtain ⟨a, len, cap, p, q, hb, h0, h1, h2, h3, hc⟩ := h
  refine ⟨a, len, cap, p, q, by rw [hk b (Nat.le_refl _)]; exact hb, h0, h1, h2, h3, fun i hi => ?_⟩
  obtain ⟨bb, o, n, ha, hlt, hcell, hn⟩ := hc i hi
  refine ⟨bb, o, n, ha, hlt, ?_, hn⟩
  have := hk bb (Nat.le_of_lt hlt)
  simp only [World.cell?, this] at hcell ⊢; exact hcell
theorem Src.lt {w : World} {b M : Nat} (h : Src w b M) : b < w.heap.size := by
  obtain ⟨a, len, cap, p, q, hb, _⟩ := h
  exact (Array.getElem?_eq_some_iff.1 hb).1
theorem Src.bl {w w' : World} {b M : Nat} (h : Src w b M) (hb : Bl w w') : Src w' b M :=
  h.keep fun k hk => Below.block hb k (Nat.lt_of_le_of_lt hk h.lt)

theorem and255 (x : Int) : 0 ≤ bitsV .and .u64 x 255 ∧ bitsV .and .u64 x 255 ≤ 255 := by
  have h : ((BitVec.ofInt 64 x) &&& (BitVec.ofInt 64 255)).toNat ≤ 255 := by
    rw [BitVec.toNat_and]
    exact Nat.le_trans Nat.and_le_right (by decide)
  have e : bitsV .and .u64 x 255 = IntKind.u64.wrap (((BitVec.ofInt 64 x) &&& (BitVec.ofInt 64 255)).toNat : Int) := rfl
  rw [e, IntWalk.u64_in _ (by omega)]
  omega

set_option maxRecDepth 100000 in
theorem next_ct (w : World) (b M : Nat) (hs : Src w b M) (hM : M + 1 ≤ 1000000) :
    Ct Try.prog 189 #[.pointer (some ⟨b, 0, none⟩)] w fun v w' => ∃ x : Int, v = .int .i64 x ∧ 0 ≤ x ∧ x ≤ 255 ∧ Src w' b (M + 1) ∧ Bx b w w' := by
  obtain ⟨a, len, cap, p, q, hb, h0, h1, h2, h3, hc⟩ := hs
  (refine fn_of_W Try.func189 rfl (by kernel_rfl) (by kernel_rfl) (Nat.le_of_ble_eq_true (by kernel_rfl)) ?_; (try simp only [RS, RF, cond_true, cond_false, List.nil_append, List.cons_append, List.toList_toArray, Option.isSome_some, Option.map_some, Option.map_none, Nat.reduceBEq, isShift, kEq, fEq, binInt, binFloat, shiftInt, binStr, Try.f189]))
  refine draw_rule 9 (fun _ _ _ => False) mixed (by kernel_rfl) ?_
  (try simp only [RS, RF, cond_true, cond_false, List.nil_append, List.cons_append, List.toList_toArray, Option.isSome_some, Option.map_some, Option.map_none, Nat.reduceBEq, isShift, kEq, fEq, binInt, binFloat, shiftInt, binStr, add_off, Nat.add_zero, Nat.zero_add])
  refine ⟨_, ldq (by kernel_rfl) hb rfl, _, ldq (by kernel_rfl) hb rfl, ?_⟩
  (try simp only [RS, RF, cond_true, cond_false, List.nil_append, List.cons_append, List.toList_toArray, Option.isSome_some, Option.map_some, Option.map_none, Nat.reduceBEq, isShift, kEq, fEq, binInt, binFloat, shiftInt, binStr, add_off, Nat.add_zero, Nat.zero_add])
  intro w1 hw1 b1 hb1
  refine cut_cond (σ := Int) (fun x => [(0, .pointer (some ⟨b, 0, none⟩)), (3, .int .i64 x)]) (fun x w' => 0 ≤ x ∧ x ≤ 255 ∧ Bl w w') ?_ ?_
  · cases b1
    · (try simp only [RS, RF, cond_true, cond_false, List.nil_append, List.cons_append, List.toList_toArray, Option.isSome_some, Option.map_some, Option.map_none, Nat.reduceBEq, isShift, kEq, fEq, binInt, binFloat, shiftInt, binStr])
      exact ⟨0, (agr_cons rfl (agr_cons rfl (agr_nil))), by omega, by omega, hw1⟩
    · (try simp only [RS, RF, cond_true, cond_false, List.nil_append, List.cons_append, List.toList_toArray, Option.isSome_some, Option.map_some, Option.map_none, Nat.reduceBEq, isShift, kEq, fEq, binInt, binFloat, shiftInt, binStr])
      have hlt : p < len := by simpa using hb1.symm
      obtain ⟨bb, o, n, rfl, hbb, hcell, hn0, hn1⟩ := hc p.toNat (by omega)
      refine draw_rule 8 (fun _ _ _ => False) mixed (by kernel_rfl) ?_
      (try simp only [RS, RF, cond_true, cond_false, List.nil_append, List.cons_append, List.toList_toArray, Option.isSome_some, Option.map_some, Option.map_none, Nat.reduceBEq, isShift, kEq, fEq, binInt, binFloat, shiftInt, binStr, add_off, Nat.add_zero, Nat.zero_add])
      refine ⟨_, ldq (by kernel_rfl) (hw1.block hb) rfl, _, ldq (by kernel_rfl) (hw1.block hb) rfl, ?_⟩
      (try simp only [RS, RF, cond_true, cond_false, List.nil_append, List.cons_append, List.toList_toArray, Option.isSome_some, Option.map_some, Option.map_none, Nat.reduceBEq, isShift, kEq, fEq, binInt, binFloat, shiftInt, binStr, add_off, Nat.add_zero, Nat.zero_add, Nat.mul_one])
      intro w2 hw2
      refine ⟨⟨h0, hlt⟩, _, ld1 (by kernel_rfl) ((hw1.trans hw2).cell hcell), ?_⟩
      (try simp only [RS, RF, cond_true, cond_false, List.nil_append, List.cons_append, List.toList_toArray, Option.isSome_some, Option.map_some, Option.map_none, Nat.reduceBEq, isShift, kEq, fEq, binInt, binFloat, shiftInt, binStr])
      rw [IntWalk.i64_in n (by omega)]
      exact ⟨n, (agr_cons rfl (agr_cons rfl (agr_nil))), hn0, hn1, hw1.trans hw2⟩
  · intro x e' w2 ⟨hx0, hx1, hw2⟩
    (try simp only [RS, RF, cond_true, cond_false, List.nil_append, List.cons_append, List.toList_toArray, Option.isSome_some, Option.map_some, Option.map_none, Nat.reduceBEq, isShift, kEq, fEq, binInt, binFloat, shiftInt, binStr, add_off, Nat.add_zero, Nat.zero_add])
    refine ⟨_, ldb (by kernel_rfl) (hw2.block hb) rfl, ?_⟩
    (try simp only [RS, RF, cond_true, cond_false, List.nil_append, List.cons_append, List.toList_toArray, Option.isSome_some, Option.map_some, Option.map_none, Nat.reduceBEq, isShift, kEq, fEq, binInt, binFloat, shiftInt, binStr, add_off, Nat.add_zero, Nat.zero_add])
    obtain ⟨w3, hr3, hb3, hx3, _⟩ := stp (P := Try.prog) 3 1 (.int .i64 (IntKind.i64.wrap (p + 1))) (by kernel_rfl) rfl (hw2.block hb) (by simp)
    rw [IntWalk.i64_in (p + 1) (by omega)] at hb3 hr3 ⊢
    refine ⟨_, hr3, ?_⟩
    (try simp only [RS, RF, cond_true, cond_false, List.nil_append, List.cons_append, List.toList_toArray, Option.isSome_some, Option.map_some, Option.map_none, Nat.reduceBEq, isShift, kEq, fEq, binInt, binFloat, shiftInt, binStr, add_off, Nat.add_zero, Nat.zero_add])
    refine ⟨_, ldb (by kernel_rfl) hb3 rfl, ?_⟩
    (try simp only [RS, RF, cond_true, cond_false, List.nil_append, List.cons_append, List.toList_toArray, Option.isSome_some, Option.map_some, Option.map_none, Nat.reduceBEq, isShift, kEq, fEq, binInt, binFloat, shiftInt, binStr, add_off, Nat.add_zero, Nat.zero_add])
    generalize hq1 : IntKind.u64.wrap (_ + 1442695040888963407) = q1
    obtain ⟨w4, hr4, hb4, hx4, _⟩ := stp (P := Try.prog) 161 2 (.int .u64 q1) (by kernel_rfl) rfl hb3 (by simp)
    refine ⟨_, hr4, ?_⟩
    have hx : Bx b w w4 := ((Bx.of_bl hw2).trans hx3).trans hx4
    have hsrc : ∀ w5, Bl w4 w5 → Src w5 b (M + 1) := by
      intro w5 h5
      refine ⟨a, len, cap, p + 1, q1, h5.block hb4, by omega, by omega, by omega, h3, fun i hi => ?_⟩
      obtain ⟨bb, o, n, ha, hlt, hcell, hn⟩ := hc i hi
      exact ⟨bb, o, n, ha, hlt, h5.cell (hx.cell hcell (by show bb ≠ b; omega)), hn⟩
    refine draw_rule 9 (fun _ _ _ => False) mixed (by kernel_rfl) ?_
    (try simp only [RS, RF, cond_true, cond_false, List.nil_append, List.cons_append, List.toList_toArray, Option.isSome_some, Option.map_some, Option.map_none, Nat.reduceBEq, isShift, kEq, fEq, binInt, binFloat, shiftInt, binStr, add_off, Nat.add_zero, Nat.zero_add])
    refine ⟨_, ldq (by kernel_rfl) hb4 rfl, _, ldq (by kernel_rfl) hb4 rfl, ?_⟩
    (try simp only [RS, RF, cond_true, cond_false, List.nil_append, List.cons_append, List.toList_toArray, Option.isSome_some, Option.map_some, Option.map_none, Nat.reduceBEq, isShift, kEq, fEq, binInt, binFloat, shiftInt, binStr, add_off, Nat.add_zero, Nat.zero_add])
    intro w5 hw5 b2 hb2
    cases b2
    · (try simp only [RS, RF, cond_true, cond_false, List.nil_append, List.cons_append, List.toList_toArray, Option.isSome_some, Option.map_some, Option.map_none, Nat.reduceBEq, isShift, kEq, fEq, binInt, binFloat, shiftInt, binStr, add_off, Nat.add_zero, Nat.zero_add])
      refine ⟨_, ldb (by kernel_rfl) (hw5.block hb4) rfl, ?_⟩
      (try simp only [RS, RF, cond_true, cond_false, List.nil_append, List.cons_append, List.toList_toArray, Option.isSome_some, Option.map_some, Option.map_none, Nat.reduceBEq, isShift, kEq, fEq, binInt, binFloat, shiftInt, binStr])
      refine ⟨by decide, ?_⟩
      obtain ⟨y, hy, hy0, hy1⟩ : ∃ y : Int, bitsV .and .u64 (q1.fdiv (2 ^ (min (40 : Int).toNat IntKind.u64.bits))) 255 = y ∧ 0 ≤ y ∧ y ≤ 255 := ⟨_, rfl, and255 _⟩
      rw [hy, IntWalk.i64_in y (by omega)]
      exact ⟨y, rfl, hy0, hy1, hsrc _ hw5, hx.trans (Bx.of_bl hw5)⟩
    · (try simp only [RS, RF, cond_true, cond_false, List.nil_append, List.cons_append, List.toList_toArray, Option.isSome_some, Option.map_some, Option.map_none, Nat.reduceBEq, isShift, kEq, fEq, binInt, binFloat, shiftInt, binStr])
      exact ⟨x, rfl, hx0, hx1, hsrc _ hw5, hx.trans (Bx.of_bl hw5)⟩

theorem Src.more {w : World} {b M M' : Nat} (h : Src w b M) (hm : M ≤ M') (hM : M' ≤ 1000000) : Src w b M' := by
  obtain ⟨a, len, cap, p, q, hb, h0, h1, h2, h3, hc⟩ := h
  exact ⟨a, len, cap, p, q, hb, h0, by omega, hM, h3, hc⟩

set_option maxRecDepth 100000 in
theorem pick_ct (w : World) (b M : Nat) (n : Int) (hs : Src w b M) (hM : M + 2 ≤ 1000000) (hn : n ≤ 1000000) :
    Ct Try.prog 124 #[.pointer (some ⟨b, 0, none⟩), .int .i64 n] w fun v w' => ∃ x : Int, v = .int .i64 x ∧ 0 ≤ x ∧ (1 ≤ n → x < n) ∧ Src w' b (M + 2) ∧ Bx b w w' := by
  (refine fn_of_W Try.func124 rfl (by kernel_rfl) (by kernel_rfl) (Nat.le_of_ble_eq_true (by kernel_rfl)) ?_; (try simp only [RS, RF, cond_true, cond_false, List.nil_append, List.cons_append, List.toList_toArray, Option.isSome_some, Option.map_some, Option.map_none, Nat.reduceBEq, isShift, kEq, fEq, binInt, binFloat, shiftInt, binStr, Try.f124]))
  intro b1 hb1
  cases b1
  · (try simp only [RS, RF, cond_true, cond_false, List.nil_append, List.cons_append, List.toList_toArray, Option.isSome_some, Option.map_some, Option.map_none, Nat.reduceBEq, isShift, kEq, fEq, binInt, binFloat, shiftInt, binStr])
    have hn1 : 1 < n := by have := hb1; simp at this; omega
    refine (next_ct w b M hs (by omega)).mono ?_
    rintro _ w1 ⟨x, rfl, hx0, hx1, hs1, hxx1⟩
    (try simp only [RS, RF, cond_true, cond_false, List.nil_append, List.cons_append, List.toList_toArray, Option.isSome_some, Option.map_some, Option.map_none, Nat.reduceBEq, isShift, kEq, fEq, binInt, binFloat, shiftInt, binStr])
    intro b2 hb2
    have fin : ∀ (y : Int) (w2 : World), 0 ≤ y → Src w2 b (M + 2) → Bx b w w2 → n ≠ 0 ∧ ∃ x : Int, Value.int .i64 (y.tmod n) = Value.int .i64 x ∧ 0 ≤ x ∧ (1 ≤ n → x < n) ∧ Src w2 b (M + 2) ∧ Bx b w w2 := by
      intro y w2 hy hs2 hx2
      refine ⟨by omega, _, rfl, ?_, fun _ => ?_, hs2, hx2⟩
      · rw [Int.tmod_eq_emod_of_nonneg hy]; exact Int.emod_nonneg _ (by omega)
      · rw [Int.tmod_eq_emod_of_nonneg hy]; exact Int.emod_lt_of_pos _ (by omega)
    cases b2
    · (try simp only [RS, RF, cond_true, cond_false, List.nil_append, List.cons_append, List.toList_toArray, Option.isSome_some, Option.map_some, Option.map_none, Nat.reduceBEq, isShift, kEq, fEq, binInt, binFloat, shiftInt, binStr])
      exact fin x w1 hx0 (hs1.more (by omega) (by omega)) hxx1
    · (try simp only [RS, RF, cond_true, cond_false, List.nil_append, List.cons_append, List.toList_toArray, Option.isSome_some, Option.map_some, Option.map_none, Nat.reduceBEq, isShift, kEq, fEq, binInt, binFloat, shiftInt, binStr])
      refine (next_ct w1 b (M + 1) hs1 (by omega)).mono ?_
      rintro _ w2 ⟨y, rfl, hy0, hy1, hs2, hxx2⟩
      (try simp only [RS, RF, cond_true, cond_false, List.nil_append, List.cons_append, List.toList_toArray, Option.isSome_some, Option.map_some, Option.map_none, Nat.reduceBEq, isShift, kEq, fEq, binInt, binFloat, shiftInt, binStr])
      rw [IntWalk.i64_in (x * 256) (by omega), IntWalk.i64_in (x * 256 + y) (by omega)]
      exact fin _ w2 (by omega) hs2 (hxx1.trans hxx2)
  · (try simp only [RS, RF, cond_true, cond_false, List.nil_append, List.cons_append, List.toList_toArray, Option.isSome_some, Option.map_some, Option.map_none, Nat.reduceBEq, isShift, kEq, fEq, binInt, binFloat, shiftInt, binStr])
    have hn1 : n ≤ 1 := by have := hb1; simp at this; omega
    exact ⟨0, rfl, by omega, fun h => by omega, hs.more (by omega) (by omega), Bx.refl b w⟩

set_option maxRecDepth 100000 in
theorem among_ct (w : World) (b M g : Nat) (xs : List Int) (hs : Src w b M) (hM : M + 2 ≤ 1000000) (hg : w.heap[g]? = some (.cells (xs.map (Value.int .i64)).toArray 2 (0, 0))) (hgb : g ≠ b)
    (h1 : 1 ≤ xs.length) (h2 : xs.length ≤ 1000) :
    Ct Try.prog 169 #[.pointer (some ⟨b, 0, none⟩), .slice (some ⟨g, 0, none⟩) xs.length xs.length] w fun v w' => ∃ x ∈ xs, v = .int .i64 x ∧ Src w' b (M + 2) ∧ Bx b w w' := by
  (refine fn_of_W Try.func169 rfl (by kernel_rfl) (by kernel_rfl) (Nat.le_of_ble_eq_true (by kernel_rfl)) ?_; (try simp only [RS, RF, cond_true, cond_false, List.nil_append, List.cons_append, List.toList_toArray, Option.isSome_some, Option.map_some, Option.map_none, Nat.reduceBEq, isShift, kEq, fEq, binInt, binFloat, shiftInt, binStr, Try.f169]))
  (refine (pick_ct w b M xs.length hs hM (by omega)).mono ?_; rintro _ w1 ⟨x, rfl, hx0, hx1, hs1, hxx1⟩)
  (try simp only [RS, RF, cond_true, cond_false, List.nil_append, List.cons_append, List.toList_toArray, Option.isSome_some, Option.map_some, Option.map_none, Nat.reduceBEq, isShift, kEq, fEq, binInt, binFloat, shiftInt, binStr])
  have hlt : x < xs.length := hx1 (by omega)
  have hget : xs[x.toNat]? = some xs[x.toNat] := List.getElem?_eq_getElem (by omega)
  refine ⟨⟨hx0, hlt⟩, _, ldb (by kernel_rfl) (hxx1.blk hg hgb) (v := .int .i64 xs[x.toNat]) (by rw [List.toList_toArray, List.getElem?_map, hget]; rfl), ?_⟩
  (try simp only [RS, RF, cond_true, cond_false, List.nil_append, List.cons_append, List.toList_toArray, Option.isSome_some, Option.map_some, Option.map_none, Nat.reduceBEq, isShift, kEq, fEq, binInt, binFloat, shiftInt, binStr])
  exact ⟨_, List.getElem_mem _, rfl, hs1, hxx1⟩

set_option maxRecDepth 100000 in
theorem from_ct (w : World) (a : Option Addr) (len cap : Nat) (hl : len ≤ 1000000)
    (hc : ∀ i, i < len → ∃ bb o n, a = some ⟨bb, o, none⟩ ∧ w.cell? ⟨bb, o + i, none⟩ = some (.int .u8 n) ∧ 0 ≤ n ∧ n ≤ 255) :
    Ct Try.prog 87 #[.slice a len cap] w fun v w' => v = .pointer (some ⟨w.heap.size, 0, none⟩) ∧ Src w' w.heap.size 0 ∧ Bl w w' := by
  (refine fn_of_W Try.func87 rfl (by kernel_rfl) (by kernel_rfl) (Nat.le_of_ble_eq_true (by kernel_rfl)) ?_; (try simp only [RS, RF, cond_true, cond_false, List.nil_append, List.cons_append, List.toList_toArray, Option.isSome_some, Option.map_some, Option.map_none, Nat.reduceBEq, isShift, kEq, fEq, binInt, binFloat, shiftInt, binStr, Try.f87]))
  refine ⟨#[.slice a len cap, .int .i64 0, .int .u64 0], by kernel_rfl, ?_⟩
  (try simp only [RS, RF, cond_true, cond_false, List.nil_append, List.cons_append, List.toList_toArray, Option.isSome_some, Option.map_some, Option.map_none, Nat.reduceBEq, isShift, kEq, fEq, binInt, binFloat, shiftInt, binStr])
  refine ⟨trivial, ⟨a, len, cap, 0, 0, alloc_new w _, by omega, by omega, by omega, hl, fun i hi => ?_⟩, Bl.alloc _ _⟩
  obtain ⟨bb, o, n, ha, hcell, hn⟩ := hc i hi
  exact ⟨bb, o, n, ha, World.block_lt_of_cell? w _ hcell, (Bl.alloc _ _).cell hcell, hn⟩
end Go.Proofs.Ytjgpnbchnenbeaa
