/- Texts: points that are read. -/
import Derived.Test.YtjgpnbchnenbeaaDoorR3
namespace Go.Proofs.YtjgpnbchnenbeaaDoor
set_option linter.unusedSimpArgs false
set_option linter.unusedVariables false
open Go
open Go.RowKit (Below)

theorem pcs_le (c : UInt8) : ∀ (l p : List UInt8), p ∈ pcs c l → p.length ≤ l.length
  | [], p, h => by simp [pcs] at h; subst h; exact Nat.le_refl _
  | b :: l, p, h => by
    have ih := pcs_le c l
    by_cases hb : b = c
    · subst hb
      rw [pcs_hit0] at h
      rcases List.mem_cons.1 h with rfl | h
      · simp
      · have := ih p h; simp; omega
    · rw [pcs_miss0 hb] at h
      cases hp : pcs c l with
      | nil => exact absurd hp (pcs_ne c l)
      | cons q qs =>
        rw [hp] at h ih
        rcases List.mem_cons.1 h with rfl | h
        · have := ih q (by simp); simp; omega
        · have := ih p (by simp [h]); simp; omega
theorem pcs_small {c : UInt8} {s : ByteArray} {ss : List ByteArray} {n : Nat} (h : ss.map bs = pcs c (bs s)) (hs : s.size ≤ n) : ss.length ≤ n + 1 ∧ ∀ x ∈ ss, x.size ≤ n := by
  have hlen := bs_len s
  constructor
  · have := pcs_len c (bs s)
    rw [← h, List.length_map] at this; omega
  · intro x hx
    have := pcs_le c (bs s) (bs x) (by rw [← h]; exact List.mem_map_of_mem hx)
    rw [bs_len] at this; omega
theorem nums_two {ls : List (List UInt8)} : (∀ a b, nums ls = some [a, b] → ∃ x y, ls = [x, y] ∧ rdV x = some a ∧ rdV y = some b) := by
  intro a b h
  unfold nums at h
  have hn : ∀ (l : List UInt8) (ls : List (List UInt8)) (xs : List Nat), (l :: ls).mapM rdV = some xs → ∃ x xs', xs = x :: xs' ∧ rdV l = some x ∧ ls.mapM rdV = some xs' := by
    intro l ls xs h
    rw [List.mapM_cons] at h
    cases h1 : rdV l with
    | none => rw [h1] at h; cases h
    | some x =>
      cases h2 : ls.mapM rdV with
      | none => rw [h1, h2] at h; cases h
      | some xs' =>
        rw [h1, h2] at h
        exact ⟨x, xs', (Option.some.inj h).symm, rfl, rfl⟩
  match ls, h with
  | [], h => cases h
  | [x], h =>
    obtain ⟨u, us, he, _, h2⟩ := hn _ _ _ h
    cases h2
    cases he
  | [x, y], h =>
    obtain ⟨u, us, he, h1, h2⟩ := hn _ _ _ h
    obtain ⟨v, vs, he2, h3, h4⟩ := hn _ _ _ h2
    cases he
    cases he2
    exact ⟨x, y, rfl, h1, h3⟩
  | x :: y :: z :: ls, h =>
    obtain ⟨u, us, he, h1, h2⟩ := hn _ _ _ h
    obtain ⟨v, vs, he2, h3, h4⟩ := hn _ _ _ h2
    obtain ⟨t, ts, he3, _, _⟩ := hn _ _ _ h4
    subst he3
    subst he2
    cases he
set_option maxRecDepth 100000 in
theorem ReadPoint_ct (w : World) (s : ByteArray) (m : Int) (hs : s.size ≤ 1048576) (hm : w.cell? ⟨1, 0, none⟩ = some (.int .i64 m)) : Ct Tryd.prog 11 #[str s] w (Is (ptV (bs s)) w) := by
  (refine fn_of_W Tryd.func11 rfl (by kernel_rfl) (by kernel_rfl) (Nat.le_of_ble_eq_true (by kernel_rfl)) ?_; (try simp only [RS, RF, cond_true, cond_false, List.nil_append, List.cons_append, List.toList_toArray, Option.isSome_some, Option.map_some, Option.map_none, Nat.reduceBEq, isShift, kEq, fEq, binInt, binFloat, shiftInt, binStr, Tryd.f11]))
  (refine (Split_ct w s 32 m hs hm).mono ?_; rintro v w1 ⟨ss, hss, hstr, hb1⟩)
  obtain ⟨hl1, hl2⟩ := pcs_small hss hs
  (try simp only [RS, RF, cond_true, cond_false, List.nil_append, List.cons_append, List.toList_toArray, Option.isSome_some, Option.map_some, Option.map_none, Nat.reduceBEq, isShift, kEq, fEq, binInt, binFloat, shiftInt, binStr])
  (refine (numbersOf_ct w1 v ss hstr hl1 hl2).mono ?_; rintro v2 w2 ⟨hb2, hR⟩)
  rw [hss] at hR
  rcases hR with ⟨v0, xs, rfl, hn, hxl, a, cap, rfl, hx⟩ | ⟨rfl, hn⟩
  · (try simp only [RS, RF, cond_true, cond_false, List.nil_append, List.cons_append, List.toList_toArray, Option.isSome_some, Option.map_some, Option.map_none, Nat.reduceBEq, isShift, kEq, fEq, binInt, binFloat, shiftInt, binStr])
    intro b1 hb1
    cases b1
    · have hx2 : xs.length = 2 := by have := hb1.symm; simp at this; omega
      match xs, hx2 with
      | [a, b], _ =>
      obtain ⟨g, rfl, hc⟩ := hx (Nat.succ_pos _)
      obtain ⟨x, y, hxy, h1, h2⟩ := nums_two _ _ hn
      have c0 := hc 0 a rfl
      have c1 := hc 1 b rfl
      (try simp only [RS, RF, cond_true, cond_false, List.nil_append, List.cons_append, List.toList_toArray, Option.isSome_some, Option.map_some, Option.map_none, Nat.reduceBEq, isShift, kEq, fEq, binInt, binFloat, shiftInt, binStr])
      refine draw_rule 6 (fun _ _ _ => False) mixed (by kernel_rfl) ?_
      (try simp only [RS, RF, cond_true, cond_false, List.nil_append, List.cons_append, List.toList_toArray, Option.isSome_some, Option.map_some, Option.map_none, Nat.reduceBEq, isShift, kEq, fEq, binInt, binFloat, shiftInt, binStr])
      refine ⟨by simp, _, ldc (by kernel_rfl) c0, by simp, _, ldc (by kernel_rfl) c1, ?_⟩
      (try simp only [RS, RF, cond_true, cond_false, List.nil_append, List.cons_append, List.toList_toArray, Option.isSome_some, Option.map_some, Option.map_none, Nat.reduceBEq, isShift, kEq, fEq, binInt, binFloat, shiftInt, binStr])
      intro w3 hw3
      (try simp only [RS, RF, cond_true, cond_false, List.nil_append, List.cons_append, List.toList_toArray, Option.isSome_some, Option.map_some, Option.map_none, Nat.reduceBEq, isShift, kEq, fEq, binInt, binFloat, shiftInt, binStr])
      refine ⟨?_, (Bl.trans ‹_› hb2).trans hw3⟩
      unfold ptV
      rw [hxy]
      simp only [h1, h2]
    · have hx2 : xs.length ≠ 2 := by intro e; rw [e] at hb1; simp at hb1
      (try simp only [RS, RF, cond_true, cond_false, List.nil_append, List.cons_append, List.toList_toArray, Option.isSome_some, Option.map_some, Option.map_none, Nat.reduceBEq, isShift, kEq, fEq, binInt, binFloat, shiftInt, binStr])
      refine ⟨?_, Bl.trans ‹_› hb2⟩
      unfold ptV
      split
      · rename_i x y hp
        rw [hp] at hxl
        simp at hxl; omega
      · rfl
  · (try simp only [RS, RF, cond_true, cond_false, List.nil_append, List.cons_append, List.toList_toArray, Option.isSome_some, Option.map_some, Option.map_none, Nat.reduceBEq, isShift, kEq, fEq, binInt, binFloat, shiftInt, binStr])
    refine ⟨?_, Bl.trans ‹_› hb2⟩
    unfold ptV
    split
    · rename_i x y hp
      rw [hp] at hn
      unfold nums at hn
      rw [List.mapM_cons, List.mapM_cons, List.mapM_nil] at hn
      cases h1 : rdV x with
      | none => rfl
      | some a => cases h2 : rdV y with
        | none => rfl
        | some b => rw [h1, h2] at hn; cases hn
    · rfl
set_option maxRecDepth 100000 in
theorem SReadPoint_ct (w : World) (s : ByteArray) (hs : s.size ≤ 1048576) : Ct Tryd.prog 10 #[str s] w (Is (ptV (bs s)) w) := by
  (refine fn_of_W Tryd.func10 rfl (by kernel_rfl) (by kernel_rfl) (Nat.le_of_ble_eq_true (by kernel_rfl)) ?_; (try simp only [RS, RF, cond_true, cond_false, List.nil_append, List.cons_append, List.toList_toArray, Option.isSome_some, Option.map_some, Option.map_none, Nat.reduceBEq, isShift, kEq, fEq, binInt, binFloat, shiftInt, binStr, Tryd.f10]))
  (refine (l01Split_ct w s 32 hs).mono ?_; rintro v w1 ⟨ss, hss, ⟨g, cap, rfl, hc⟩, hb1⟩)
  obtain ⟨hl1, hl2⟩ := pcs_small hss hs
  (try simp only [RS, RF, cond_true, cond_false, List.nil_append, List.cons_append, List.toList_toArray, Option.isSome_some, Option.map_some, Option.map_none, Nat.reduceBEq, isShift, kEq, fEq, binInt, binFloat, shiftInt, binStr])
  intro b1 h1
  cases b1
  · have hx2 : ss.length = 2 := by have := h1.symm; simp at this; omega
    match ss, hx2 with
    | [x, y], _ =>
    have c0 := hc 0 x rfl
    have c1 := hc 1 y rfl
    (try simp only [RS, RF, cond_true, cond_false, List.nil_append, List.cons_append, List.toList_toArray, Option.isSome_some, Option.map_some, Option.map_none, Nat.reduceBEq, isShift, kEq, fEq, binInt, binFloat, shiftInt, binStr])
    refine ⟨by simp, _, ld1 (by kernel_rfl) c0, ?_⟩
    (try simp only [RS, RF, cond_true, cond_false, List.nil_append, List.cons_append, List.toList_toArray, Option.isSome_some, Option.map_some, Option.map_none, Nat.reduceBEq, isShift, kEq, fEq, binInt, binFloat, shiftInt, binStr])
    (refine (l01Read_ct w1 x (hl2 x (by simp))).mono ?_; rintro _ w2 ⟨a, oa, rfl, hw2, ha⟩)
    (try simp only [RS, RF, cond_true, cond_false, List.nil_append, List.cons_append, List.toList_toArray, Option.isSome_some, Option.map_some, Option.map_none, Nat.reduceBEq, isShift, kEq, fEq, binInt, binFloat, shiftInt, binStr])
    refine ⟨by simp, _, ld1 (by kernel_rfl) (hw2.cell c1), ?_⟩
    (try simp only [RS, RF, cond_true, cond_false, List.nil_append, List.cons_append, List.toList_toArray, Option.isSome_some, Option.map_some, Option.map_none, Nat.reduceBEq, isShift, kEq, fEq, binInt, binFloat, shiftInt, binStr])
    (refine (l01Read_ct w2 y (hl2 y (by simp))).mono ?_; rintro _ w3 ⟨b, ob, rfl, hw3, hb⟩)
    have hw := (hb1.trans hw2).trans hw3
    have hp : ptV (bs s) = match rdV (bs x), rdV (bs y) with
      | some a, some b => .tuple #[cx a b, .int .i64 0]
      | _, _ => .tuple #[cx 0 0, .int .i64 5] := by
      unfold ptV
      rw [← hss]; rfl
    rw [hp]
    rcases ha with ⟨rfl, ha⟩ | ⟨rfl, ha⟩
    · rcases hb with ⟨rfl, hb⟩ | ⟨rfl, hb⟩
      · (try simp only [RS, RF, cond_true, cond_false, List.nil_append, List.cons_append, List.toList_toArray, Option.isSome_some, Option.map_some, Option.map_none, Nat.reduceBEq, isShift, kEq, fEq, binInt, binFloat, shiftInt, binStr])
        rw [ha, hb]
        exact ⟨rfl, hw⟩
      · (try simp only [RS, RF, cond_true, cond_false, List.nil_append, List.cons_append, List.toList_toArray, Option.isSome_some, Option.map_some, Option.map_none, Nat.reduceBEq, isShift, kEq, fEq, binInt, binFloat, shiftInt, binStr])
        rw [ha, hb]
        exact ⟨rfl, hw⟩
    · (try simp only [RS, RF, cond_true, cond_false, List.nil_append, List.cons_append, List.toList_toArray, Option.isSome_some, Option.map_some, Option.map_none, Nat.reduceBEq, isShift, kEq, fEq, binInt, binFloat, shiftInt, binStr])
      rw [ha]
      exact ⟨rfl, hw⟩
  · have hx2 : ss.length ≠ 2 := by intro e; rw [e] at h1; simp at h1
    (try simp only [RS, RF, cond_true, cond_false, List.nil_append, List.cons_append, List.toList_toArray, Option.isSome_some, Option.map_some, Option.map_none, Nat.reduceBEq, isShift, kEq, fEq, binInt, binFloat, shiftInt, binStr])
    refine ⟨?_, hb1⟩
    unfold ptV
    rw [← hss]
    split
    · rename_i x y hp
      have := congrArg List.length hp
      simp at this; omega
    · rfl
end Go.Proofs.YtjgpnbchnenbeaaDoor
