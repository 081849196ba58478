/- Contracts of drawn trains: the train. -/
import Derived.Test.YtjgpnbchnenbeaaP0
namespace Go.Proofs.Ytjgpnbchnenbeaa
set_option linter.unusedSimpArgs false
set_option linter.unusedVariables false
open Go
open Go.RowKit (Below)

set_option maxRecDepth 100000 in
theorem train_ct (w : World) (b M : Nat) (hs : Src w b M) (hM : M + 100 ≤ 1000000) :
    Ct Try.prog 123 #[.pointer (some ⟨b, 0, none⟩), .int .i64 4] w fun v w' => ∃ ps : List PairV, w'.ownsRow w.heap.size 182 3 v ps.length (ps.flatMap pcells) ∧ 1 ≤ ps.length ∧ ps.length ≤ 4 ∧ (∀ p ∈ ps, PairOK p) ∧ Bx b w w' := by
  have hbB := hs.lt
  (refine fn_of_W Try.func123 rfl (by kernel_rfl) (by kernel_rfl) (Nat.le_of_ble_eq_true (by kernel_rfl)) ?_; (try simp only [RS, RF, cond_true, cond_false, List.nil_append, List.cons_append, List.toList_toArray, Option.isSome_some, Option.map_some, Option.map_none, Nat.reduceBEq, isShift, kEq, fEq, binInt, binFloat, shiftInt, binStr, Try.f123]))
  refine ⟨_, _, bs0 st_53 w, ?_⟩
  (try simp only [RS, RF, cond_true, cond_false, List.nil_append, List.cons_append, List.toList_toArray, Option.isSome_some, Option.map_some, Option.map_none, Nat.reduceBEq, isShift, kEq, fEq, binInt, binFloat, shiftInt, binStr])
  (refine (pick_ct _ b M 4 (hs.bl (Bl.alloc w _)) (by omega) (by omega)).mono ?_; rintro _ w1 ⟨x, rfl, hx0, hx1, hs1, hxx1⟩)
  (try simp only [RS, RF, cond_true, cond_false, List.nil_append, List.cons_append, List.toList_toArray, Option.isSome_some, Option.map_some, Option.map_none, Nat.reduceBEq, isShift, kEq, fEq, binInt, binFloat, shiftInt, binStr])
  have hx1' := hx1 (by omega)
  rw [IntWalk.i64_in (x + 1) (by omega)]
  refine loop_W (σ := Nat × List PairV × Value) (fun s => [(0, .pointer (some ⟨b, 0, none⟩)), (5, s.2.2), (6, .int .i64 s.1)])
    (fun s w' => s.1 + s.2.1.length = (x + 1).toNat ∧ w'.ownsRow w.heap.size 182 3 s.2.2 s.2.1.length (s.2.1.flatMap pcells) ∧ (∀ p ∈ s.2.1, PairOK p) ∧ Src w' b (M + 2 + 12 * s.2.1.length) ∧ Bx b w w' ∧ w.heap.size ≤ w'.heap.size)
    (fun s => s.1) ((x + 1).toNat, [], .slice (some ⟨w.heap.size, 0, none⟩) 0 0) ?_ ?_ ?_
  · refine agr_cons rfl (agr_cons rfl (agr_cons ?_ agr_nil))
    show Value.int .i64 (x + 1) = _
    congr 1; show x + 1 = (((x + 1).toNat : Nat) : Int); omega
  · refine ⟨by simp, own_bx (own0 w w.heap.size _ _ (Nat.le_refl _)) hxx1 hbB, by simp, by simpa using hs1, (Bx.of_bl (Bl.alloc w _)).trans hxx1, ?_⟩
    have := hxx1.size; rw [alloc_size] at this; omega
  · rintro ⟨k, ps, v⟩ w2 e2 ⟨hk, hown, hok, hs2, hx2, hsz2⟩
    simp only at hk hown hok hs2
    (try simp only [RS, RF, cond_true, cond_false, List.nil_append, List.cons_append, List.toList_toArray, Option.isSome_some, Option.map_some, Option.map_none, Nat.reduceBEq, isShift, kEq, fEq, binInt, binFloat, shiftInt, binStr])
    intro b1 hb1
    cases b1
    · (try simp only [RS, RF, cond_true, cond_false, List.nil_append, List.cons_append, List.toList_toArray, Option.isSome_some, Option.map_some, Option.map_none, Nat.reduceBEq, isShift, kEq, fEq, binInt, binFloat, shiftInt, binStr])
      have hk0 : k = 0 := by have := hb1; simp at this; omega
      exact ⟨ps, hown, by omega, by omega, hok, hx2⟩
    · (try simp only [RS, RF, cond_true, cond_false, List.nil_append, List.cons_append, List.toList_toArray, Option.isSome_some, Option.map_some, Option.map_none, Nat.reduceBEq, isShift, kEq, fEq, binInt, binFloat, shiftInt, binStr])
      have hk0 : 1 ≤ k := by have := hb1; simp at this; omega
      (refine (wheel_ct w2 b _ hs2 (by omega)).mono ?_; rintro _ w3 ⟨d1, hd1, rfl, hs3, hxx3⟩)
      (try simp only [RS, RF, cond_true, cond_false, List.nil_append, List.cons_append, List.toList_toArray, Option.isSome_some, Option.map_some, Option.map_none, Nat.reduceBEq, isShift, kEq, fEq, binInt, binFloat, shiftInt, binStr])
      (refine (wheel_ct w3 b _ hs3 (by omega)).mono ?_; rintro _ w4 ⟨d2, hd2, rfl, hs4, hxx4⟩)
      (try simp only [RS, RF, cond_true, cond_false, List.nil_append, List.cons_append, List.toList_toArray, Option.isSome_some, Option.map_some, Option.map_none, Nat.reduceBEq, isShift, kEq, fEq, binInt, binFloat, shiftInt, binStr])
      refine ⟨#[.int .i16 d1, .int .i16 d2, .float .f32 0], by kernel_rfl, ?_⟩
      (try simp only [RS, RF, cond_true, cond_false, List.nil_append, List.cons_append, List.toList_toArray, Option.isSome_some, Option.map_some, Option.map_none, Nat.reduceBEq, isShift, kEq, fEq, binInt, binFloat, shiftInt, binStr])
      obtain ⟨w5, hr5, hb5, hx5, hsz5⟩ := stn (P := Try.prog) 182 (b := w4.heap.size) 0 (l := [.int .i16 0, .int .i16 0, .float .f32 0]) (vs := [.int .i16 d1, .int .i16 d2, .float .f32 0]) (by kernel_rfl) (by simp) (by simp [Value.oneCell']) (alloc_new w4 _) (by simp)
      refine ⟨_, hr5, ?_⟩
      (try simp only [RS, RF, cond_true, cond_false, List.nil_append, List.cons_append, List.toList_toArray, Option.isSome_some, Option.map_some, Option.map_none, Nat.reduceBEq, isShift, kEq, fEq, binInt, binFloat, shiftInt, binStr])
      have hb45 : Bl w4 w5 := Bl.of_bx (Bl.alloc _ _) hx5 (Nat.le_refl _)
      (refine (tone_ct w5 b _ (hs4.bl hb45) (by omega)).mono ?_; rintro _ w6 ⟨r, rfl, hrp, hs6, hxx6⟩)
      (try simp only [RS, RF, cond_true, cond_false, List.nil_append, List.cons_append, List.toList_toArray, Option.isSome_some, Option.map_some, Option.map_none, Nat.reduceBEq, isShift, kEq, fEq, binInt, binFloat, shiftInt, binStr])
      have hbd : w4.heap.size ≠ b := by have := hs4.lt; omega
      have hb6 : w6.heap[w4.heap.size]? = some (.cells [.int .i16 d1, .int .i16 d2, .float .f32 0].toArray 182 (0, 0)) := hxx6.blk hb5 hbd
      obtain ⟨w7, hr7, hb7, hx7, hsz7⟩ := stp (P := Try.prog) 26 2 (.float .f32 r) (by kernel_rfl) rfl hb6 (by simp)
      refine ⟨_, hr7, ?_⟩
      (try simp only [RS, RF, cond_true, cond_false, List.nil_append, List.cons_append, List.toList_toArray, Option.isSome_some, Option.map_some, Option.map_none, Nat.reduceBEq, isShift, kEq, fEq, binInt, binFloat, shiftInt, binStr])
      have hxa : Bx b w2 w6 := (hxx3.trans hxx4).trans ((Bx.of_bl hb45).trans hxx6)
      have hw24 : w2.heap.size ≤ w4.heap.size := by have h1 := hxx3.size; have h2 := hxx4.size; omega
      have hw46 : w4.heap.size < w6.heap.size := (Array.getElem?_eq_some_iff.1 hb6).1
      have hs7 : Src w7 b (M + 2 + 12 * ps.length + 2 + 2 + 4) := hs6.keep fun g hg => by
        have := hs4.lt
        exact hx7.block g (by omega) (by omega)
      (refine (one_ct w7 b _ 2 hs7 (by omega) (by omega)).mono ?_; rintro _ w8 ⟨bb, rfl, hs8, hxx8⟩)
      have hb8 := hxx8.blk hb7 hbd
      have hxb : Bx b w w8 := ((hx2.trans hxa).new hx7 (by omega)).trans hxx8
      have hown8 : w8.ownsRow w.heap.size 182 3 v ps.length (ps.flatMap pcells) := by
        refine own_bx (own_keep (own_bx hown hxa hbB) fun g hg => ?_) hxx8 hbB
        have := (hown.lt g hg).2
        have := hxa.size
        exact hx7.block g (by omega) (by omega)
      refine cut_cond (σ := Nat) (fun r' => [(0, .pointer (some ⟨b, 0, none⟩)), (5, v), (6, .int .i64 k), (7, .pointer (some ⟨w4.heap.size, 0, none⟩))])
        (fun r' w9 => w9.heap[w4.heap.size]? = some (.cells [.int .i16 d1, .int .i16 d2, .float .f32 r'].toArray 182 (0, 0)) ∧ (fle .f32 0 r' = true ∧ fle .f32 r' 1065353216 = true ∧ r' ≤ 1065353216) ∧ Src w9 b (M + 2 + 12 * ps.length + 12) ∧ Bx b w w9 ∧
          w9.ownsRow w.heap.size 182 3 v ps.length (ps.flatMap pcells) ∧ w.heap.size ≤ w9.heap.size) ?_ ?_
      · cases bb
        · (try simp only [RS, RF, cond_true, cond_false, List.nil_append, List.cons_append, List.toList_toArray, Option.isSome_some, Option.map_some, Option.map_none, Nat.reduceBEq, isShift, kEq, fEq, binInt, binFloat, shiftInt, binStr])
          exact ⟨r, (agr_cons rfl (agr_cons rfl (agr_cons rfl (agr_cons rfl (agr_nil))))), hb8, hrp, hs8.more (by omega) (by omega), hxb, hown8, by have := hxb.size; omega⟩
        · (try simp only [RS, RF, cond_true, cond_false, List.nil_append, List.cons_append, List.toList_toArray, Option.isSome_some, Option.map_some, Option.map_none, Nat.reduceBEq, isShift, kEq, fEq, binInt, binFloat, shiftInt, binStr])
          (refine (pick_ct w8 b _ 5 hs8 (by omega) (by omega)).mono ?_; rintro _ w9 ⟨y, rfl, hy0, hy1, hs9, hxx9⟩)
          (try simp only [RS, RF, cond_true, cond_false, List.nil_append, List.cons_append, List.toList_toArray, Option.isSome_some, Option.map_some, Option.map_none, Nat.reduceBEq, isShift, kEq, fEq, binInt, binFloat, shiftInt, binStr])
          intro r2 n2 hr2
          have hy1' := hy1 (by omega)
          have hpt := part_le hy0 (N := 64) (by omega) (by omega) (by omega) r64 hr2
          (try simp only [RS, RF, cond_true, cond_false, List.nil_append, List.cons_append, List.toList_toArray, Option.isSome_some, Option.map_some, Option.map_none, Nat.reduceBEq, isShift, kEq, fEq, binInt, binFloat, shiftInt, binStr])
          have hb9 : (w9.drewN n2).heap[w4.heap.size]? = some (.cells [.int .i16 d1, .int .i16 d2, .float .f32 r].toArray 182 (0, 0)) := (Bl.drewN w9 n2).block (hxx9.blk hb8 hbd)
          obtain ⟨w10, hr10, hb10, hx10, hsz10⟩ := stp (P := Try.prog) 26 2 (.float .f32 r2) (by kernel_rfl) rfl hb9 (by simp)
          refine ⟨_, hr10, ?_⟩
          (try simp only [RS, RF, cond_true, cond_false, List.nil_append, List.cons_append, List.toList_toArray, Option.isSome_some, Option.map_some, Option.map_none, Nat.reduceBEq, isShift, kEq, fEq, binInt, binFloat, shiftInt, binStr])
          have hxc : Bx b w (w9.drewN n2) := (hxb.trans hxx9).trans (Bx.of_bl (Bl.drewN _ _))
          have hw49 : w4.heap.size < (w9.drewN n2).heap.size := (Array.getElem?_eq_some_iff.1 hb9).1
          refine ⟨r2, (agr_cons rfl (agr_cons rfl (agr_cons rfl (agr_cons rfl (agr_nil))))), hb10, hpt, ?_, hxc.new hx10 (by omega), ?_, ?_⟩
          · refine ((hs9.bl (Bl.drewN w9 n2)).more (by omega) (by omega)).keep fun g hg => ?_
            have := hs4.lt
            exact hx10.block g (by omega) (by omega)
          · refine own_keep (own_bx hown8 (hxx9.trans (Bx.of_bl (Bl.drewN w9 n2))) hbB) fun g hg => ?_
            have h1 := (hown.lt g hg).2
            exact hx10.block g (by omega) (by omega)
          · have := hxc.size; omega
      · rintro r' e9 w9 ⟨hb9, hrp9, hs9, hx9, hown9, hsz9⟩
        (try simp only [RS, RF, cond_true, cond_false, List.nil_append, List.cons_append, List.toList_toArray, Option.isSome_some, Option.map_some, Option.map_none, Nat.reduceBEq, isShift, kEq, fEq, binInt, binFloat, shiftInt, binStr])
        refine ⟨_, ldn (cs := [.int .i16 d1, .int .i16 d2, .float .f32 r']) (by kernel_rfl) (fun j u hu => by rw [add_off, cell_blk hb9, Nat.zero_add]; simpa using hu), ?_⟩
        (try simp only [RS, RF, cond_true, cond_false, List.nil_append, List.cons_append, List.toList_toArray, Option.isSome_some, Option.map_some, Option.map_none, Nat.reduceBEq, isShift, kEq, fEq, binInt, binFloat, shiftInt, binStr])
        (have hr__ := bs1 st_53 w9 (.agg [.int .i16 d1, .int .i16 d2, .float .f32 r'].toArray) rfl (by decide); refine ⟨_, _, hr__, ?_⟩; clear hr__)
        (try simp only [RS, RF, cond_true, cond_false, List.nil_append, List.cons_append, List.toList_toArray, Option.isSome_some, Option.map_some, Option.map_none, Nat.reduceBEq, isShift, kEq, fEq, binInt, binFloat, shiftInt, binStr])
        refine app1 (v := .agg [.int .i16 d1, .int .i16 d2, .float .f32 r'].toArray) st_53 hown9 (by omega) rfl (by simp [Value.cells, Value.oneCell']) (by omega) (by decide) ?_
        intro s' w10 ho10 hb10 hsz10 hk10 _
        (try simp only [RS, RF, cond_true, cond_false, List.nil_append, List.cons_append, List.toList_toArray, Option.isSome_some, Option.map_some, Option.map_none, Nat.reduceBEq, isShift, kEq, fEq, binInt, binFloat, shiftInt, binStr])
        rw [IntWalk.i64_in (k - 1) (by omega)]
        refine ⟨(k - 1, ps ++ [(d1, d2, r')], s'), agr_cons rfl (agr_cons rfl (agr_cons ?_ agr_nil)), ⟨?_, ?_, ?_, ?_, ?_, ?_⟩, ?_⟩
        · show Value.int .i64 ((k : Int) - 1) = _
          congr 1; show (k : Int) - 1 = (((k - 1 : Nat)) : Int); omega
        · simp; omega
        · have e1 : (ps ++ [(d1, d2, r')]).length = ps.length + 1 := by simp
          have e2 : (ps ++ [(d1, d2, r')]).flatMap pcells = ps.flatMap pcells ++ [.int .i16 d1, .int .i16 d2, .float .f32 r'] := by simp [pcells]
          show w10.ownsRow _ _ _ s' (ps ++ [(d1, d2, r')]).length ((ps ++ [(d1, d2, r')]).flatMap pcells)
          rw [e1, e2]; exact ho10
        · intro p hp
          rcases List.mem_append.1 hp with hp | hp
          · exact hok p hp
          · simp at hp
            subst hp
            exact ⟨hd1, hd2, hrp9.1, hrp9.2.1⟩
        · have : M + 2 + 12 * (ps ++ [(d1, d2, r')]).length = M + 2 + 12 * ps.length + 12 := by simp; omega
          rw [this]
          exact hs9.keep fun g hg => hb10.block g (by omega)
        · exact hx9.below hb10
        · have := hx9.size; omega
        · simp; omega
end Go.Proofs.Ytjgpnbchnenbeaa
