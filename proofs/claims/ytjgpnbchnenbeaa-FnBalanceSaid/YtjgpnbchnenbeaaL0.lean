/- Contracts for FnLines: the drawn line. -/
import Derived.Test.YtjgpnbchnenbeaaC0
namespace Go.Proofs.Ytjgpnbchnenbeaa
set_option linter.unusedSimpArgs false
set_option linter.unusedVariables false
open Go
open Go.RowKit (Below)

/-- the float of a small integer -/
def fi (n : Int) : Option Nat := cn .f32 (FloatKind.f32.nearest n)
/-- what a drawn disc may be -/
def DiscOK (d : Nat × Nat) : Prop :=
  (∃ x : Int, ∃ y : Int, 0 ≤ x ∧ x < 20 ∧ (y = 1 ∨ y = 3 ∨ y = 4) ∧ cn .f32 d.1 = FV .f32 .quo (fi (1 + x)) (fi y)) ∧
  ∃ x : Int, ∃ y : Int, 0 ≤ x ∧ x < 200 ∧ (y = 1 ∨ y = 3 ∨ y = 8) ∧ cn .f32 d.2 = FV .f32 .quo (fi (1 + x)) (fi y)
def dcells (d : Nat × Nat) : List Value := [.float .f32 d.1, .float .f32 d.2]
theorem dcells_len (d : Nat × Nat) : (dcells d).length = 2 := rfl

theorem bs134 (w : World) : (Instr.buildSlice 168 3 ([(0, .int .i64 1), (1, .int .i64 3), (2, .int .i64 4)] : List (Nat × Value)).toArray).run Try.prog w = .ok (.slice (some ⟨w.heap.size, 0, none⟩) 3 3) (w.alloc (.cells #[.int .i64 1, .int .i64 3, .int .i64 4] 2)) := by kernel_rfl
theorem bs138 (w : World) : (Instr.buildSlice 168 3 ([(0, .int .i64 1), (1, .int .i64 3), (2, .int .i64 8)] : List (Nat × Value)).toArray).run Try.prog w = .ok (.slice (some ⟨w.heap.size, 0, none⟩) 3 3) (w.alloc (.cells #[.int .i64 1, .int .i64 3, .int .i64 8] 2)) := by kernel_rfl

set_option maxRecDepth 100000 in
theorem discs_ct (w : World) (b M : Nat) (hs : Src w b M) (hM : M + 100 ≤ 1000000) :
    Ct Try.prog 108 #[.pointer (some ⟨b, 0, none⟩)] w fun v w' => ∃ ds : List (Nat × Nat), w'.ownsRow w.heap.size 130 2 v ds.length (ds.flatMap dcells) ∧ 2 ≤ ds.length ∧ ds.length ≤ 5 ∧ (∀ d ∈ ds, DiscOK d) ∧ Bx b w w' := by
  have hbB := hs.lt
  (refine fn_of_W Try.func108 rfl (by kernel_rfl) (by kernel_rfl) (Nat.le_of_ble_eq_true (by kernel_rfl)) ?_; (try simp only [RS, RF, cond_true, cond_false, List.nil_append, List.cons_append, List.toList_toArray, Option.isSome_some, Option.map_some, Option.map_none, Nat.reduceBEq, isShift, kEq, fEq, binInt, binFloat, shiftInt, binStr, Try.f108]))
  refine ⟨_, _, bs0 st_41 w, ?_⟩
  (try simp only [RS, RF, cond_true, cond_false, List.nil_append, List.cons_append, List.toList_toArray, Option.isSome_some, Option.map_some, Option.map_none, Nat.reduceBEq, isShift, kEq, fEq, binInt, binFloat, shiftInt, binStr])
  (refine (pick_ct _ b M 4 (hs.bl (Bl.alloc w _)) (by omega) (by omega)).mono ?_; rintro _ w1 ⟨x, rfl, hx0, hx1, hs1, hxx1⟩)
  (try simp only [RS, RF, cond_true, cond_false, List.nil_append, List.cons_append, List.toList_toArray, Option.isSome_some, Option.map_some, Option.map_none, Nat.reduceBEq, isShift, kEq, fEq, binInt, binFloat, shiftInt, binStr])
  have hx1' := hx1 (by omega)
  rw [IntWalk.i64_in (2 + x) (by omega)]
  refine loop_W (σ := Nat × List (Nat × Nat) × Value) (fun s => [(0, .pointer (some ⟨b, 0, none⟩)), (3, s.2.2), (4, .int .i64 s.1)])
    (fun s w' => s.1 + s.2.1.length = (2 + x).toNat ∧ w'.ownsRow w.heap.size 130 2 s.2.2 s.2.1.length (s.2.1.flatMap dcells) ∧ (∀ d ∈ s.2.1, DiscOK d) ∧ Src w' b (M + 2 + 8 * s.2.1.length) ∧ Bx b w w' ∧ w.heap.size ≤ w'.heap.size)
    (fun s => s.1) ((2 + x).toNat, [], .slice (some ⟨w.heap.size, 0, none⟩) 0 0) ?_ ?_ ?_
  · refine agr_cons rfl (agr_cons rfl (agr_cons ?_ agr_nil))
    show Value.int .i64 (2 + x) = _
    congr 1; show 2 + x = (((2 + x).toNat : Nat) : Int); omega
  · refine ⟨by simp, own_bx (own0 w w.heap.size _ _ (Nat.le_refl _)) hxx1 hbB, by simp, by simpa using hs1, (Bx.of_bl (Bl.alloc w _)).trans hxx1, ?_⟩
    have := hxx1.size; rw [alloc_size] at this; omega
  · rintro ⟨k, ds, v⟩ w2 e2 ⟨hk, hown, hok, hs2, hx2, hsz2⟩
    simp only at hk hown hok hs2
    (try simp only [RS, RF, cond_true, cond_false, List.nil_append, List.cons_append, List.toList_toArray, Option.isSome_some, Option.map_some, Option.map_none, Nat.reduceBEq, isShift, kEq, fEq, binInt, binFloat, shiftInt, binStr])
    intro b1 hb1
    cases b1
    · (try simp only [RS, RF, cond_true, cond_false, List.nil_append, List.cons_append, List.toList_toArray, Option.isSome_some, Option.map_some, Option.map_none, Nat.reduceBEq, isShift, kEq, fEq, binInt, binFloat, shiftInt, binStr])
      have hk0 : k = 0 := by have := hb1; simp at this; omega
      refine ⟨ds, hown, by omega, by omega, hok, hx2⟩
    · (try simp only [RS, RF, cond_true, cond_false, List.nil_append, List.cons_append, List.toList_toArray, Option.isSome_some, Option.map_some, Option.map_none, Nat.reduceBEq, isShift, kEq, fEq, binInt, binFloat, shiftInt, binStr])
      have hk0 : 1 ≤ k := by have := hb1; simp at this; omega
      (refine (pick_ct _ b (M + 2 + 8 * ds.length) 20 hs2 (by omega) (by omega)).mono ?_; rintro _ w3 ⟨x1, rfl, hx10, hx11, hs3, hxx3⟩)
      (try simp only [RS, RF, cond_true, cond_false, List.nil_append, List.cons_append, List.toList_toArray, Option.isSome_some, Option.map_some, Option.map_none, Nat.reduceBEq, isShift, kEq, fEq, binInt, binFloat, shiftInt, binStr])
      refine ⟨_, _, bs134 w3, ?_⟩
      (try simp only [RS, RF, cond_true, cond_false, List.nil_append, List.cons_append, List.toList_toArray, Option.isSome_some, Option.map_some, Option.map_none, Nat.reduceBEq, isShift, kEq, fEq, binInt, binFloat, shiftInt, binStr])
      (refine (among_ct _ b (M + 2 + 8 * ds.length + 2) w3.heap.size [1, 3, 4] (hs3.bl (Bl.alloc _ _)) (by omega) (alloc_new w3 _) (by have := hs3.lt; omega) (by decide) (by decide)).mono ?_; rintro _ w4 ⟨y1, hy1, rfl, hs4, hxx4⟩)
      (try simp only [RS, RF, cond_true, cond_false, List.nil_append, List.cons_append, List.toList_toArray, Option.isSome_some, Option.map_some, Option.map_none, Nat.reduceBEq, isShift, kEq, fEq, binInt, binFloat, shiftInt, binStr])
      rw [IntWalk.i64_in (1 + x1) (by have := hx11 (by omega); omega)]
      intro r1 n1 hr1
      refine ⟨#[.float .f32 r1, .float .f32 0], by kernel_rfl, ?_⟩
      (try simp only [RS, RF, cond_true, cond_false, List.nil_append, List.cons_append, List.toList_toArray, Option.isSome_some, Option.map_some, Option.map_none, Nat.reduceBEq, isShift, kEq, fEq, binInt, binFloat, shiftInt, binStr])
      obtain ⟨w5, hr5, hb5, hx5, hsz5⟩ := stn (P := Try.prog) 130 (b := (w4.drewN n1).heap.size) 0 (l := [.float .f32 0, .float .f32 0]) (vs := [.float .f32 r1, .float .f32 0]) (by kernel_rfl) (by simp) (by simp [Value.oneCell']) (alloc_new (w4.drewN n1) _) (by simp)
      refine ⟨_, hr5, ?_⟩
      (try simp only [RS, RF, cond_true, cond_false, List.nil_append, List.cons_append, List.toList_toArray, Option.isSome_some, Option.map_some, Option.map_none, Nat.reduceBEq, isShift, kEq, fEq, binInt, binFloat, shiftInt, binStr])
      have hb45 : Bl w4 w5 := Bl.of_bx (Bl.trans (Bl.drewN w4 n1) (Bl.alloc _ _)) hx5 (Nat.le_refl _)
      (refine (pick_ct _ b (M + 2 + 8 * ds.length + 2 + 2) 200 (hs4.bl hb45) (by omega) (by omega)).mono ?_; rintro _ w6 ⟨x2, rfl, hx20, hx21, hs6, hxx6⟩)
      (try simp only [RS, RF, cond_true, cond_false, List.nil_append, List.cons_append, List.toList_toArray, Option.isSome_some, Option.map_some, Option.map_none, Nat.reduceBEq, isShift, kEq, fEq, binInt, binFloat, shiftInt, binStr])
      refine ⟨_, _, bs138 w6, ?_⟩
      (try simp only [RS, RF, cond_true, cond_false, List.nil_append, List.cons_append, List.toList_toArray, Option.isSome_some, Option.map_some, Option.map_none, Nat.reduceBEq, isShift, kEq, fEq, binInt, binFloat, shiftInt, binStr])
      (refine (among_ct _ b (M + 2 + 8 * ds.length + 2 + 2 + 2) w6.heap.size [1, 3, 8] (hs6.bl (Bl.alloc _ _)) (by omega) (alloc_new w6 _) (by have := hs6.lt; omega) (by decide) (by decide)).mono ?_; rintro _ w7 ⟨y2, hy2, rfl, hs7, hxx7⟩)
      (try simp only [RS, RF, cond_true, cond_false, List.nil_append, List.cons_append, List.toList_toArray, Option.isSome_some, Option.map_some, Option.map_none, Nat.reduceBEq, isShift, kEq, fEq, binInt, binFloat, shiftInt, binStr])
      rw [IntWalk.i64_in (1 + x2) (by have := hx21 (by omega); omega)]
      intro r2 n2 hr2
      have hbd : w4.heap.size ≠ b := by have := hs4.lt; omega
      have hb7 : (w7.drewN n2).heap[w4.heap.size]? = some (.cells [.float .f32 r1, .float .f32 0].toArray 130 (0, 0)) :=
        (Bx.of_bl (Bl.drewN w7 n2)).blk (hxx7.blk ((Bl.alloc w6 _).block (hxx6.blk hb5 hbd)) hbd) hbd
      obtain ⟨w8, hr8, hb8, hx8, hsz8⟩ := stp (P := Try.prog) 26 1 (.float .f32 r2) (by kernel_rfl) rfl hb7 (by simp)
      refine ⟨_, hr8, ?_⟩
      (try simp only [RS, RF, cond_true, cond_false, List.nil_append, List.cons_append, List.toList_toArray, Option.isSome_some, Option.map_some, Option.map_none, Nat.reduceBEq, isShift, kEq, fEq, binInt, binFloat, shiftInt, binStr])
      refine ⟨_, ldn (cs := [.float .f32 r1, .float .f32 r2]) (by kernel_rfl) (fun j u hu => by rw [add_off, cell_blk hb8, Nat.zero_add]; simpa using hu), ?_⟩
      (try simp only [RS, RF, cond_true, cond_false, List.nil_append, List.cons_append, List.toList_toArray, Option.isSome_some, Option.map_some, Option.map_none, Nat.reduceBEq, isShift, kEq, fEq, binInt, binFloat, shiftInt, binStr])
      (have hr__ := bs1 st_41 w8 (.agg [.float .f32 r1, .float .f32 r2].toArray) rfl (by decide); refine ⟨_, _, hr__, ?_⟩; clear hr__)
      (try simp only [RS, RF, cond_true, cond_false, List.nil_append, List.cons_append, List.toList_toArray, Option.isSome_some, Option.map_some, Option.map_none, Nat.reduceBEq, isShift, kEq, fEq, binInt, binFloat, shiftInt, binStr])
      have hx68 : Bx b w3 w7 := ((Bx.of_bl (Bl.alloc w3 _)).trans hxx4).trans ((Bx.of_bl hb45).trans (hxx6.trans ((Bx.of_bl (Bl.alloc w6 _)).trans hxx7)))
      have hxa : Bx b w2 w7 := hxx3.trans hx68
      have hown7 := own_bx hown hxa hbB
      have hx78 : Bx w4.heap.size w7 w8 := (Bx.of_bl (Bl.drewN w7 n2)).trans hx8
      have hw24 : w2.heap.size ≤ w4.heap.size := by
        have h1 := hxx3.size; have h2 := hxx4.size; rw [alloc_size] at h2; omega
      have hown8 : w8.ownsRow w.heap.size 130 2 v ds.length (ds.flatMap dcells) := own_keep hown7 fun g hg => by
        have := (hown.lt g hg).2
        have := hxa.size
        exact hx78.block g (by omega) (by omega)
      have hs8 : Src w8 b (M + 2 + 8 * ds.length + 8) := (hs7.more (by omega) (by omega)).keep fun g hg => by
        have := hs4.lt
        have := hs7.lt
        exact hx78.block g (by omega) (by omega)
      have hxb : Bx b w w8 := (hx2.trans hxa).new hx78 (by omega)
      refine app1 (v := .agg [.float .f32 r1, .float .f32 r2].toArray) st_41 hown8 (by have := hxb.size; omega) rfl (by simp [Value.cells, Value.oneCell']) (by omega) (by decide) ?_
      intro s' w9 ho9 hb9 hsz9 hk9 _
      (try simp only [RS, RF, cond_true, cond_false, List.nil_append, List.cons_append, List.toList_toArray, Option.isSome_some, Option.map_some, Option.map_none, Nat.reduceBEq, isShift, kEq, fEq, binInt, binFloat, shiftInt, binStr])
      rw [IntWalk.i64_in (k - 1) (by omega)]
      refine ⟨(k - 1, ds ++ [(r1, r2)], s'), agr_cons rfl (agr_cons rfl (agr_cons ?_ agr_nil)), ⟨?_, ?_, ?_, ?_, ?_, ?_⟩, ?_⟩
      · show Value.int .i64 ((k : Int) - 1) = _
        congr 1; show (k : Int) - 1 = (((k - 1 : Nat)) : Int); omega
      · simp; omega
      · have e1 : (ds ++ [(r1, r2)]).length = ds.length + 1 := by simp
        have e2 : (ds ++ [(r1, r2)]).flatMap dcells = ds.flatMap dcells ++ [.float .f32 r1, .float .f32 r2] := by simp [dcells]
        show w9.ownsRow _ _ _ s' (ds ++ [(r1, r2)]).length ((ds ++ [(r1, r2)]).flatMap dcells)
        rw [e1, e2]; exact ho9
      · intro d hd
        rcases List.mem_append.1 hd with hd | hd
        · exact hok d hd
        · simp at hd
          subst hd
          exact ⟨⟨x1, y1, hx10, hx11 (by omega), by simpa using hy1, hr1⟩, ⟨x2, y2, hx20, hx21 (by omega), by simpa using hy2, hr2⟩⟩
      · have : M + 2 + 8 * (ds ++ [(r1, r2)]).length = M + 2 + 8 * ds.length + 8 := by simp; omega
        rw [this]
        exact hs8.keep fun g hg => hb9.block g (by omega)
      · exact hxb.below hb9
      · have := hxb.size; omega
      · simp; omega
end Go.Proofs.Ytjgpnbchnenbeaa
