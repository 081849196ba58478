/- Teeth: values, copies; results that lie in a cell. -/
import Derived.Test.YtjgpnbchnenbeaaDoorX3
namespace Go.Proofs.YtjgpnbchnenbeaaDoor
set_option linter.unusedSimpArgs false
set_option linter.unusedVariables false
open Go
open Go.RowKit (Below)

theorem results_c1 {P : Program} {fn : Func} {a : Array Value} {t : Nat} {ty : TypeId} {ad : Addr} {v : Value} {w : World} (h : fn.results.toList = [.cell t ty]) (ha : a.getD t undef = .pointer (some ad)) (hl : (loadVar ty ad).run P w = .ok v w) : (results fn a).run P w = .ok v w := by
  have hfn : fn.results = #[.cell t ty] := by
    rw [← Array.toList_inj, h]
  rw [Array.getD_eq_getD_getElem?] at ha
  simp [results, hfn, ha, asAddr, hl]
theorem end_c1 {P : Program} {R : Value → World → Prop} {e : Env} {w : World} {t : Nat} {ty : TypeId} {ad : Addr} {v : Value} (he : e t = .pointer (some ad)) (hl : (loadVar ty ad).run P w = .ok v w) (hR : R v w) : endW P [.cell t ty] R .ret e w :=
  ⟨v, fun fn a h ha => results_c1 h ((ha t).trans he) hl, hR⟩

abbrev prV (a b : Nat) : Value := .agg #[fl a, fl b]
abbrev thV (h a b : Nat) (s : Int) : Value := .agg #[fl h, fl a, fl b, .int .i8 s]
set_option maxRecDepth 100000 in
theorem toFloat32A2_ct (w : World) (a b : Nat) : Ct Tryd.prog 74 #[prV a b] w (Is (prV a b) w) := by
  (refine fn_of_W Tryd.func74 rfl (by kernel_rfl) (by kernel_rfl) (Nat.le_of_ble_eq_true (by kernel_rfl)) ?_; (try simp only [RS, RF, cond_true, cond_false, List.nil_append, List.cons_append, List.toList_toArray, Option.isSome_some, Option.map_some, Option.map_none, Nat.reduceBEq, isShift, kEq, fEq, binInt, binFloat, shiftInt, binStr, Tryd.f74]))
  have hbox : (((w.alloc (.cells #[fl a, fl b] 34)).alloc (.cells #[.float .f32 0, .float .f32 0] 34)).alloc (.cells #[.float .f32 0, .float .f32 0] 34)).heap[w.heap.size]? = some (.cells [fl a, fl b].toArray 34 (0, 0)) := by
    rw [alloc_old _ _ (by simp [alloc_size]; omega), alloc_old _ _ (by simp [alloc_size])]
    exact alloc_new w _
  have hres : (((w.alloc (.cells #[fl a, fl b] 34)).alloc (.cells #[.float .f32 0, .float .f32 0] 34)).alloc (.cells #[.float .f32 0, .float .f32 0] 34)).heap[w.heap.size + 1]? = some (.cells [fl 0, fl 0].toArray 34 (0, 0)) := by
    rw [alloc_old _ _ (by simp [alloc_size]), ← alloc_size w (.cells #[fl a, fl b] 34)]
    exact alloc_new _ _
  have hout : (((w.alloc (.cells #[fl a, fl b] 34)).alloc (.cells #[.float .f32 0, .float .f32 0] 34)).alloc (.cells #[.float .f32 0, .float .f32 0] 34)).heap[w.heap.size + 1 + 1]? = some (.cells [fl 0, fl 0].toArray 34 (0, 0)) := by
    rw [← alloc_size w (.cells #[fl a, fl b] 34), ← alloc_size (w.alloc (.cells #[fl a, fl b] 34)) (.cells #[.float .f32 0, .float .f32 0] 34)]
    exact alloc_new _ _
  have hbl : Bl w (((w.alloc (.cells #[fl a, fl b] 34)).alloc (.cells #[.float .f32 0, .float .f32 0] 34)).alloc (.cells #[.float .f32 0, .float .f32 0] 34)) := ((Bl.alloc w _).and_alloc _).and_alloc _
  generalize ((w.alloc (.cells #[fl a, fl b] 34)).alloc (.cells #[.float .f32 0, .float .f32 0] 34)).alloc (.cells #[.float .f32 0, .float .f32 0] 34) = w3 at *
  refine loop_W (σ := Nat) (fun k => [(1, .pointer (some ⟨w.heap.size, 0, none⟩)), (2, .pointer (some ⟨w.heap.size + 1, 0, none⟩)), (3, .pointer (some ⟨w.heap.size + 1 + 1, 0, none⟩)), (4, .int .i64 k)])
    (fun k w' => k ≤ 2 ∧ w'.heap[w.heap.size + 1 + 1]? = some (.cells ([fl a, fl b].take k ++ List.replicate (2 - k) (fl 0)).toArray 34 (0, 0)) ∧ Bx (w.heap.size + 1 + 1) w3 w')
    (fun k => 2 - k) 0 (agr_cons rfl (agr_cons rfl (agr_cons rfl (agr_cons rfl (agr_nil))))) ⟨by decide, hout, Bx.refl _ _⟩ ?_
  rintro k w4 e4 ⟨hk, hblk, hx4⟩
  (try simp only [RS, RF, cond_true, cond_false, List.nil_append, List.cons_append, List.toList_toArray, Option.isSome_some, Option.map_some, Option.map_none, Nat.reduceBEq, isShift, kEq, fEq, binInt, binFloat, shiftInt, binStr])
  intro b1 hb1
  cases b1
  · have hk2 : k = 2 := by have := hb1.symm; simp at this; omega
    subst hk2
    (try simp only [RS, RF, cond_true, cond_false, List.nil_append, List.cons_append, List.toList_toArray, Option.isSome_some, Option.map_some, Option.map_none, Nat.reduceBEq, isShift, kEq, fEq, binInt, binFloat, shiftInt, binStr])
    refine ⟨_, ldn (cs := [fl a, fl b]) (by kernel_rfl) (fun j u hu => by rw [add_off, Nat.zero_add, cell_blk hblk]; simpa using hu), ?_⟩
    (try simp only [RS, RF, cond_true, cond_false, List.nil_append, List.cons_append, List.toList_toArray, Option.isSome_some, Option.map_some, Option.map_none, Nat.reduceBEq, isShift, kEq, fEq, binInt, binFloat, shiftInt, binStr])
    obtain ⟨w5, hr5, hb5, hx5, hs5⟩ := stn (P := Tryd.prog) 34 0 (vs := [fl a, fl b]) (by kernel_rfl) (by simp) (by simp [Value.oneCell']) (hx4.blk hres (by omega)) (by simp)
    refine ⟨w5, hr5, ?_⟩
    (try simp only [RS, RF, cond_true, cond_false, List.nil_append, List.cons_append, List.toList_toArray, Option.isSome_some, Option.map_some, Option.map_none, Nat.reduceBEq, isShift, kEq, fEq, binInt, binFloat, shiftInt, binStr])
    refine end_c1 (ad := ⟨w.heap.size + 1, 0, none⟩) rfl (ldn (cs := [fl a, fl b]) (by kernel_rfl) (fun j u hu => by rw [add_off, Nat.zero_add, cell_blk hb5]; simpa using hu)) ?_
    exact ⟨rfl, (Bl.of_bx hbl hx4 (by omega)).new hx5 (by omega)⟩
  · have hlt : k < 2 := by have := hb1.symm; simp at this; omega
    obtain ⟨x, hx⟩ : ∃ x, [fl a, fl b][k]? = some x := ⟨_, List.getElem?_eq_getElem (by simpa using hlt)⟩
    have h1 : x.oneCell' = true := by
      match k, hx with
      | 0, hx => simp at hx; subst hx; rfl
      | 1, hx => simp at hx; subst hx; rfl
    (try simp only [RS, RF, cond_true, cond_false, List.nil_append, List.cons_append, List.toList_toArray, Option.isSome_some, Option.map_some, Option.map_none, Nat.reduceBEq, isShift, kEq, fEq, binInt, binFloat, shiftInt, binStr, Int.toNat_natCast])
    refine ⟨by omega, _, ld1 (by kernel_rfl) (by rw [cell_blk (hx4.blk hbox (by omega))]; simpa using hx), by omega, ?_⟩
    obtain ⟨w5, hr5, hb5, hx5, hs5⟩ := stp (P := Tryd.prog) 33 k x (by kernel_rfl) h1 hblk (by simp; omega)
    refine ⟨w5, hr5, ?_⟩
    (try simp only [RS, RF, cond_true, cond_false, List.nil_append, List.cons_append, List.toList_toArray, Option.isSome_some, Option.map_some, Option.map_none, Nat.reduceBEq, isShift, kEq, fEq, binInt, binFloat, shiftInt, binStr])
    rw [IntWalk.i64_in ((k : Int) + 1) (by omega)]
    refine ⟨k + 1, (agr_cons rfl (agr_cons rfl (agr_cons rfl (agr_cons rfl (agr_nil))))), ⟨hlt, ?_, hx4.trans hx5⟩, by omega⟩
    rw [hb5]
    match k, hx with
    | 0, hx => simp at hx; subst hx; rfl
    | 1, hx => simp at hx; subst hx; rfl
theorem three (w : World) (o1 o2 o3 : Obj) : (((w.alloc o1).alloc o2).alloc o3).heap[w.heap.size]? = some o1 ∧ (((w.alloc o1).alloc o2).alloc o3).heap[w.heap.size + 1]? = some o2 ∧ (((w.alloc o1).alloc o2).alloc o3).heap[w.heap.size + 1 + 1]? = some o3 ∧ Bl w (((w.alloc o1).alloc o2).alloc o3) := by
  refine ⟨?_, ?_, ?_, ((Bl.alloc w _).and_alloc _).and_alloc _⟩
  · rw [alloc_old _ _ (by simp [alloc_size]; omega), alloc_old _ _ (by simp [alloc_size])]
    exact alloc_new w _
  · rw [alloc_old _ _ (by simp [alloc_size]), ← alloc_size w o1]
    exact alloc_new _ _
  · rw [← alloc_size w o1, ← alloc_size (w.alloc o1) o2]
    exact alloc_new _ _
set_option maxRecDepth 100000 in
theorem toTooth_ct (w : World) (h a b : Nat) (s : Int) : Ct Tryd.prog 18 #[thV h a b s] w (Is (thV h a b s) w) := by
  (refine fn_of_W Tryd.func18 rfl (by kernel_rfl) (by kernel_rfl) (Nat.le_of_ble_eq_true (by kernel_rfl)) ?_; (try simp only [RS, RF, cond_true, cond_false, List.nil_append, List.cons_append, List.toList_toArray, Option.isSome_some, Option.map_some, Option.map_none, Nat.reduceBEq, isShift, kEq, fEq, binInt, binFloat, shiftInt, binStr, Tryd.f18]))
  obtain ⟨hbox, hres, hout, hbl⟩ := three w (.cells #[fl h, fl a, fl b, .int .i8 s] 37) (.cells #[.float .f32 0, .float .f32 0, .float .f32 0, .int .i8 0] 39) (.cells #[.float .f32 0, .float .f32 0, .float .f32 0, .int .i8 0] 39)
  generalize ((w.alloc (.cells #[fl h, fl a, fl b, .int .i8 s] 37)).alloc (.cells #[.float .f32 0, .float .f32 0, .float .f32 0, .int .i8 0] 39)).alloc (.cells #[.float .f32 0, .float .f32 0, .float .f32 0, .int .i8 0] 39) = w3 at *
  have hout : w3.heap[w.heap.size + 1 + 1]? = some (.cells [fl 0, fl 0, fl 0, .int .i8 0].toArray 39 (0, 0)) := hout
  refine ⟨_, ldb (by kernel_rfl) hbox rfl, ?_⟩
  obtain ⟨w4, hr4, hb4, hx4, hs4⟩ := stp (P := Tryd.prog) 33 0 (fl h) (by kernel_rfl) rfl hout (by simp)
  refine ⟨w4, hr4, ?_⟩
  refine ⟨_, ldn (cs := [fl a, fl b]) (by kernel_rfl) (fun j u hu => ?_), ?_⟩
  · rw [add_off, cell_blk (hx4.blk hbox (by omega))]
    match j, hu with
    | 0, hu => exact hu
    | 1, hu => exact hu
  (refine (toFloat32A2_ct w4 a b).mono ?_; rintro _ w5 ⟨rfl, hw5⟩)
  (try simp only [RS, RF, cond_true, cond_false, List.nil_append, List.cons_append, List.toList_toArray, Option.isSome_some, Option.map_some, Option.map_none, Nat.reduceBEq, isShift, kEq, fEq, binInt, binFloat, shiftInt, binStr])
  obtain ⟨w6, hr6, hb6, hx6, hs6⟩ := stn (P := Tryd.prog) 34 1 (vs := [fl a, fl b]) (by kernel_rfl) (by simp) (by simp [Value.oneCell']) (hw5.block hb4) (by simp)
  refine ⟨w6, hr6, ?_⟩
  (try simp only [RS, RF, cond_true, cond_false, List.nil_append, List.cons_append, List.toList_toArray, Option.isSome_some, Option.map_some, Option.map_none, Nat.reduceBEq, isShift, kEq, fEq, binInt, binFloat, shiftInt, binStr])
  have hx46 : Bx (w.heap.size + 1 + 1) w3 w6 := (hx4.bl hw5).trans hx6
  refine ⟨_, ldb (by kernel_rfl) (hx46.blk hbox (by omega)) rfl, ?_⟩
  (try simp only [RS, RF, cond_true, cond_false, List.nil_append, List.cons_append, List.toList_toArray, Option.isSome_some, Option.map_some, Option.map_none, Nat.reduceBEq, isShift, kEq, fEq, binInt, binFloat, shiftInt, binStr])
  obtain ⟨w7, hr7, hb7, hx7, hs7⟩ := stp (P := Tryd.prog) 35 3 (.int .i8 s) (by kernel_rfl) rfl hb6 (by simp)
  refine ⟨w7, hr7, ?_⟩
  (try simp only [RS, RF, cond_true, cond_false, List.nil_append, List.cons_append, List.toList_toArray, Option.isSome_some, Option.map_some, Option.map_none, Nat.reduceBEq, isShift, kEq, fEq, binInt, binFloat, shiftInt, binStr])
  have hx37 := hx46.trans hx7
  refine ⟨_, ldn (cs := [fl h, fl a, fl b, .int .i8 s]) (by kernel_rfl) (fun j u hu => by rw [add_off, Nat.zero_add, cell_blk hb7]; simpa using hu), ?_⟩
  (try simp only [RS, RF, cond_true, cond_false, List.nil_append, List.cons_append, List.toList_toArray, Option.isSome_some, Option.map_some, Option.map_none, Nat.reduceBEq, isShift, kEq, fEq, binInt, binFloat, shiftInt, binStr])
  have hres7 : w7.heap[w.heap.size + 1]? = some (.cells [fl 0, fl 0, fl 0, .int .i8 0].toArray 39 (0, 0)) := hx37.blk hres (by omega)
  obtain ⟨w8, hr8, hb8, hx8, hs8⟩ := stn (P := Tryd.prog) 39 0 (vs := [fl h, fl a, fl b, .int .i8 s]) (by kernel_rfl) (by simp) (by simp [Value.oneCell']) hres7 (by simp)
  refine ⟨w8, hr8, ?_⟩
  (try simp only [RS, RF, cond_true, cond_false, List.nil_append, List.cons_append, List.toList_toArray, Option.isSome_some, Option.map_some, Option.map_none, Nat.reduceBEq, isShift, kEq, fEq, binInt, binFloat, shiftInt, binStr])
  refine end_c1 (ad := ⟨w.heap.size + 1, 0, none⟩) rfl (ldn (cs := [fl h, fl a, fl b, .int .i8 s]) (by kernel_rfl) (fun j u hu => by rw [add_off, Nat.zero_add, cell_blk hb8]; simpa using hu)) ?_
  exact ⟨rfl, (Bl.of_bx hbl hx37 (by omega)).new hx8 (by omega)⟩
end Go.Proofs.YtjgpnbchnenbeaaDoor
