/- Boxes: their texts. -/
import Derived.Test.YtjgpnbchnenbeaaDoorX2
import Derived.Test.YtjgpnbchnenbeaaDoorS1
import Derived.Sort.Grow
import Derived.WalkSmall
namespace Go.Proofs.YtjgpnbchnenbeaaDoor
set_option linter.unusedSimpArgs false
set_option linter.unusedVariables false
open Go
open Go.RowKit (Below)

/-! ### The table -/
def Tab (w : World) : Prop := Lib.TabIs Tryd.prog w "internal/strconv.uint64pow10" .u64 Lib.pow10Tab
theorem tab_name : ∃ g, Tryd.prog.globalNamed "internal/strconv.uint64pow10" = some g := Option.isSome_iff_exists.1 (by kernel_rfl)
theorem Tab.bl {w w' : World} (h : Tab w) (hb : Bl w w') : Tab w' := by
  obtain ⟨g, hg⟩ := tab_name
  refine Go.var?_below hb hg ?_ h
  have h2 : w.var? Tryd.prog "internal/strconv.uint64pow10" = _ := h
  unfold World.var? at h2
  rw [hg] at h2
  simp only [Option.bind_some] at h2
  split at h2
  · rename_i hc; exact (Array.getElem?_eq_some_iff.1 hc).1
  · cases h2
theorem Bl.grow (w : World) (os : Array Obj) : Bl w (Sort.grow w os) := by
  refine ⟨rfl, rfl, rfl, by show w.heap.size ≤ (w.heap ++ os).size; simp, fun k hk => ?_⟩
  show (w.heap ++ os)[k]? = w.heap[k]?
  rw [Array.getElem?_append_left hk]
set_option maxRecDepth 100000 in
theorem FormatInt_ct (w : World) (n : Nat) (hn : n < 1000000000) (ht : Tab w) : Ct Tryd.prog 120 #[.int .i64 n, .int .i64 10] w (Is (str (dcs n)) w) := by
  refine (ct_of_calls (by kernel_rfl) (Tryd.strconv_FormatInt_10 n (by omega) (by omega) w ht)).mono ?_
  rintro v w' ⟨rfl, k, os, rfl⟩
  refine ⟨?_, (Bl.drewN w k).trans (Bl.grow _ os)⟩
  unfold dcs Lib.itoa
  rw [if_neg (by omega), Int.toNat_natCast]
set_option maxRecDepth 100000 in
theorem decimal_ct (w : World) (n : Nat) (hn : n < 1000000000) (ht : Tab w) : Ct Tryd.prog 70 #[.int .i64 n] w (Is (str (dcs n)) w) := by
  (refine fn_of_W Tryd.func70 rfl (by kernel_rfl) (by kernel_rfl) (Nat.le_of_ble_eq_true (by kernel_rfl)) ?_; (try simp only [RS, RF, cond_true, cond_false, List.nil_append, List.cons_append, List.toList_toArray, Option.isSome_some, Option.map_some, Option.map_none, Nat.reduceBEq, isShift, kEq, fEq, binInt, binFloat, shiftInt, binStr, Tryd.f70]))
  (refine (FormatInt_ct w n hn ht).mono ?_; rintro _ w1 ⟨rfl, hw1⟩)
  (try simp only [RS, RF, cond_true, cond_false, List.nil_append, List.cons_append, List.toList_toArray, Option.isSome_some, Option.map_some, Option.map_none, Nat.reduceBEq, isShift, kEq, fEq, binInt, binFloat, shiftInt, binStr])
  exact ⟨rfl, hw1⟩
set_option maxRecDepth 100000 in
theorem Join_ct (w : World) (g c : Nat) (xs : List ByteArray) (sep : ByteArray) (hcells : ∀ (j : Nat) (x : ByteArray), xs[j]? = some x → w.cell? ⟨g, j, none⟩ = some (str x)) (hg : g < w.heap.size) (hc : xs.length ≤ c) (hN : xs.length ≤ 1048577)
    (hlen : (Lib.join (xs.map bs) (bs sep)).length ≤ 100000000000) : Ct Tryd.prog 71 #[.slice (some ⟨g, 0, none⟩) xs.length c, str sep] w (Is (str ⟨(Lib.join (xs.map bs) (bs sep)).toArray⟩) w) := by
  have h := ct_of_calls (by kernel_rfl) (Tryd.strings_Join g 0 c xs sep w (fun j x hj => by rw [Nat.zero_add]; exact hcells j x hj) hg (by omega) hc (Nat.le_trans hlen (by omega)))
  exact h.mono fun v w' hv => hv

/-! ### Texts -/
theorem asc_all : ∀ (zs : List Int) (p : Option Int), asc p zs = true → ∀ z ∈ zs, 6 ≤ z ∧ z ≤ 200
  | [], _, _, z, h => by cases h
  | x :: r, p, h, z, hz => by
    unfold asc at h
    simp only [Bool.and_eq_true] at h
    rcases List.mem_cons.1 hz with rfl | hz
    · have := h.1.1
      unfold teeth at this
      simpa using this
    · exact asc_all r _ h.2 z hz
def dls (zs : List Int) : List (List UInt8) := zs.map fun z => Lib.decDigits z.toNat
def boxS (zs : List Int) : ByteArray := ⟨(Lib.join (dls zs) [32]).toArray⟩
theorem dec_le201 {z : Int} (h : z ≤ 200) : (Lib.decDigits z.toNat).length ≤ 201 := by
  have := dec_len z.toNat; omega
theorem lens_le {ls : List (List UInt8)} {m : Nat} (h : ∀ l ∈ ls, l.length ≤ m) : Lib.lens ls ≤ m * ls.length := by
  induction ls with
  | nil => exact Nat.le_refl _
  | cons l ls ih =>
    have h1 := h l (by simp)
    have h2 := ih fun x hx => h x (List.mem_cons_of_mem _ hx)
    have e : Lib.lens (l :: ls) = l.length + Lib.lens ls := by simp [Lib.lens]
    rw [e, List.length_cons, Nat.mul_succ]; omega
theorem box_len {zs : List Int} (h : ∀ z ∈ zs, 6 ≤ z ∧ z ≤ 200) : (Lib.join (dls zs) [32]).length ≤ 300 * zs.length := by
  cases zs with
  | nil => exact Nat.zero_le _
  | cons z r =>
    show (Lib.join (Lib.decDigits z.toNat :: dls r) [32]).length ≤ _
    rw [Lib.join_length]
    have h1 : Lib.lens (Lib.decDigits z.toNat :: dls r) ≤ 201 * (Lib.decDigits z.toNat :: dls r).length := lens_le (fun l hl => by
      have : l ∈ dls (z :: r) := hl
      obtain ⟨x, hx, rfl⟩ := List.mem_map.1 this
      exact dec_le201 (h x hx).2)
    have h2 : (dls r).length = r.length := by simp [dls]
    simp only [List.length_cons, List.length_nil, h2] at *
    omega
theorem join_snoc {zs : List Int} {k : Nat} {z : Int} (hk : zs[k]? = some z) (h1 : 1 ≤ k) : Lib.join (dls (zs.take (k + 1))) [32] = Lib.join (dls (zs.take k)) [32] ++ ([32] ++ Lib.decDigits z.toNat) := by
  cases zs with
  | nil => simp at hk
  | cons x r =>
    cases k with
    | zero => omega
    | succ j =>
      simp only [List.getElem?_cons_succ] at hk
      show Lib.join (Lib.decDigits x.toNat :: dls (r.take (j + 1))) [32] = Lib.join (Lib.decDigits x.toNat :: dls (r.take j)) [32] ++ _
      rw [Lib.join_cons, Lib.join_cons]
      have e : ∀ n, dls (r.take n) = (dls r).take n := fun n => by simp [dls, List.map_take]
      rw [e, e, Lib.joinTail_take_succ [32] (dls r) j (Lib.decDigits z.toNat) (by simp [dls, hk])]
      simp [List.append_assoc]
set_option maxRecDepth 100000 in
theorem BoxText_ct (w : World) (g : Nat) (zs : List Int) (h : Iv w g 0 zs) (hn : zs.length ≤ 1048576) (ht : Tab w) : Ct Tryd.prog 15 #[rowV g zs] w (Is (str (if okB zs = true then boxS zs else ⟨#[]⟩)) w) := by
  (refine fn_of_W Tryd.func15 rfl (by kernel_rfl) (by kernel_rfl) (Nat.le_of_ble_eq_true (by kernel_rfl)) ?_; (try simp only [RS, RF, cond_true, cond_false, List.nil_append, List.cons_append, List.toList_toArray, Option.isSome_some, Option.map_some, Option.map_none, Nat.reduceBEq, isShift, kEq, fEq, binInt, binFloat, shiftInt, binStr, Tryd.f15]))
  (refine (ValidBox_ct w g zs h hn).mono ?_; rintro _ w1 ⟨rfl, hw1⟩)
  have ht1 := ht.bl hw1
  cases hok : okB zs
  · (try simp only [RS, RF, cond_true, cond_false, List.nil_append, List.cons_append, List.toList_toArray, Option.isSome_some, Option.map_some, Option.map_none, Nat.reduceBEq, isShift, kEq, fEq, binInt, binFloat, shiftInt, binStr])
    exact ⟨rfl, hw1⟩
  · have hall : ∀ z ∈ zs, 6 ≤ z ∧ z ≤ 200 := by
      have := hok
      unfold okB at this
      simp only [Bool.and_eq_true] at this
      exact asc_all zs none this.1
    have h24 : zs.length ≤ 24 ∧ 2 ≤ zs.length := by
      have := hok
      unfold okB at this
      simp only [Bool.and_eq_true, decide_eq_true_eq] at this
      omega
    (try simp only [RS, RF, cond_true, cond_false, List.nil_append, List.cons_append, List.toList_toArray, Option.isSome_some, Option.map_some, Option.map_none, Nat.reduceBEq, isShift, kEq, fEq, binInt, binFloat, shiftInt, binStr])
    refine ⟨_, _, bs0 st_85 _, ?_⟩
    (try simp only [RS, RF, cond_true, cond_false, List.nil_append, List.cons_append, List.toList_toArray, Option.isSome_some, Option.map_some, Option.map_none, Nat.reduceBEq, isShift, kEq, fEq, binInt, binFloat, shiftInt, binStr])
    refine loop_W (σ := Nat × Value) (fun t => [(0, rowV g zs), (3, t.2), (10, rowV g zs), (11, .int .i64 zs.length), (12, .int .i64 t.1)])
      (fun t w' => t.1 ≤ zs.length ∧ w'.ownsRow w1.heap.size 9 1 t.2 t.1 (((zs.take t.1).map fun z => dcs z.toNat).map str) ∧ Bl w1 w')
      (fun t => zs.length - t.1) (0, .slice (some ⟨w1.heap.size, 0, none⟩) 0 0) (agr_cons rfl (agr_cons rfl (agr_cons rfl (agr_cons rfl (agr_cons rfl (agr_nil)))))) ⟨Nat.zero_le _, own0 w1 w1.heap.size _ _ (Nat.le_refl _), Bl.alloc _ _⟩ ?_
    rintro ⟨k, v⟩ w2 e2 ⟨hk, hown, hb2⟩
    simp only at hk hown
    (try simp only [RS, RF, cond_true, cond_false, List.nil_append, List.cons_append, List.toList_toArray, Option.isSome_some, Option.map_some, Option.map_none, Nat.reduceBEq, isShift, kEq, fEq, binInt, binFloat, shiftInt, binStr])
    intro b1 hb1
    cases b1
    · have hk2 : k = zs.length := by have := hb1.symm; simp at this; omega
      subst hk2
      rw [List.take_length] at hown
      have hl : (zs.map fun z => dcs z.toNat).length = zs.length := List.length_map ..
      rcases hown.2 with ⟨rfl, h0⟩ | ⟨g2, cap, cur, rfl, hB, hg2, hcap, _⟩
      · omega
      have hcells : ∀ (j : Nat) (x : ByteArray), (zs.map fun z => dcs z.toNat)[j]? = some x → w2.cell? ⟨g2, j, none⟩ = some (str x) := fun j x hj => by
        have := hown.cells (g := g2) rfl j (str x) (by rw [List.getElem?_map, hj]; rfl)
        rwa [add_off, Nat.zero_add] at this
      have hmap : (zs.map fun z => dcs z.toNat).map bs = dls zs := by
        rw [List.map_map]; unfold dls; apply List.map_congr_left; intro z _; exact bs_mk _
      have hj := Join_ct w2 g2 cap (zs.map fun z => dcs z.toNat) { data := #[32] } hcells (Array.getElem?_eq_some_iff.1 hg2).1 (by omega) (by omega) (by
        rw [hmap]
        have := box_len hall
        exact Nat.le_trans this (by omega))
      rw [hl, hmap] at hj
      (try simp only [RS, RF, cond_true, cond_false, List.nil_append, List.cons_append, List.toList_toArray, Option.isSome_some, Option.map_some, Option.map_none, Nat.reduceBEq, isShift, kEq, fEq, binInt, binFloat, shiftInt, binStr])
      (refine (hj).mono ?_; rintro _ w3 ⟨rfl, hw3⟩)
      (try simp only [RS, RF, cond_true, cond_false, List.nil_append, List.cons_append, List.toList_toArray, Option.isSome_some, Option.map_some, Option.map_none, Nat.reduceBEq, isShift, kEq, fEq, binInt, binFloat, shiftInt, binStr])
      exact ⟨rfl, (hw1.trans hb2).trans hw3⟩
    · have hlt : k < zs.length := by have := hb1.symm; simp at this; omega
      obtain ⟨z, hz⟩ : ∃ z, zs[k]? = some z := ⟨_, List.getElem?_eq_getElem hlt⟩
      have hzb := hall z (List.mem_of_getElem? hz)
      (try simp only [RS, RF, cond_true, cond_false, List.nil_append, List.cons_append, List.toList_toArray, Option.isSome_some, Option.map_some, Option.map_none, Nat.reduceBEq, isShift, kEq, fEq, binInt, binFloat, shiftInt, binStr, Int.toNat_natCast])
      refine ⟨by omega, _, ld1 (by kernel_rfl) ((hw1.trans hb2).cell (h.at0 hz)), ?_⟩
      unfold i16
      (try simp only [RS, RF, cond_true, cond_false, List.nil_append, List.cons_append, List.toList_toArray, Option.isSome_some, Option.map_some, Option.map_none, Nat.reduceBEq, isShift, kEq, fEq, binInt, binFloat, shiftInt, binStr])
      rw [IntWalk.i64_in z (by omega), show z = (z.toNat : Int) by omega]
      (refine (decimal_ct w2 z.toNat (by omega) (ht1.bl hb2)).mono ?_; rintro _ w3 ⟨rfl, hw3⟩)
      (try simp only [RS, RF, cond_true, cond_false, List.nil_append, List.cons_append, List.toList_toArray, Option.isSome_some, Option.map_some, Option.map_none, Nat.reduceBEq, isShift, kEq, fEq, binInt, binFloat, shiftInt, binStr])
      (have hr__ := bs1 st_85 w3 (str (dcs z.toNat)) rfl (by decide); refine ⟨_, _, hr__, ?_⟩; clear hr__)
      (try simp only [RS, RF, cond_true, cond_false, List.nil_append, List.cons_append, List.toList_toArray, Option.isSome_some, Option.map_some, Option.map_none, Nat.reduceBEq, isShift, kEq, fEq, binInt, binFloat, shiftInt, binStr])
      refine app1 (v := str (dcs z.toNat)) st_85 (own_bl hown hw3) (hb2.trans hw3).size rfl (by simp [Value.cells, Value.oneCell']) (by omega) (by decide) ?_
      intro s' w4 ho hbel hsz hkeep _
      (try simp only [RS, RF, cond_true, cond_false, List.nil_append, List.cons_append, List.toList_toArray, Option.isSome_some, Option.map_some, Option.map_none, Nat.reduceBEq, isShift, kEq, fEq, binInt, binFloat, shiftInt, binStr])
      rw [IntWalk.i64_in ((k : Int) + 1) (by omega)]
      refine ⟨(k + 1, s'), (agr_cons rfl (agr_cons rfl (agr_cons rfl (agr_cons rfl (agr_cons rfl (agr_nil)))))), ⟨hlt, ?_, (hb2.trans hw3).below' hbel⟩, by show zs.length - (k + 1) < zs.length - k; omega⟩
      show w4.ownsRow _ _ _ s' (k + 1) (((zs.take (k + 1)).map fun z => dcs z.toNat).map str)
      rw [List.take_add_one, hz, List.map_append, List.map_append]
      exact ho
end Go.Proofs.YtjgpnbchnenbeaaDoor
