/- Texts of numbers: the reference's; several, joined. -/
import Derived.Test.YtjgpnbchnenbeaaDoorX3
import Derived.Test.YtjgpnbchnenbeaaDoorR2
namespace Go.Proofs.YtjgpnbchnenbeaaDoor
set_option linter.unusedSimpArgs false
set_option linter.unusedVariables false
open Go
open Go.RowKit (Below)

theorem canon_lt {a : Nat} (ha : a < 4294967296) : canon a < 4294967296 := by
  unfold canon
  split
  · decide
  · exact ha
theorem set_front {α : Type} (z v : α) (T : List α) : ∀ m : Nat, (List.replicate (m + 1) z ++ T).set m v = List.replicate m z ++ v :: T
  | 0 => rfl
  | m + 1 => by
    rw [List.replicate_succ, List.cons_append, List.set_cons_succ, set_front z v T m]; rfl
theorem tm16 (q : Nat) : Int.tmod (q : Int) 16 = ((q % 16 : Nat) : Int) := by rw [Int.tmod_eq_emod_of_nonneg (by omega)]; omega
theorem td16 (q : Nat) : Int.tdiv (q : Int) 16 = ((q / 16 : Nat) : Int) := by rw [Int.tdiv_eq_ediv_of_nonneg (by omega)]; omega
theorem u32n (q : Nat) (h : q < 4294967296) : IntKind.u32.wrap (q : Int) = q := IntWalk.u32_in _ (by omega)
set_option maxRecDepth 100000 in
theorem l01Hex_ct (w : World) (a : Nat) (ha : a < 4294967296) : Ct Tryd.prog 124 #[fl a] w (Is (str (txt a)) w) := by
  have hcl := canon_lt ha
  (refine fn_of_W Tryd.func124 rfl (by kernel_rfl) (by kernel_rfl) (Nat.le_of_ble_eq_true (by kernel_rfl)) ?_; (try simp only [RS, RF, cond_true, cond_false, List.nil_append, List.cons_append, List.toList_toArray, Option.isSome_some, Option.map_some, Option.map_none, Nat.reduceBEq, isShift, kEq, fEq, binInt, binFloat, shiftInt, binStr, Tryd.f124]))
  (refine (l01Bits_ct w a).mono ?_; rintro _ w1 ⟨rfl, hw1⟩)
  generalize hc : canon a = c at *
  (try simp only [RS, RF, cond_true, cond_false, List.nil_append, List.cons_append, List.toList_toArray, Option.isSome_some, Option.map_some, Option.map_none, Nat.reduceBEq, isShift, kEq, fEq, binInt, binFloat, shiftInt, binStr])
  refine ⟨_, _, mkS (z := byt 0) (el := 5) (by kernel_rfl) (by kernel_rfl) (by kernel_rfl) rfl w1 8 (by decide), ?_⟩
  (try simp only [RS, RF, cond_true, cond_false, List.nil_append, List.cons_append, List.toList_toArray, Option.isSome_some, Option.map_some, Option.map_none, Nat.reduceBEq, isShift, kEq, fEq, binInt, binFloat, shiftInt, binStr])
  refine loop_W (σ := Nat) (fun j => [(3, .int .u32 ((c / 16 ^ j : Nat) : Int)), (4, .slice (some ⟨w1.heap.size, 0, none⟩) 8 8), (5, .int .i64 (7 - (j : Int)))])
    (fun j w' => j ≤ 8 ∧ w'.heap[w1.heap.size]? = some (.cells (List.replicate (8 - j) (byt 0) ++ (hexs j c).map byt).toArray 5 (0, 0)) ∧ Bl w1 w')
    (fun j => 8 - j) 0 ?_ ⟨by decide, alloc_new w1 _, Bl.alloc _ _⟩ ?_
  · rw [Nat.pow_zero, Nat.div_one]
    exact (agr_cons rfl (agr_cons rfl (agr_cons rfl (agr_nil))))
  rintro j w2 e2 ⟨hj, hblk, hb2⟩
  (try simp only [RS, RF, cond_true, cond_false, List.nil_append, List.cons_append, List.toList_toArray, Option.isSome_some, Option.map_some, Option.map_none, Nat.reduceBEq, isShift, kEq, fEq, binInt, binFloat, shiftInt, binStr])
  intro b1 hb1
  cases b1
  · have hj8 : j = 8 := by have := hb1.symm; simp at this; omega
    subst hj8
    (try simp only [RS, RF, cond_true, cond_false, List.nil_append, List.cons_append, List.toList_toArray, Option.isSome_some, Option.map_some, Option.map_none, Nat.reduceBEq, isShift, kEq, fEq, binInt, binFloat, shiftInt, binStr])
    have hcv := run_convert_bytes_back (P := Tryd.prog) w2 42 9 5 ⟨w1.heap.size, 0, none⟩ 8 (hexs 8 c) (by kernel_rfl) (by kernel_rfl) (by kernel_rfl) (fun i hi => by
      rw [add_off, Nat.zero_add, cell_blk hblk]
      simp [hi, byt])
    rw [hexs_len] at hcv
    refine ⟨_, _, hcv, ?_⟩
    (try simp only [RS, RF, cond_true, cond_false, List.nil_append, List.cons_append, List.toList_toArray, Option.isSome_some, Option.map_some, Option.map_none, Nat.reduceBEq, isShift, kEq, fEq, binInt, binFloat, shiftInt, binStr])
    refine ⟨?_, hw1.trans hb2⟩
    unfold txt
    rw [hc]
  · have hlt : j < 8 := by have := hb1.symm; simp at this; omega
    have hq : c / 16 ^ j < 4294967296 := Nat.lt_of_le_of_lt (Nat.div_le_self _ _) hcl
    (try simp only [RS, RF, cond_true, cond_false, List.nil_append, List.cons_append, List.toList_toArray, Option.isSome_some, Option.map_some, Option.map_none, Nat.reduceBEq, isShift, kEq, fEq, binInt, binFloat, shiftInt, binStr])
    have e1 : Int.tmod ((c / 16 ^ j : Nat) : Int) 16 = ((c / 16 ^ j % 16 : Nat) : Int) := tm16 _
    have e2 : Int.tdiv ((c / 16 ^ j : Nat) : Int) 16 = ((c / 16 ^ (j + 1) : Nat) : Int) := by
      rw [td16, Nat.pow_succ, ← Nat.div_div_eq_div_mul]
    refine ⟨by decide, ?_⟩
    rw [e1]
    (have hr__ := ix_str (P := Tryd.prog) (t := 9) digitsS .u32 (c / 16 ^ j % 16) (dig (c / 16 ^ j % 16)) w2 (by kernel_rfl) (digitsS_get _ (Nat.mod_lt _ (by decide))); refine ⟨_, _, hr__, ?_⟩; clear hr__)
    (try simp only [RS, RF, cond_true, cond_false, List.nil_append, List.cons_append, List.toList_toArray, Option.isSome_some, Option.map_some, Option.map_none, Nat.reduceBEq, isShift, kEq, fEq, binInt, binFloat, shiftInt, binStr])
    refine ⟨by omega, ?_⟩
    have ek : (7 - (j : Int)).toNat = 7 - j := by omega
    rw [ek]
    obtain ⟨w3, hr, hb3, hx3, hs3⟩ := stp (P := Tryd.prog) 5 (7 - j) (byt (dig (c / 16 ^ j % 16))) (by kernel_rfl) rfl hblk (by simp; omega)
    refine ⟨w3, hr, ?_⟩
    (try simp only [RS, RF, cond_true, cond_false, List.nil_append, List.cons_append, List.toList_toArray, Option.isSome_some, Option.map_some, Option.map_none, Nat.reduceBEq, isShift, kEq, fEq, binInt, binFloat, shiftInt, binStr])
    refine ⟨by decide, ?_⟩
    rw [e2, u32n _ (Nat.lt_of_le_of_lt (Nat.div_le_self _ _) hcl), IntWalk.i64_in _ (by omega), show 7 - (j : Int) - 1 = 7 - ((j + 1 : Nat) : Int) by omega]
    refine ⟨j + 1, (agr_cons rfl (agr_cons rfl (agr_cons rfl (agr_nil)))), ⟨hlt, ?_, hb2.new hx3 (Nat.le_refl _)⟩, by omega⟩
    rw [hb3, show 8 - j = (7 - j) + 1 by omega, set_front, show 8 - (j + 1) = 7 - j by omega]
    rfl
def txtL (xs : List Nat) : List (List UInt8) := xs.map fun x => hexs 8 (canon x)
theorem txts_len (xs : List Nat) (sep : List UInt8) (hs : sep.length ≤ 1) : (Lib.join (txtL xs) sep).length ≤ 9 * xs.length := by
  cases xs with
  | nil => exact Nat.zero_le _
  | cons x r =>
    show (Lib.join (hexs 8 (canon x) :: txtL r) sep).length ≤ _
    rw [Lib.join_length]
    have h1 : Lib.lens (hexs 8 (canon x) :: txtL r) ≤ 8 * (hexs 8 (canon x) :: txtL r).length := lens_le (fun l hl => by
      have : l ∈ txtL (x :: r) := hl
      obtain ⟨y, _, rfl⟩ := List.mem_map.1 this
      rw [hexs_len]; exact Nat.le_refl _)
    have h2 : (txtL r).length = r.length := by simp [txtL]
    have h3 : sep.length * (txtL r).length ≤ 1 * (txtL r).length := Nat.mul_le_mul_right _ hs
    simp only [List.length_cons, h2] at *
    omega
set_option maxRecDepth 100000 in
theorem texts_ct (w : World) (sep : ByteArray) (hs : (bs sep).length ≤ 1) (g cap : Nat) (xs : List Nat) (hc : ∀ (k x : Nat), xs[k]? = some x → w.cell? ⟨g, k, none⟩ = some (fl x)) (hx : ∀ x ∈ xs, x < 4294967296) (h1 : 1 ≤ xs.length) (hn : xs.length ≤ 1000) :
    Ct Tryd.prog 75 #[str sep, .slice (some ⟨g, 0, none⟩) xs.length cap] w (Is (str ⟨(Lib.join (txtL xs) (bs sep)).toArray⟩) w) := by
  (refine fn_of_W Tryd.func75 rfl (by kernel_rfl) (by kernel_rfl) (Nat.le_of_ble_eq_true (by kernel_rfl)) ?_; (try simp only [RS, RF, cond_true, cond_false, List.nil_append, List.cons_append, List.toList_toArray, Option.isSome_some, Option.map_some, Option.map_none, Nat.reduceBEq, isShift, kEq, fEq, binInt, binFloat, shiftInt, binStr, Tryd.f75]))
  refine ⟨_, _, bs0 st_85 _, ?_⟩
  (try simp only [RS, RF, cond_true, cond_false, List.nil_append, List.cons_append, List.toList_toArray, Option.isSome_some, Option.map_some, Option.map_none, Nat.reduceBEq, isShift, kEq, fEq, binInt, binFloat, shiftInt, binStr])
  refine loop_W (σ := Nat × Value) (fun t => [(0, str sep), (5, t.2), (9, .slice (some ⟨g, 0, none⟩) xs.length cap), (10, .int .i64 xs.length), (11, .int .i64 t.1)])
    (fun t w' => t.1 ≤ xs.length ∧ w'.ownsRow w.heap.size 9 1 t.2 t.1 (((xs.take t.1).map txt).map str) ∧ Bl w w')
    (fun t => xs.length - t.1) (0, .slice (some ⟨w.heap.size, 0, none⟩) 0 0) (agr_cons rfl (agr_cons rfl (agr_cons rfl (agr_cons rfl (agr_cons rfl (agr_nil)))))) ⟨Nat.zero_le _, own0 w w.heap.size _ _ (Nat.le_refl _), Bl.alloc _ _⟩ ?_
  rintro ⟨k, v⟩ w2 e2 ⟨hk, hown, hb2⟩
  simp only at hk hown
  (try simp only [RS, RF, cond_true, cond_false, List.nil_append, List.cons_append, List.toList_toArray, Option.isSome_some, Option.map_some, Option.map_none, Nat.reduceBEq, isShift, kEq, fEq, binInt, binFloat, shiftInt, binStr])
  intro b1 hb1
  cases b1
  · have hk2 : k = xs.length := by have := hb1.symm; simp at this; omega
    subst hk2
    rw [List.take_length] at hown
    have hl : (xs.map txt).length = xs.length := List.length_map ..
    rcases hown.2 with ⟨rfl, h0⟩ | ⟨g2, cap2, cur, rfl, hB, hg2, hcap, _⟩
    · omega
    have hcells : ∀ (j : Nat) (x : ByteArray), (xs.map txt)[j]? = some x → w2.cell? ⟨g2, j, none⟩ = some (str x) := fun j x hj => by
      have := hown.cells (g := g2) rfl j (str x) (by rw [List.getElem?_map, hj]; rfl)
      rwa [add_off, Nat.zero_add] at this
    have hmap : (xs.map txt).map bs = txtL xs := by
      rw [List.map_map]; unfold txtL; apply List.map_congr_left; intro z _; exact bs_mk _
    have hj := Join_ct w2 g2 cap2 (xs.map txt) sep hcells (Array.getElem?_eq_some_iff.1 hg2).1 (by omega) (by omega) (by
      rw [hmap]
      exact Nat.le_trans (txts_len xs _ hs) (by omega))
    rw [hl, hmap] at hj
    (try simp only [RS, RF, cond_true, cond_false, List.nil_append, List.cons_append, List.toList_toArray, Option.isSome_some, Option.map_some, Option.map_none, Nat.reduceBEq, isShift, kEq, fEq, binInt, binFloat, shiftInt, binStr])
    (refine (hj).mono ?_; rintro _ w3 ⟨rfl, hw3⟩)
    (try simp only [RS, RF, cond_true, cond_false, List.nil_append, List.cons_append, List.toList_toArray, Option.isSome_some, Option.map_some, Option.map_none, Nat.reduceBEq, isShift, kEq, fEq, binInt, binFloat, shiftInt, binStr])
    exact ⟨rfl, hb2.trans hw3⟩
  · have hlt : k < xs.length := by have := hb1.symm; simp at this; omega
    obtain ⟨x, hxk⟩ : ∃ x, xs[k]? = some x := ⟨_, List.getElem?_eq_getElem hlt⟩
    have hxb := hx x (List.mem_of_getElem? hxk)
    (try simp only [RS, RF, cond_true, cond_false, List.nil_append, List.cons_append, List.toList_toArray, Option.isSome_some, Option.map_some, Option.map_none, Nat.reduceBEq, isShift, kEq, fEq, binInt, binFloat, shiftInt, binStr, Int.toNat_natCast])
    refine ⟨by omega, _, ld1 (by kernel_rfl) (hb2.cell (hc k x hxk)), ?_⟩
    (try simp only [RS, RF, cond_true, cond_false, List.nil_append, List.cons_append, List.toList_toArray, Option.isSome_some, Option.map_some, Option.map_none, Nat.reduceBEq, isShift, kEq, fEq, binInt, binFloat, shiftInt, binStr])
    (refine (NumberText_ct w2 x hxb).mono ?_; rintro _ w3 ⟨rfl, hw3⟩)
    (try simp only [RS, RF, cond_true, cond_false, List.nil_append, List.cons_append, List.toList_toArray, Option.isSome_some, Option.map_some, Option.map_none, Nat.reduceBEq, isShift, kEq, fEq, binInt, binFloat, shiftInt, binStr])
    (have hr__ := bs1 st_85 w3 (str (txt x)) rfl (by decide); refine ⟨_, _, hr__, ?_⟩; clear hr__)
    (try simp only [RS, RF, cond_true, cond_false, List.nil_append, List.cons_append, List.toList_toArray, Option.isSome_some, Option.map_some, Option.map_none, Nat.reduceBEq, isShift, kEq, fEq, binInt, binFloat, shiftInt, binStr])
    refine app1 (v := str (txt x)) st_85 (own_bl hown hw3) (hb2.trans hw3).size rfl (by simp [Value.cells, Value.oneCell']) (by omega) (by decide) ?_
    intro s' w4 ho hbel hsz hkeep _
    (try simp only [RS, RF, cond_true, cond_false, List.nil_append, List.cons_append, List.toList_toArray, Option.isSome_some, Option.map_some, Option.map_none, Nat.reduceBEq, isShift, kEq, fEq, binInt, binFloat, shiftInt, binStr])
    rw [IntWalk.i64_in ((k : Int) + 1) (by omega)]
    refine ⟨(k + 1, s'), (agr_cons rfl (agr_cons rfl (agr_cons rfl (agr_cons rfl (agr_cons rfl (agr_nil)))))), ⟨hlt, ?_, (hb2.trans hw3).below' hbel⟩, by show xs.length - (k + 1) < xs.length - k; omega⟩
    show w4.ownsRow _ _ _ s' (k + 1) (((xs.take (k + 1)).map txt).map str)
    rw [List.take_add_one, hxk, List.map_append, List.map_append]
    exact ho
end Go.Proofs.YtjgpnbchnenbeaaDoor
