/- Boxes: rows of small wheels; copies; what is valid. -/
import Derived.Test.YtjgpnbchnenbeaaDoorX0
import Derived.Test.YtjgpnbchnenbeaaDoorWE
import Derived.Laws.MakeOwn
namespace Go.Proofs.YtjgpnbchnenbeaaDoor
set_option linter.unusedSimpArgs false
set_option linter.unusedVariables false
open Go
open Go.RowKit (Below)

set_option maxRecDepth 100000 in
theorem within_ct (w : World) (n lo hi : Int) : Ct Tryd.prog 109 #[.int .i64 n, .int .i64 lo, .int .i64 hi] w (Is (.bool (decide (lo ≤ n) && decide (n ≤ hi))) w) := by
  (refine fn_of_W Tryd.func109 rfl (by kernel_rfl) (by kernel_rfl) (Nat.le_of_ble_eq_true (by kernel_rfl)) ?_; (try simp only [RS, RF, cond_true, cond_false, List.nil_append, List.cons_append, List.toList_toArray, Option.isSome_some, Option.map_some, Option.map_none, Nat.reduceBEq, isShift, kEq, fEq, binInt, binFloat, shiftInt, binStr, Tryd.f109]))
  intro b hb
  cases b
  · (try simp only [RS, RF, cond_true, cond_false, List.nil_append, List.cons_append, List.toList_toArray, Option.isSome_some, Option.map_some, Option.map_none, Nat.reduceBEq, isShift, kEq, fEq, binInt, binFloat, shiftInt, binStr])
    rw [← hb]
    exact ⟨rfl, Bl.refl w⟩
  · (try simp only [RS, RF, cond_true, cond_false, List.nil_append, List.cons_append, List.toList_toArray, Option.isSome_some, Option.map_some, Option.map_none, Nat.reduceBEq, isShift, kEq, fEq, binInt, binFloat, shiftInt, binStr])
    intro b2 hb2
    rw [← hb]
    exact ⟨by rw [hb2]; rfl, Bl.refl w⟩
set_option maxRecDepth 100000 in
theorem in_ct (w : World) (n lo hi : Int) : Ct Tryd.prog 117 #[.int .i64 n, .int .i64 lo, .int .i64 hi] w (Is (.bool (decide (lo ≤ n) && decide (n ≤ hi))) w) := by
  (refine fn_of_W Tryd.func117 rfl (by kernel_rfl) (by kernel_rfl) (Nat.le_of_ble_eq_true (by kernel_rfl)) ?_; (try simp only [RS, RF, cond_true, cond_false, List.nil_append, List.cons_append, List.toList_toArray, Option.isSome_some, Option.map_some, Option.map_none, Nat.reduceBEq, isShift, kEq, fEq, binInt, binFloat, shiftInt, binStr, Tryd.f117]))
  intro b hb
  have hge : decide (n ≥ lo) = decide (lo ≤ n) := rfl
  rw [hge] at hb
  cases b
  · (try simp only [RS, RF, cond_true, cond_false, List.nil_append, List.cons_append, List.toList_toArray, Option.isSome_some, Option.map_some, Option.map_none, Nat.reduceBEq, isShift, kEq, fEq, binInt, binFloat, shiftInt, binStr])
    rw [← hb]
    exact ⟨rfl, Bl.refl w⟩
  · (try simp only [RS, RF, cond_true, cond_false, List.nil_append, List.cons_append, List.toList_toArray, Option.isSome_some, Option.map_some, Option.map_none, Nat.reduceBEq, isShift, kEq, fEq, binInt, binFloat, shiftInt, binStr])
    intro b2 hb2
    rw [← hb]
    exact ⟨by rw [hb2]; rfl, Bl.refl w⟩
def teeth (z : Int) : Bool := decide (6 ≤ z) && decide (z ≤ 200)
set_option maxRecDepth 100000 in
theorem areTeeth_ct (w : World) (n : Int) : Ct Tryd.prog 119 #[.int .i64 n] w (Is (.bool (teeth n)) w) := by
  (refine fn_of_W Tryd.func119 rfl (by kernel_rfl) (by kernel_rfl) (Nat.le_of_ble_eq_true (by kernel_rfl)) ?_; (try simp only [RS, RF, cond_true, cond_false, List.nil_append, List.cons_append, List.toList_toArray, Option.isSome_some, Option.map_some, Option.map_none, Nat.reduceBEq, isShift, kEq, fEq, binInt, binFloat, shiftInt, binStr, Tryd.f119]))
  (refine (within_ct w n 6 200).mono ?_; rintro _ w1 ⟨rfl, hw1⟩)
  (try simp only [RS, RF, cond_true, cond_false, List.nil_append, List.cons_append, List.toList_toArray, Option.isSome_some, Option.map_some, Option.map_none, Nat.reduceBEq, isShift, kEq, fEq, binInt, binFloat, shiftInt, binStr])
  exact ⟨rfl, hw1⟩
set_option maxRecDepth 100000 in
theorem l01Teeth_ct (w : World) (n : Int) : Ct Tryd.prog 116 #[.int .i64 n] w (Is (.bool (teeth n)) w) := by
  (refine fn_of_W Tryd.func116 rfl (by kernel_rfl) (by kernel_rfl) (Nat.le_of_ble_eq_true (by kernel_rfl)) ?_; (try simp only [RS, RF, cond_true, cond_false, List.nil_append, List.cons_append, List.toList_toArray, Option.isSome_some, Option.map_some, Option.map_none, Nat.reduceBEq, isShift, kEq, fEq, binInt, binFloat, shiftInt, binStr, Tryd.f116]))
  (refine (in_ct w n 6 200).mono ?_; rintro _ w1 ⟨rfl, hw1⟩)
  (try simp only [RS, RF, cond_true, cond_false, List.nil_append, List.cons_append, List.toList_toArray, Option.isSome_some, Option.map_some, Option.map_none, Nat.reduceBEq, isShift, kEq, fEq, binInt, binFloat, shiftInt, binStr])
  exact ⟨rfl, hw1⟩

/-! ### Rows of int16 -/
def i16 (z : Int) : Value := .int .i16 z
structure Iv (w : World) (b o : Nat) (zs : List Int) : Prop where
  cell : ∀ (k : Nat) (z : Int), zs[k]? = some z → w.cell? ⟨b, o + k, none⟩ = some (i16 z)
  small : ∀ z ∈ zs, -32768 ≤ z ∧ z ≤ 32767
theorem Iv.bl {w w' : World} {b o : Nat} {zs : List Int} (h : Iv w b o zs) (hb : Bl w w') : Iv w' b o zs := ⟨fun k z hk => hb.cell (h.cell k z hk), h.small⟩
/-- a slice's value: nil only if it is empty -/
def ivV (a : Option Addr) (cap : Nat) (zs : List Int) : Value := .slice a zs.length cap
/-- a copy's value -/
abbrev rowV (g : Nat) (zs : List Int) : Value := .slice (some ⟨g, 0, none⟩) zs.length zs.length
theorem mkS {P : Program} {t el : Nat} {z : Value} (ht : P.underlying t = some (.slice el)) (h : (P.info? el).map (fun i => (i.zero, i.size)) = some (some z, 1)) (hb : (P.info? el).any (fun i => Nat.ble i.bytes 1000) = true) (hz : z.cells = #[z]) (w : World) (n : Nat) (hn : n ≤ 1048576) :
    (Instr.makeSlice t (.int .i64 n) (.int .i64 n)).run P w = .ok (.slice (some ⟨w.heap.size, 0, none⟩) n n) (w.alloc (.cells (List.replicate n z).toArray el)) := by
  cases hi : P.info? el with
  | none => rw [hi] at h; cases h
  | some i =>
    rw [hi] at h hb
    simp only [Option.map_some, Option.some.injEq, Prod.mk.injEq] at h
    have hb : i.bytes ≤ 1000 := by simpa using hb
    have hbb : i.bytes * n ≤ 1000 * 1048576 := Nat.mul_le_mul hb hn
    have := run_make (P := P) w t el i z ht hi h.1 .i64 .i64 n n (by omega) (Int.le_refl _) (by
      have : ((i.bytes * n : Nat) : Int) ≤ 281474976710656 := by omega
      rwa [Int.natCast_mul] at this) (by omega)
    simp only [Int.toNat_natCast, h.2, Nat.mul_one, hz] at this
    rw [this]
    have e : madeCells #[z] n = (List.replicate n z).toArray := by
      apply Array.toList_inj.1
      apply List.ext_getElem?
      intro j
      by_cases hj : j < n
      · simp [madeCells, hj, Nat.mod_one]
      · simp [madeCells, hj]
    rw [e]
theorem set_mid {α : Type} (A : List α) (z v : α) (m : Nat) : (A ++ List.replicate (m + 1) z).set A.length v = A ++ [v] ++ List.replicate m z := by
  rw [List.set_append_right _ _ (Nat.le_refl _), Nat.sub_self, List.replicate_succ, List.set_cons_zero, List.append_assoc]; rfl
set_option maxRecDepth 100000 in
theorem toInt16S_ct (w : World) (a : Option Addr) (b o cap : Nat) (zs : List Int) (h : Iv w b o zs) (ha : 0 < zs.length → a = some ⟨b, o, none⟩) (hn : zs.length ≤ 1048576) :
    Ct Tryd.prog 14 #[ivV a cap zs] w (fun v w' => ∃ g, v = rowV g zs ∧ Iv w' g 0 zs ∧ Bl w w') := by
  unfold ivV
  (refine fn_of_W Tryd.func14 rfl (by kernel_rfl) (by kernel_rfl) (Nat.le_of_ble_eq_true (by kernel_rfl)) ?_; (try simp only [RS, RF, cond_true, cond_false, List.nil_append, List.cons_append, List.toList_toArray, Option.isSome_some, Option.map_some, Option.map_none, Nat.reduceBEq, isShift, kEq, fEq, binInt, binFloat, shiftInt, binStr, Tryd.f14]))
  refine ⟨_, _, mkS (z := i16 0) (el := 69) (by kernel_rfl) (by kernel_rfl) (by kernel_rfl) rfl w zs.length hn, ?_⟩
  (try simp only [RS, RF, cond_true, cond_false, List.nil_append, List.cons_append, List.toList_toArray, Option.isSome_some, Option.map_some, Option.map_none, Nat.reduceBEq, isShift, kEq, fEq, binInt, binFloat, shiftInt, binStr])
  refine loop_W (σ := Nat) (fun k => [(0, .slice a zs.length cap), (3, .slice (some ⟨w.heap.size, 0, none⟩) zs.length zs.length), (4, .int .i64 k)])
    (fun k w' => k ≤ zs.length ∧ w'.heap[w.heap.size]? = some (.cells (((zs.take k).map i16) ++ List.replicate (zs.length - k) (i16 0)).toArray 69 (0, 0)) ∧ Bl w w')
    (fun k => zs.length - k) 0 (agr_cons rfl (agr_cons rfl (agr_cons rfl (agr_nil)))) ⟨Nat.zero_le _, alloc_new w _, Bl.alloc _ _⟩ ?_
  rintro k w2 e2 ⟨hk, hblk, hb2⟩
  (try simp only [RS, RF, cond_true, cond_false, List.nil_append, List.cons_append, List.toList_toArray, Option.isSome_some, Option.map_some, Option.map_none, Nat.reduceBEq, isShift, kEq, fEq, binInt, binFloat, shiftInt, binStr])
  intro b1 hb1
  cases b1
  · have hk2 : k = zs.length := by have := hb1.symm; simp at this; omega
    subst hk2
    (try simp only [RS, RF, cond_true, cond_false, List.nil_append, List.cons_append, List.toList_toArray, Option.isSome_some, Option.map_some, Option.map_none, Nat.reduceBEq, isShift, kEq, fEq, binInt, binFloat, shiftInt, binStr])
    refine ⟨w.heap.size, rfl, ⟨fun k z hk => ?_, h.small⟩, hb2⟩
    rw [List.take_length, Nat.sub_self, List.replicate_zero, List.append_nil] at hblk
    rw [cell_blk hblk, Nat.zero_add]
    simp [hk]
  · have hlt : k < zs.length := by have := hb1.symm; simp at this; omega
    have hat := ha (by omega)
    subst hat
    obtain ⟨z, hz⟩ : ∃ z, zs[k]? = some z := ⟨_, List.getElem?_eq_getElem hlt⟩
    (try simp only [RS, RF, cond_true, cond_false, List.nil_append, List.cons_append, List.toList_toArray, Option.isSome_some, Option.map_some, Option.map_none, Nat.reduceBEq, isShift, kEq, fEq, binInt, binFloat, shiftInt, binStr, if_true, Int.toNat_natCast])
    refine ⟨by omega, _, ld1 (by kernel_rfl) (hb2.cell (h.cell k z hz)), by omega, ?_⟩
    obtain ⟨w3, hr, hb3, hx3, hs3⟩ := stp (P := Tryd.prog) 69 k (i16 z) (by kernel_rfl) rfl hblk (by simp; omega)
    refine ⟨w3, hr, ?_⟩
    (try simp only [RS, RF, cond_true, cond_false, List.nil_append, List.cons_append, List.toList_toArray, Option.isSome_some, Option.map_some, Option.map_none, Nat.reduceBEq, isShift, kEq, fEq, binInt, binFloat, shiftInt, binStr])
    rw [IntWalk.i64_in ((k : Int) + 1) (by omega)]
    refine ⟨k + 1, (agr_cons rfl (agr_cons rfl (agr_cons rfl (agr_nil)))), ⟨hlt, ?_, hb2.new hx3 (Nat.le_refl _)⟩, by omega⟩
    rw [hb3]
    have e : zs.length - k = (zs.length - (k + 1)) + 1 := by omega
    have hl : k = ((zs.take k).map i16).length := by simp; omega
    rw [e]
    conv => lhs; rw [show List.set ((zs.take k).map i16 ++ List.replicate (zs.length - (k + 1) + 1) (i16 0)) k (i16 z) = List.set ((zs.take k).map i16 ++ List.replicate (zs.length - (k + 1) + 1) (i16 0)) ((zs.take k).map i16).length (i16 z) by rw [← hl]]
    rw [set_mid, List.take_add_one, hz, List.map_append]
    rfl
end Go.Proofs.YtjgpnbchnenbeaaDoor
