/- FnExactBoxText, walked. -/
import Derived.Test.YtjgpnbchnenbeaaDoorX3
namespace Go.Proofs.YtjgpnbchnenbeaaDoor
set_option linter.unusedSimpArgs false
set_option linter.unusedVariables false
open Go
open Go.RowKit (Below)

theorem bs_add (s t : ByteArray) : bs (s ++ t) = bs s ++ bs t := by
  show (s ++ t).data.toList = _
  rw [ByteArray.data_append, Array.toList_append]
theorem okB_parts {zs : List Int} (hok : okB zs = true) : (∀ z ∈ zs, 6 ≤ z ∧ z ≤ 200) ∧ zs.length ≤ 24 ∧ 2 ≤ zs.length := by
  unfold okB at hok
  simp only [Bool.and_eq_true, decide_eq_true_eq] at hok
  exact ⟨asc_all zs none hok.1, by omega, by omega⟩
set_option maxRecDepth 100000 in
theorem l05Text_ct (w : World) (g : Nat) (zs : List Int) (h : Iv w g 0 zs) (hok : okB zs = true) : Ct Tryd.prog 68 #[rowV g zs] w (Is (str (boxS zs)) w) := by
  obtain ⟨hall, h24, h2⟩ := okB_parts hok
  (refine fn_of_W Tryd.func68 rfl (by kernel_rfl) (by kernel_rfl) (Nat.le_of_ble_eq_true (by kernel_rfl)) ?_; (try simp only [RS, RF, cond_true, cond_false, List.nil_append, List.cons_append, List.toList_toArray, Option.isSome_some, Option.map_some, Option.map_none, Nat.reduceBEq, isShift, kEq, fEq, binInt, binFloat, shiftInt, binStr, Tryd.f68]))
  obtain ⟨z0, hz0⟩ : ∃ z, zs[0]? = some z := ⟨_, List.getElem?_eq_getElem (by omega)⟩
  have hz0b := hall z0 (List.mem_of_getElem? hz0)
  refine ⟨by omega, _, ld1 (by kernel_rfl) (h.at0 hz0), ?_⟩
  unfold i16
  (try simp only [RS, RF, cond_true, cond_false, List.nil_append, List.cons_append, List.toList_toArray, Option.isSome_some, Option.map_some, Option.map_none, Nat.reduceBEq, isShift, kEq, fEq, binInt, binFloat, shiftInt, binStr])
  rw [IntWalk.i64_in z0 (by omega), show z0 = (z0.toNat : Int) by omega]
  (refine (Decimal_ct 2 z0.toNat (by omega) (by omega) w).mono ?_; rintro _ w1 ⟨rfl, hw1⟩)
  (try simp only [RS, RF, cond_true, cond_false, List.nil_append, List.cons_append, List.toList_toArray, Option.isSome_some, Option.map_some, Option.map_none, Nat.reduceBEq, isShift, kEq, fEq, binInt, binFloat, shiftInt, binStr])
  refine loop_W (σ := Nat × ByteArray) (fun t => [(0, rowV g zs), (3, str t.2), (4, .int .i64 t.1)]) (fun t w' => 1 ≤ t.1 ∧ t.1 ≤ zs.length ∧ bs t.2 = Lib.join (dls (zs.take t.1)) [32] ∧ Bl w w') (fun t => zs.length - t.1) (1, dcs z0.toNat) (agr_cons rfl (agr_cons rfl (agr_cons rfl (agr_nil)))) ?_ ?_
  · refine ⟨Nat.le_refl _, by omega, ?_, hw1⟩
    cases zs with
    | nil => simp at hz0
    | cons x r =>
      simp only [List.getElem?_cons_zero, Option.some.injEq] at hz0
      subst hz0
      show Lib.decDigits x.toNat = Lib.join [Lib.decDigits x.toNat] [32]
      rw [Lib.join_one]
  rintro ⟨k, out⟩ w2 e2 ⟨hk1, hk, hout, hb2⟩
  simp only at hk1 hk hout
  (try simp only [RS, RF, cond_true, cond_false, List.nil_append, List.cons_append, List.toList_toArray, Option.isSome_some, Option.map_some, Option.map_none, Nat.reduceBEq, isShift, kEq, fEq, binInt, binFloat, shiftInt, binStr])
  intro b1 hb1
  cases b1
  · have hk2 : k = zs.length := by have := hb1.symm; simp at this; omega
    subst hk2
    (try simp only [RS, RF, cond_true, cond_false, List.nil_append, List.cons_append, List.toList_toArray, Option.isSome_some, Option.map_some, Option.map_none, Nat.reduceBEq, isShift, kEq, fEq, binInt, binFloat, shiftInt, binStr])
    refine ⟨?_, hb2⟩
    have : out = boxS zs := by
      apply bs_inj
      rw [hout, List.take_length]
      exact (bs_mk _).symm
    rw [this]
  · have hlt : k < zs.length := by have := hb1.symm; simp at this; omega
    obtain ⟨z, hz⟩ : ∃ z, zs[k]? = some z := ⟨_, List.getElem?_eq_getElem hlt⟩
    have hzb := hall z (List.mem_of_getElem? hz)
    (try simp only [RS, RF, cond_true, cond_false, List.nil_append, List.cons_append, List.toList_toArray, Option.isSome_some, Option.map_some, Option.map_none, Nat.reduceBEq, isShift, kEq, fEq, binInt, binFloat, shiftInt, binStr, Int.toNat_natCast])
    refine ⟨by omega, _, ld1 (by kernel_rfl) (hb2.cell (h.at0 hz)), ?_⟩
    unfold i16
    (try simp only [RS, RF, cond_true, cond_false, List.nil_append, List.cons_append, List.toList_toArray, Option.isSome_some, Option.map_some, Option.map_none, Nat.reduceBEq, isShift, kEq, fEq, binInt, binFloat, shiftInt, binStr])
    rw [IntWalk.i64_in z (by omega), show z = (z.toNat : Int) by omega]
    (refine (Decimal_ct 2 z.toNat (by omega) (by omega) w2).mono ?_; rintro _ w3 ⟨rfl, hw3⟩)
    (try simp only [RS, RF, cond_true, cond_false, List.nil_append, List.cons_append, List.toList_toArray, Option.isSome_some, Option.map_some, Option.map_none, Nat.reduceBEq, isShift, kEq, fEq, binInt, binFloat, shiftInt, binStr])
    have hd : (dcs z.toNat).size ≤ 201 := dec_le201 hzb.2
    have hs1 : (ByteArray.mk #[32]).size = 1 := rfl
    have hso : out.size ≤ 300 * k := by
      have h1 : (bs out).length = out.size := bs_len out
      have h2 := box_len (zs := zs.take k) (fun z hz => hall z (List.mem_of_mem_take hz))
      rw [hout] at h1
      have h3 : (zs.take k).length = k := by simp; omega
      rw [h3] at h2
      omega
    refine ⟨by omega, ?_⟩
    have hsz : (ByteArray.mk #[32] ++ dcs z.toNat).size = 1 + (dcs z.toNat).size := by rw [ByteArray.size_append]; rfl
    refine ⟨by omega, ?_⟩
    rw [IntWalk.i64_in ((k : Int) + 1) (by omega)]
    refine ⟨(k + 1, out ++ (ByteArray.mk #[32] ++ dcs z.toNat)), (agr_cons rfl (agr_cons rfl (agr_cons rfl (agr_nil)))), ⟨by show 1 ≤ k + 1; omega, hlt, ?_, hb2.trans hw3⟩, by show zs.length - (k + 1) < zs.length - k; omega⟩
    show bs (out ++ (ByteArray.mk #[32] ++ dcs z.toNat)) = Lib.join (dls (zs.take (k + 1))) [32]
    rw [bs_add, bs_add, hout, join_snoc hz hk1]
    rfl
set_option maxRecDepth 100000 in
theorem SBoxText_ct (w : World) (g : Nat) (zs : List Int) (h : Iv w g 0 zs) (hn : zs.length ≤ 1048576) : Ct Tryd.prog 13 #[rowV g zs] w (Is (str (if okB zs = true then boxS zs else ⟨#[]⟩)) w) := by
  (refine fn_of_W Tryd.func13 rfl (by kernel_rfl) (by kernel_rfl) (Nat.le_of_ble_eq_true (by kernel_rfl)) ?_; (try simp only [RS, RF, cond_true, cond_false, List.nil_append, List.cons_append, List.toList_toArray, Option.isSome_some, Option.map_some, Option.map_none, Nat.reduceBEq, isShift, kEq, fEq, binInt, binFloat, shiftInt, binStr, Tryd.f13]))
  (refine (l05Ok_ct w g zs h hn).mono ?_; rintro _ w1 ⟨rfl, hw1⟩)
  cases hok : okB zs
  · (try simp only [RS, RF, cond_true, cond_false, List.nil_append, List.cons_append, List.toList_toArray, Option.isSome_some, Option.map_some, Option.map_none, Nat.reduceBEq, isShift, kEq, fEq, binInt, binFloat, shiftInt, binStr])
    exact ⟨rfl, hw1⟩
  · (try simp only [RS, RF, cond_true, cond_false, List.nil_append, List.cons_append, List.toList_toArray, Option.isSome_some, Option.map_some, Option.map_none, Nat.reduceBEq, isShift, kEq, fEq, binInt, binFloat, shiftInt, binStr])
    (refine (l05Text_ct w1 g zs (h.bl hw1) hok).mono ?_; rintro _ w2 ⟨rfl, hw2⟩)
    (try simp only [RS, RF, cond_true, cond_false, List.nil_append, List.cons_append, List.toList_toArray, Option.isSome_some, Option.map_some, Option.map_none, Nat.reduceBEq, isShift, kEq, fEq, binInt, binFloat, shiftInt, binStr])
    exact ⟨rfl, hw1.trans hw2⟩
set_option maxRecDepth 100000 in
theorem FnExactBoxText_ct (w : World) (a : Option Addr) (b o cap : Nat) (zs : List Int) (h : Iv w b o zs) (ha : 0 < zs.length → a = some ⟨b, o, none⟩) (ht : Tab w) :
    Ct Tryd.prog 4 #[ivV a cap zs] w (Is (.bool true) w) := by
  unfold ivV
  (refine fn_of_W Tryd.func4 rfl (by kernel_rfl) (by kernel_rfl) (Nat.le_of_ble_eq_true (by kernel_rfl)) ?_; (try simp only [RS, RF, cond_true, cond_false, List.nil_append, List.cons_append, List.toList_toArray, Option.isSome_some, Option.map_some, Option.map_none, Nat.reduceBEq, isShift, kEq, fEq, binInt, binFloat, shiftInt, binStr, Tryd.f4]))
  intro b0 hb0
  cases b0
  · have hn : zs.length ≤ 1048576 := by have := hb0.symm; simp at this; omega
    (try simp only [RS, RF, cond_true, cond_false, List.nil_append, List.cons_append, List.toList_toArray, Option.isSome_some, Option.map_some, Option.map_none, Nat.reduceBEq, isShift, kEq, fEq, binInt, binFloat, shiftInt, binStr])
    (refine (toInt16S_ct w a b o cap zs h ha hn).mono ?_; rintro _ w1 ⟨g1, rfl, h1, hw1⟩)
    (try simp only [RS, RF, cond_true, cond_false, List.nil_append, List.cons_append, List.toList_toArray, Option.isSome_some, Option.map_some, Option.map_none, Nat.reduceBEq, isShift, kEq, fEq, binInt, binFloat, shiftInt, binStr])
    (refine (SBoxText_ct w1 g1 zs h1 hn).mono ?_; rintro _ w2 ⟨rfl, hw2⟩)
    (try simp only [RS, RF, cond_true, cond_false, List.nil_append, List.cons_append, List.toList_toArray, Option.isSome_some, Option.map_some, Option.map_none, Nat.reduceBEq, isShift, kEq, fEq, binInt, binFloat, shiftInt, binStr])
    have hb2 := hw1.trans hw2
    (refine (toInt16S_ct w2 a b o cap zs (h.bl hb2) ha hn).mono ?_; rintro _ w3 ⟨g2, rfl, h2, hw3⟩)
    (try simp only [RS, RF, cond_true, cond_false, List.nil_append, List.cons_append, List.toList_toArray, Option.isSome_some, Option.map_some, Option.map_none, Nat.reduceBEq, isShift, kEq, fEq, binInt, binFloat, shiftInt, binStr])
    (refine (BoxText_ct w3 g2 zs h2 hn ((ht.bl hb2).bl hw3)).mono ?_; rintro _ w4 ⟨rfl, hw4⟩)
    (try simp only [RS, RF, cond_true, cond_false, List.nil_append, List.cons_append, List.toList_toArray, Option.isSome_some, Option.map_some, Option.map_none, Nat.reduceBEq, isShift, kEq, fEq, binInt, binFloat, shiftInt, binStr])
    intro b1 hb1
    have : b1 = false := by rw [hb1]; simp
    subst this
    (try simp only [RS, RF, cond_true, cond_false, List.nil_append, List.cons_append, List.toList_toArray, Option.isSome_some, Option.map_some, Option.map_none, Nat.reduceBEq, isShift, kEq, fEq, binInt, binFloat, shiftInt, binStr])
    have hb4 := (hb2.trans hw3).trans hw4
    (refine (toInt16S_ct w4 a b o cap zs (h.bl hb4) ha hn).mono ?_; rintro _ w5 ⟨g3, rfl, h3, hw5⟩)
    (try simp only [RS, RF, cond_true, cond_false, List.nil_append, List.cons_append, List.toList_toArray, Option.isSome_some, Option.map_some, Option.map_none, Nat.reduceBEq, isShift, kEq, fEq, binInt, binFloat, shiftInt, binStr])
    (refine (eqInt16S_ct w5 g2 g3 zs ((h2.bl hw4).bl hw5) h3 hn).mono ?_; rintro _ w6 ⟨rfl, hw6⟩)
    (try simp only [RS, RF, cond_true, cond_false, List.nil_append, List.cons_append, List.toList_toArray, Option.isSome_some, Option.map_some, Option.map_none, Nat.reduceBEq, isShift, kEq, fEq, binInt, binFloat, shiftInt, binStr])
    exact ⟨rfl, (hb4.trans hw5).trans hw6⟩
  · (try simp only [RS, RF, cond_true, cond_false, List.nil_append, List.cons_append, List.toList_toArray, Option.isSome_some, Option.map_some, Option.map_none, Nat.reduceBEq, isShift, kEq, fEq, binInt, binFloat, shiftInt, binStr])
    exact ⟨rfl, Bl.refl w⟩
end Go.Proofs.YtjgpnbchnenbeaaDoor
