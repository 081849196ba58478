/- Texts: contracts of strings' operations, of numbers' texts, of numbers that are read. -/
import Derived.Test.YtjgpnbchnenbeaaDoorR0
import Derived.Test.YtjgpnbchnenbeaaDoorK0
import Derived.Test.YtjgpnbchnenbeaaDoorM1
import Derived.Test.YtjgpnbchnenbeaaDoorS0
namespace Go.Proofs.YtjgpnbchnenbeaaDoor
set_option linter.unusedSimpArgs false
set_option linter.unusedVariables false
open Go
open Go.RowKit (Below)

/-! ### Strings -/
abbrev bs (s : ByteArray) : List UInt8 := s.data.toList
theorem ix_str {P : Program} {t : TypeId} (s : ByteArray) (k : IntKind) (i : Nat) (b : UInt8) (w : World) (h : P.underlying t = some .string) (hb : (bs s)[i]? = some b) :
    (Instr.index t (.string s) (.int k i)).run P w = .ok (.int .u8 b.toNat) w := by
  have hi : i < s.size := by
    rcases Nat.lt_or_ge i s.size with h | h
    · exact h
    · rw [List.getElem?_eq_none (by simpa using h)] at hb; cases hb
  rw [run_index_string w t s k i h, dif_pos ⟨by omega, by omega⟩]
  have e : s[(i : Int).toNat]'(by omega) = b := by
    have h1 : (bs s)[i]? = some (s.data[i]'(by simpa using hi)) := by simp [bs]
    rw [h1] at hb
    exact Option.some.inj hb
  rw [e]
theorem sl_str {P : Program} {t : TypeId} (s : ByteArray) (i j : Nat) (w : World) (h : P.underlying t = some .string) (h1 : i ≤ j) (h2 : j ≤ s.size) :
    (Instr.sliceAt t (.string s) (some (.int .i64 i)) (some (.int .i64 j)) none).run P w = .ok (.string (s.extract i j)) w := by
  rw [run_sliceAt_string w t _ _ _ _ h, run_slice_string w t s .i64 .i64 i j h (by omega) (by omega) (by omega)]; simp
theorem sl_from {P : Program} {t : TypeId} (s : ByteArray) (i : Nat) (w : World) (h : P.underlying t = some .string) (h2 : i ≤ s.size) :
    (Instr.sliceAt t (.string s) (some (.int .i64 i)) none none).run P w = .ok (.string (s.extract i s.size)) w := by
  rw [run_sliceAt_string w t _ _ _ _ h, run_slice_string_l w t s h .i64 i (by omega) (by omega)]; simp
theorem bs_extract (s : ByteArray) (i j : Nat) : bs (s.extract i j) = ((bs s).drop i).take (j - i) := Lib.extract_data s i j
theorem bs_len (s : ByteArray) : (bs s).length = s.size := (Lib.size_eq s).symm
theorem bs_mk (l : List UInt8) : bs ⟨l.toArray⟩ = l := by simp [bs]
theorem bs_inj {s t : ByteArray} (h : bs s = bs t) : s = t := by
  cases s; cases t
  congr 1
  exact Array.toList_inj.1 h
theorem str_eq (s t : ByteArray) : (s.toList == t.toList) = decide (bs s = bs t) := by
  rw [ByteArray.toList_eq, ByteArray.toList_eq, Bool.eq_iff_iff]
  simp [bs]

/-! ### Bits -/
theorem and15 (x : Nat) (h : x < 4294967296) : bitsV .and .u32 x 15 = ((x % 16 : Nat) : Int) := by
  have e1 : (BitVec.ofInt 32 (x : Int) &&& BitVec.ofInt 32 15).toNat = x % 16 := by
    rw [BitVec.toNat_and, BitVec.ofInt_natCast, BitVec.toNat_ofNat]
    have e2 : (BitVec.ofInt 32 15).toNat = 2 ^ 4 - 1 := by decide
    rw [e2, Nat.and_two_pow_sub_one_eq_mod, Nat.mod_eq_of_lt h]
  show IntKind.u32.wrap (((BitVec.ofInt IntKind.u32.bits (x : Int)) &&& (BitVec.ofInt IntKind.u32.bits 15)).toNat : Int) = _
  have eb : IntKind.u32.bits = 32 := rfl
  rw [eb, e1]
  exact IntWalk.u32_in _ (by omega)
theorem or16 (n d : Nat) (h : n * 16 < 4294967296) (hd : d < 16) : bitsV .or .u32 ((n * 16 : Nat) : Int) (d : Int) = ((n * 16 + d : Nat) : Int) := by
  have e1 : (BitVec.ofInt 32 ((n * 16 : Nat) : Int) ||| BitVec.ofInt 32 (d : Int)).toNat = n * 16 + d := by
    rw [BitVec.toNat_or, BitVec.ofInt_natCast, BitVec.ofInt_natCast, BitVec.toNat_ofNat, BitVec.toNat_ofNat, Nat.mod_eq_of_lt h, Nat.mod_eq_of_lt (by omega)]
    have := Nat.two_pow_add_eq_or_of_lt (i := 4) (b := d) (by omega) n
    rw [show n * 16 = 2 ^ 4 * n by omega, ← this]
  show IntKind.u32.wrap (((BitVec.ofInt IntKind.u32.bits ((n * 16 : Nat) : Int)) ||| (BitVec.ofInt IntKind.u32.bits (d : Int))).toNat : Int) = _
  have eb : IntKind.u32.bits = 32 := rfl
  rw [eb, e1]
  exact IntWalk.u32_in _ (by omega)
theorem fdiv_nat (x m : Nat) : (x : Int).fdiv (2 ^ m) = ((x / 2 ^ m : Nat) : Int) := by
  rw [Int.fdiv_eq_ediv_of_nonneg _ (by
    have := Nat.two_pow_pos m
    have e : (2 : Int) ^ m = ((2 ^ m : Nat) : Int) := by simp
    rw [e]; omega)]
  simp

/-! ### Digits -/
def digitsS : ByteArray := { data := #[48, 49, 50, 51, 52, 53, 54, 55, 56, 57, 97, 98, 99, 100, 101, 102] }
theorem digitsS_get : ∀ d, d < 16 → (bs digitsS)[d]? = some (dig d) := by decide
def ixAll : Bool := (List.range 256).all fun n => Lib.indexByte (bs digitsS) (UInt8.ofNat n) == match hexd (UInt8.ofNat n) with | some d => (d : Int) | none => -1
theorem ixAll_t : ixAll = true := by kernel_rfl
theorem ix_hexd (b : UInt8) : Lib.indexByte (bs digitsS) b = match hexd b with | some d => (d : Int) | none => -1 := by
  have h := List.all_eq_true.1 ixAll_t b.toNat (List.mem_range.2 b.toNat_lt)
  rw [UInt8.ofNat_toNat] at h
  exact beq_iff_eq.1 h

def canon (a : Nat) : Nat := if isNan .f32 a = true then 2143289344 else a
def txt (a : Nat) : ByteArray := ⟨(hexs 8 (canon a)).toArray⟩
def byt (b : UInt8) : Value := .int .u8 b.toNat
theorem bsE : (ByteArray.mk #[55, 102, 99, 48, 48, 48, 48, 48]) = ⟨(hexs 8 2143289344).toArray⟩ := by
  apply bs_inj; decide
theorem own_byt {w : World} {B el n : Nat} {v : Value} {S : List UInt8} (h : w.ownsRow B el 1 v n (S.map byt)) (h1 : 1 ≤ S.length) : ∃ g cap, v = .slice (some ⟨g, 0, none⟩) n cap ∧ (∀ k b, S[k]? = some b → w.cell? ⟨g, k, none⟩ = some (byt b)) ∧ B ≤ g := by
  have hl : S.length = n := by simpa using h.1
  rcases h.2 with ⟨rfl, rfl⟩ | ⟨g, cap, cur, rfl, hB, _⟩
  · omega
  · refine ⟨g, cap, rfl, fun k b hk => ?_, hB⟩
    have := h.cells (g := g) rfl k (byt b) (by rw [List.getElem?_map, hk]; rfl)
    rwa [add_off, Nat.zero_add] at this
theorem hexs_get {n : Nat} : ∀ k j, j < k → (hexs k n)[j]? = some (dig (n / 16 ^ (k - 1 - j) % 16))
  | 0, j, h => absurd h (Nat.not_lt_zero j)
  | k + 1, 0, _ => rfl
  | k + 1, j + 1, h => by
    show (hexs k n)[j]? = _
    rw [hexs_get k j (by omega), show k + 1 - 1 - (j + 1) = k - 1 - j by omega]
set_option maxRecDepth 100000 in
theorem NumberText_ct (w : World) (a : Nat) (ha : a < 4294967296) : Ct Tryd.prog 125 #[fl a] w (Is (str (txt a)) w) := by
  (refine fn_of_W Tryd.func125 rfl (by kernel_rfl) (by kernel_rfl) (Nat.le_of_ble_eq_true (by kernel_rfl)) ?_; (try simp only [RS, RF, cond_true, cond_false, List.nil_append, List.cons_append, List.toList_toArray, Option.isSome_some, Option.map_some, Option.map_none, Nat.reduceBEq, isShift, kEq, fEq, binInt, binFloat, shiftInt, binStr, Tryd.f125]))
  have e := fne_self' .f32 a
  cases hn : isNan .f32 a
  · rw [hn] at e
    (try simp only [RS, RF, cond_true, cond_false, List.nil_append, List.cons_append, List.toList_toArray, Option.isSome_some, Option.map_some, Option.map_none, Nat.reduceBEq, isShift, kEq, fEq, binInt, binFloat, shiftInt, binStr, forall_eq, e])
    (refine (f32bits_ct w a).mono ?_; rintro _ w1 ⟨rfl, hw1⟩)
    (try simp only [RS, RF, cond_true, cond_false, List.nil_append, List.cons_append, List.toList_toArray, Option.isSome_some, Option.map_some, Option.map_none, Nat.reduceBEq, isShift, kEq, fEq, binInt, binFloat, shiftInt, binStr])
    refine ⟨_, _, bs0 st_42 _, ?_⟩
    (try simp only [RS, RF, cond_true, cond_false, List.nil_append, List.cons_append, List.toList_toArray, Option.isSome_some, Option.map_some, Option.map_none, Nat.reduceBEq, isShift, kEq, fEq, binInt, binFloat, shiftInt, binStr])
    refine loop_W (σ := Nat × Value) (fun s => [(3, .int .u32 a), (4, s.2), (5, .int .i64 (28 - 4 * (s.1 : Int)))])
      (fun s w' => s.1 ≤ 8 ∧ w'.ownsRow w1.heap.size 5 1 s.2 s.1 (((hexs 8 a).take s.1).map byt) ∧ Bl w1 w')
      (fun s => 8 - s.1) (0, .slice (some ⟨w1.heap.size, 0, none⟩) 0 0) (agr_cons rfl (agr_cons rfl (agr_cons rfl (agr_nil)))) ?_ ?_
    · exact ⟨Nat.zero_le _, own0 w1 w1.heap.size _ _ (Nat.le_refl _), Bl.alloc _ _⟩
    · rintro ⟨k, v⟩ w2 e2 ⟨hk, hown, hb2⟩
      simp only at hk hown
      (try simp only [RS, RF, cond_true, cond_false, List.nil_append, List.cons_append, List.toList_toArray, Option.isSome_some, Option.map_some, Option.map_none, Nat.reduceBEq, isShift, kEq, fEq, binInt, binFloat, shiftInt, binStr])
      intro b1 hb1
      cases b1
      · have hk8 : k = 8 := by have := hb1.symm; simp at this; omega
        subst hk8
        (try simp only [RS, RF, cond_true, cond_false, List.nil_append, List.cons_append, List.toList_toArray, Option.isSome_some, Option.map_some, Option.map_none, Nat.reduceBEq, isShift, kEq, fEq, binInt, binFloat, shiftInt, binStr])
        have ht : (hexs 8 a).take 8 = hexs 8 a := List.take_of_length_le (by rw [hexs_len]; exact Nat.le_refl _)
        rw [ht] at hown
        obtain ⟨g, cap, rfl, hg, _⟩ := own_byt hown (by rw [hexs_len]; omega)
        have hcv := run_convert_bytes_back (P := Tryd.prog) w2 42 9 5 ⟨g, 0, none⟩ cap (hexs 8 a) (by kernel_rfl) (by kernel_rfl) (by kernel_rfl) (fun j hj => by rw [add_off, Nat.zero_add]; exact hg j _ (List.getElem?_eq_getElem hj))
        rw [hexs_len] at hcv
        refine ⟨_, _, hcv, ?_⟩
        (try simp only [RS, RF, cond_true, cond_false, List.nil_append, List.cons_append, List.toList_toArray, Option.isSome_some, Option.map_some, Option.map_none, Nat.reduceBEq, isShift, kEq, fEq, binInt, binFloat, shiftInt, binStr])
        refine ⟨?_, hw1.trans hb2⟩
        unfold txt canon
        rw [hn]; rfl
      · have hlt : k < 8 := by have := hb1.symm; simp at this; omega
        (try simp only [RS, RF, cond_true, cond_false, List.nil_append, List.cons_append, List.toList_toArray, Option.isSome_some, Option.map_some, Option.map_none, Nat.reduceBEq, isShift, kEq, fEq, binInt, binFloat, shiftInt, binStr])
        have e5 : (min (28 - 4 * (k : Int)).toNat IntKind.u32.bits) = 28 - 4 * k := by
          have : IntKind.u32.bits = 32 := rfl
          rw [this]; omega
        have e6 : (2 : Nat) ^ (28 - 4 * k) = 16 ^ (8 - 1 - k) := by
          rw [show 28 - 4 * k = 4 * (8 - 1 - k) by omega, Nat.pow_mul]
        refine ⟨by omega, ?_⟩
        rw [e5, fdiv_nat, e6]
        have hq : a / 16 ^ (8 - 1 - k) < 4294967296 := Nat.lt_of_le_of_lt (Nat.div_le_self _ _) ha
        rw [and15 _ hq]
        (have hr__ := ix_str (P := Tryd.prog) (t := 9) digitsS .u32 (a / 16 ^ (8 - 1 - k) % 16) (dig (a / 16 ^ (8 - 1 - k) % 16)) w2 (by kernel_rfl) (digitsS_get _ (Nat.mod_lt _ (by decide))); refine ⟨_, _, hr__, ?_⟩; clear hr__)
        (try simp only [RS, RF, cond_true, cond_false, List.nil_append, List.cons_append, List.toList_toArray, Option.isSome_some, Option.map_some, Option.map_none, Nat.reduceBEq, isShift, kEq, fEq, binInt, binFloat, shiftInt, binStr])
        (have hr__ := bs1 st_42 w2 (byt (dig (a / 16 ^ (8 - 1 - k) % 16))) rfl (by decide); refine ⟨_, _, hr__, ?_⟩; clear hr__)
        (try simp only [RS, RF, cond_true, cond_false, List.nil_append, List.cons_append, List.toList_toArray, Option.isSome_some, Option.map_some, Option.map_none, Nat.reduceBEq, isShift, kEq, fEq, binInt, binFloat, shiftInt, binStr])
        refine app1 (v := byt (dig (a / 16 ^ (8 - 1 - k) % 16))) st_42 hown hb2.size rfl (by simp [byt, Value.cells, Value.oneCell']) (by omega) (by decide) ?_
        intro s' w3 ho hbel hsz hkeep _
        (try simp only [RS, RF, cond_true, cond_false, List.nil_append, List.cons_append, List.toList_toArray, Option.isSome_some, Option.map_some, Option.map_none, Nat.reduceBEq, isShift, kEq, fEq, binInt, binFloat, shiftInt, binStr])
        rw [IntWalk.i64_in _ (by omega), show 28 - 4 * (k : Int) - 4 = 28 - 4 * ((k + 1 : Nat) : Int) by omega]
        refine ⟨(k + 1, s'), (agr_cons rfl (agr_cons rfl (agr_cons rfl (agr_nil)))), ⟨hlt, ?_, hb2.below' hbel⟩, by show 8 - (k + 1) < 8 - k; omega⟩
        have et : (hexs 8 a).take (k + 1) = (hexs 8 a).take k ++ [dig (a / 16 ^ (8 - 1 - k) % 16)] := by
          rw [List.take_add_one, hexs_get 8 k hlt]; rfl
        show w3.ownsRow _ _ _ s' (k + 1) (((hexs 8 a).take (k + 1)).map byt)
        rw [et, List.map_append]
        exact ho
  · rw [hn] at e
    (try simp only [RS, RF, cond_true, cond_false, List.nil_append, List.cons_append, List.toList_toArray, Option.isSome_some, Option.map_some, Option.map_none, Nat.reduceBEq, isShift, kEq, fEq, binInt, binFloat, shiftInt, binStr, forall_eq, e])
    refine ⟨?_, Bl.refl w⟩
    unfold txt canon
    rw [hn, bsE]; rfl
end Go.Proofs.YtjgpnbchnenbeaaDoor
