/- Texts: numbers that are read. -/
import Derived.Test.YtjgpnbchnenbeaaDoorR1
namespace Go.Proofs.YtjgpnbchnenbeaaDoor
set_option linter.unusedSimpArgs false
set_option linter.unusedVariables false
open Go
open Go.RowKit (Below)

abbrev rdV (l : List UInt8) : Option Nat := readV (isNan .f32) l
theorem nan_one : isNan .f32 2143289344 = true := by decide
theorem hexi_snoc (l : List UInt8) (b : UInt8) (n : Nat) : hexi (l ++ [b]) n = hexi l n * 16 + (hexd b).getD 0 := by
  induction l generalizing n with
  | nil => rfl
  | cons x l ih => exact ih _
theorem hexi_lt : ∀ (l : List UInt8) (n : Nat), hexi l n < (n + 1) * 16 ^ l.length
  | [], n => by simp [hexi]
  | b :: l, n => by
    have h := hexi_lt l (n * 16 + (hexd b).getD 0)
    have hd : (hexd b).getD 0 < 16 := by
      cases hh : hexd b with
      | none => decide
      | some d => exact hexd_lt hh
    show hexi l (n * 16 + (hexd b).getD 0) < _
    rw [List.length_cons, Nat.pow_succ]
    refine Nat.lt_of_lt_of_le h ?_
    have : (n * 16 + (hexd b).getD 0 + 1) * 16 ^ l.length ≤ (n * 16 + 16) * 16 ^ l.length := Nat.mul_le_mul_right _ (by omega)
    refine Nat.le_trans this ?_
    rw [show n * 16 + 16 = (n + 1) * 16 by omega, Nat.mul_assoc, Nat.mul_comm 16]
    exact Nat.le_refl _
theorem take_snoc' {l : List UInt8} {k : Nat} {b : UInt8} (h : l[k]? = some b) : l.take (k + 1) = l.take k ++ [b] := by
  rw [List.take_add_one, h]; rfl
def rdVal (l : List UInt8) : Value := match rdV l with | some v => .tuple #[fl v, .int .i64 0] | none => .tuple #[fl 0, .int .i64 5]
set_option maxRecDepth 100000 in
theorem IndexByte_ct (w : World) (b : UInt8) : Ct Tryd.prog 131 #[str digitsS, .int .u8 b.toNat] w (fun v w' => v = .int .i64 (match hexd b with | some d => (d : Int) | none => -1) ∧ w' = w) := by
  have h := ct_of_calls (by kernel_rfl) (Tryd.strings_IndexByte digitsS b.toNat w)
  rw [show ((b.toNat : Int).toNat.toUInt8) = b by
    rw [Int.toNat_natCast]; exact UInt8.ofNat_toNat, show digitsS.data.toList = bs digitsS from rfl, ix_hexd] at h
  exact h
set_option maxRecDepth 100000 in
theorem ReadNumber_ct (w : World) (s : ByteArray) (hs : s.size ≤ 1048576) : Ct Tryd.prog 114 #[str s] w (Is (rdVal (bs s)) w) := by
  have hlen := bs_len s
  (refine fn_of_W Tryd.func114 rfl (by kernel_rfl) (by kernel_rfl) (Nat.le_of_ble_eq_true (by kernel_rfl)) ?_; (try simp only [RS, RF, cond_true, cond_false, List.nil_append, List.cons_append, List.toList_toArray, Option.isSome_some, Option.map_some, Option.map_none, Nat.reduceBEq, isShift, kEq, fEq, binInt, binFloat, shiftInt, binStr, Tryd.f114]))
  obtain ⟨m, hm⟩ : ∃ m : Nat, m = min s.size 8 := ⟨_, rfl⟩
  have e8 : (if (8 : Int) < s.size then (8 : Int) else s.size) = (m : Int) := by split <;> omega
  rw [e8]
  refine loop_W (σ := Nat) (fun k => [(0, str s), (4, .int .u32 (hexi ((bs s).take k) 0 : Nat)), (9, .int .i64 m), (10, .int .i64 k)]) (fun k w' => k ≤ m ∧ Bl w w') (fun k => m - k) 0 (agr_cons rfl (agr_cons rfl (agr_cons rfl (agr_cons rfl (agr_nil))))) ⟨by omega, Bl.refl w⟩ ?_
  rintro k w1 e1 ⟨hk, hb1⟩
  have hbd : hexi ((bs s).take k) 0 < 16 ^ k := by
    have := hexi_lt ((bs s).take k) 0
    rw [List.length_take, Nat.min_eq_left (by omega)] at this
    simpa using this
  (try simp only [RS, RF, cond_true, cond_false, List.nil_append, List.cons_append, List.toList_toArray, Option.isSome_some, Option.map_some, Option.map_none, Nat.reduceBEq, isShift, kEq, fEq, binInt, binFloat, shiftInt, binStr])
  intro b1 hb
  cases b1
  · have hkm : k = m := by have := hb.symm; simp at this; omega
    subst hkm
    have ht : (bs s).take k = (bs s).take 8 := by
      rcases Nat.lt_or_ge s.size 8 with h | h
      · rw [List.take_of_length_le (by omega), List.take_of_length_le (by omega)]
      · rw [show k = 8 by omega]
    rw [ht] at hbd
    rw [ht]
    have hv : hexi ((bs s).take 8) 0 < 4294967296 := by
      have : 16 ^ k ≤ 16 ^ 8 := Nat.pow_le_pow_right (by decide) (by omega)
      have e : (16 : Nat) ^ 8 = 4294967296 := by decide
      omega
    obtain ⟨hr1, hr2⟩ := read_text (nan := isNan .f32) (l := bs s) nan_one
    generalize hexi ((bs s).take 8) 0 = V at *
    (try simp only [RS, RF, cond_true, cond_false, List.nil_append, List.cons_append, List.toList_toArray, Option.isSome_some, Option.map_some, Option.map_none, Nat.reduceBEq, isShift, kEq, fEq, binInt, binFloat, shiftInt, binStr])
    (refine (frombits_ct w1 V hv).mono ?_; rintro _ w2 ⟨rfl, hw2⟩)
    (try simp only [RS, RF, cond_true, cond_false, List.nil_append, List.cons_append, List.toList_toArray, Option.isSome_some, Option.map_some, Option.map_none, Nat.reduceBEq, isShift, kEq, fEq, binInt, binFloat, shiftInt, binStr])
    (refine (NumberText_ct w2 V hv).mono ?_; rintro _ w3 ⟨rfl, hw3⟩)
    (try simp only [RS, RF, cond_true, cond_false, List.nil_append, List.cons_append, List.toList_toArray, Option.isSome_some, Option.map_some, Option.map_none, Nat.reduceBEq, isShift, kEq, fEq, binInt, binFloat, shiftInt, binStr])
    intro b2 hb2
    rw [str_eq, show bs (txt V) = hexs 8 (canon V) from bs_mk _] at hb2
    have hb13 := (hb1.trans hw2).trans hw3
    unfold rdVal
    cases b2
    · (try simp only [RS, RF, cond_true, cond_false, List.nil_append, List.cons_append, List.toList_toArray, Option.isSome_some, Option.map_some, Option.map_none, Nat.reduceBEq, isShift, kEq, fEq, binInt, binFloat, shiftInt, binStr])
      have hno : ¬ hexs 8 (canon V) = bs s := fun e => by rw [decide_eq_true e] at hb2; cases hb2
      have : rdV (bs s) = none := by
        cases hh : readV (isNan .f32) (bs s) with
        | none => exact hh
        | some v => exact absurd (hr1.2 (by rw [hh]; rfl)) hno
      rw [this]
      exact ⟨rfl, hb13⟩
    · (try simp only [RS, RF, cond_true, cond_false, List.nil_append, List.cons_append, List.toList_toArray, Option.isSome_some, Option.map_some, Option.map_none, Nat.reduceBEq, isShift, kEq, fEq, binInt, binFloat, shiftInt, binStr])
      have hyes : hexs 8 (canon V) = bs s := of_decide_eq_true hb2.symm
      obtain ⟨v, hv2⟩ := Option.isSome_iff_exists.1 (hr1.1 hyes)
      have hVv := hr2 v hv2
      have : rdV (bs s) = some v := hv2
      rw [this, hVv]
      exact ⟨rfl, hb13⟩
  · have hlt : k < m := by have := hb.symm; simp at this; omega
    obtain ⟨c, hc⟩ : ∃ c, (bs s)[k]? = some c := ⟨_, List.getElem?_eq_getElem (by omega)⟩
    have hk7 : 16 ^ k ≤ 16 ^ 7 := Nat.pow_le_pow_right (by decide) (by omega)
    have e7 : (16 : Nat) ^ 7 = 268435456 := by decide
    (try simp only [RS, RF, cond_true, cond_false, List.nil_append, List.cons_append, List.toList_toArray, Option.isSome_some, Option.map_some, Option.map_none, Nat.reduceBEq, isShift, kEq, fEq, binInt, binFloat, shiftInt, binStr])
    refine ⟨by omega, ?_⟩
    (have hr__ := ix_str (P := Tryd.prog) (t := 9) s .i64 k c w1 (by kernel_rfl) hc; refine ⟨_, _, hr__, ?_⟩; clear hr__)
    (try simp only [RS, RF, cond_true, cond_false, List.nil_append, List.cons_append, List.toList_toArray, Option.isSome_some, Option.map_some, Option.map_none, Nat.reduceBEq, isShift, kEq, fEq, binInt, binFloat, shiftInt, binStr])
    (refine (IndexByte_ct w1 c).mono ?_; rintro _ _ ⟨rfl, rfl⟩)
    (try simp only [RS, RF, cond_true, cond_false, List.nil_append, List.cons_append, List.toList_toArray, Option.isSome_some, Option.map_some, Option.map_none, Nat.reduceBEq, isShift, kEq, fEq, binInt, binFloat, shiftInt, binStr])
    have e4 : (2 : Int) ^ (min (4 : Int).toNat IntKind.u32.bits) = 16 := by decide
    have ed : ∀ d : Int, d = (if (0 : Int) > (match hexd c with | some d => (d : Int) | none => -1) then 0 else (match hexd c with | some d => (d : Int) | none => -1)) → d = (((hexd c).getD 0 : Nat) : Int) := by
      intro d hd
      rw [hd]
      cases hexd c with
      | none => rfl
      | some x => simp; omega
    rw [ed _ rfl, e4]
    have hdl : (hexd c).getD 0 < 16 := by
      cases hh : hexd c with
      | none => decide
      | some d => exact hexd_lt hh
    have hst := hexi_snoc ((bs s).take k) c 0
    rw [← take_snoc' hc] at hst
    generalize hexi ((bs s).take k) 0 = n at *
    rw [IntWalk.u32_in (((hexd c).getD 0 : Nat) : Int) (by omega), IntWalk.u32_in ((n : Int) * 16) (by omega), show (n : Int) * 16 = ((n * 16 : Nat) : Int) by omega, or16 n _ (by omega) hdl]
    rw [IntWalk.i64_in ((k : Int) + 1) (by omega)]
    refine ⟨k + 1, ?_, ⟨hlt, hb1⟩, by omega⟩
    rw [hst]
    exact (agr_cons rfl (agr_cons rfl (agr_cons rfl (agr_cons rfl (agr_nil)))))
set_option maxRecDepth 100000 in
theorem l01Bits_ct (w : World) (a : Nat) : Ct Tryd.prog 113 #[fl a] w (Is (.int .u32 (canon a : Nat)) w) := by
  (refine fn_of_W Tryd.func113 rfl (by kernel_rfl) (by kernel_rfl) (Nat.le_of_ble_eq_true (by kernel_rfl)) ?_; (try simp only [RS, RF, cond_true, cond_false, List.nil_append, List.cons_append, List.toList_toArray, Option.isSome_some, Option.map_some, Option.map_none, Nat.reduceBEq, isShift, kEq, fEq, binInt, binFloat, shiftInt, binStr, Tryd.f113]))
  have e := fne_self' .f32 a
  unfold canon
  cases hn : isNan .f32 a
  · rw [hn] at e
    (try simp only [RS, RF, cond_true, cond_false, List.nil_append, List.cons_append, List.toList_toArray, Option.isSome_some, Option.map_some, Option.map_none, Nat.reduceBEq, isShift, kEq, fEq, binInt, binFloat, shiftInt, binStr, forall_eq, e])
    (refine (f32bits_ct w a).mono ?_; rintro _ w1 ⟨rfl, hw1⟩)
    (try simp only [RS, RF, cond_true, cond_false, List.nil_append, List.cons_append, List.toList_toArray, Option.isSome_some, Option.map_some, Option.map_none, Nat.reduceBEq, isShift, kEq, fEq, binInt, binFloat, shiftInt, binStr])
    exact ⟨rfl, hw1⟩
  · rw [hn] at e
    (try simp only [RS, RF, cond_true, cond_false, List.nil_append, List.cons_append, List.toList_toArray, Option.isSome_some, Option.map_some, Option.map_none, Nat.reduceBEq, isShift, kEq, fEq, binInt, binFloat, shiftInt, binStr, forall_eq, e])
    exact ⟨rfl, Bl.refl w⟩
theorem canon_eq (v : Nat) : canon v = v ↔ ¬ (isNan .f32 v = true ∧ v ≠ 2143289344) := by
  unfold canon
  by_cases h : isNan .f32 v = true
  · rw [if_pos h]
    constructor
    · intro e; exact fun ⟨_, h2⟩ => h2 e.symm
    · intro e
      rcases Nat.decEq v 2143289344 with h2 | h2
      · exact absurd ⟨h, h2⟩ e
      · exact h2.symm
  · rw [if_neg h]
    exact ⟨fun _ h2 => h h2.1, fun _ => rfl⟩
/-- what the reference reads: a number, and whether it is one -/
def SRead (l : List UInt8) (w : World) : Value → World → Prop := fun v w' => ∃ x ok, v = .tuple #[fl x, .bool ok] ∧ Bl w w' ∧ ((ok = true ∧ rdV l = some x) ∨ (ok = false ∧ rdV l = none))
theorem hexv_take {l : List UInt8} {k : Nat} {b : UInt8} (h : l[k]? = some b) {n : Nat} (hn : hexv (l.take k) 0 = some n) : hexv (l.take (k + 1)) 0 = (hexd b).map fun d => n * 16 + d := by
  rw [take_snoc' h, hexv_snoc, hn]; rfl
theorem hexv_none {l : List UInt8} {k : Nat} (h : hexv (l.take (k + 1)) 0 = none) : hexv l 0 = none := by
  have : ∀ (a b : List UInt8) (n : Nat), hexv a n = none → hexv (a ++ b) n = none := by
    intro a b
    induction a with
    | nil => intro n h; cases h
    | cons x a ih =>
      intro n h
      show (match hexd x with | none => none | some d => hexv (a ++ b) (n * 16 + d)) = none
      have h : (match hexd x with | none => none | some d => hexv a (n * 16 + d)) = none := h
      cases hd : hexd x with
      | none => rfl
      | some d => rw [hd] at h; exact ih _ h
  have h2 := this (l.take (k + 1)) (l.drop (k + 1)) 0 h
  rwa [List.take_append_drop] at h2
set_option maxRecDepth 100000 in
theorem l01Read_ct (w : World) (s : ByteArray) (hs : s.size ≤ 1048576) : Ct Tryd.prog 63 #[str s] w (SRead (bs s) w) := by
  have hlen := bs_len s
  (refine fn_of_W Tryd.func63 rfl (by kernel_rfl) (by kernel_rfl) (Nat.le_of_ble_eq_true (by kernel_rfl)) ?_; (try simp only [RS, RF, cond_true, cond_false, List.nil_append, List.cons_append, List.toList_toArray, Option.isSome_some, Option.map_some, Option.map_none, Nat.reduceBEq, isShift, kEq, fEq, binInt, binFloat, shiftInt, binStr, Tryd.f63]))
  intro b0 hb0
  cases b0
  rotate_left
  · (try simp only [RS, RF, cond_true, cond_false, List.nil_append, List.cons_append, List.toList_toArray, Option.isSome_some, Option.map_some, Option.map_none, Nat.reduceBEq, isShift, kEq, fEq, binInt, binFloat, shiftInt, binStr])
    have : s.size ≠ 8 := fun e => by rw [e] at hb0; simp at hb0
    refine ⟨0, false, rfl, Bl.refl w, .inr ⟨rfl, ?_⟩⟩
    show readV (isNan .f32) (bs s) = none
    unfold readV
    rw [if_neg (by omega)]
  have h8 : s.size = 8 := by have := hb0.symm; simp at this; omega
  (try simp only [RS, RF, cond_true, cond_false, List.nil_append, List.cons_append, List.toList_toArray, Option.isSome_some, Option.map_some, Option.map_none, Nat.reduceBEq, isShift, kEq, fEq, binInt, binFloat, shiftInt, binStr])
  refine loop_W (σ := Nat × Nat) (fun t => [(0, str s), (4, .int .u32 t.2), (5, .int .i64 t.1)]) (fun t w' => t.1 ≤ 8 ∧ hexv ((bs s).take t.1) 0 = some t.2 ∧ Bl w w') (fun t => 8 - t.1) (0, 0) (agr_cons rfl (agr_cons rfl (agr_cons rfl (agr_nil)))) ⟨by omega, rfl, Bl.refl w⟩ ?_
  rintro ⟨k, n⟩ w1 e1 ⟨hk, hn, hb1⟩
  simp only at hk hn
  have hnb : n < 16 ^ k := by
    have h1 := hexi_lt ((bs s).take k) 0
    rw [hexv_hexi _ _ _ hn, List.length_take, Nat.min_eq_left (by omega)] at h1
    simpa using h1
  (try simp only [RS, RF, cond_true, cond_false, List.nil_append, List.cons_append, List.toList_toArray, Option.isSome_some, Option.map_some, Option.map_none, Nat.reduceBEq, isShift, kEq, fEq, binInt, binFloat, shiftInt, binStr])
  intro b1 hb
  cases b1
  · have hk8 : k = 8 := by have := hb.symm; simp at this; omega
    subst hk8
    rw [List.take_of_length_le (by omega)] at hn
    have hv : n < 4294967296 := by
      have e : (16 : Nat) ^ 8 = 4294967296 := by decide
      omega
    (try simp only [RS, RF, cond_true, cond_false, List.nil_append, List.cons_append, List.toList_toArray, Option.isSome_some, Option.map_some, Option.map_none, Nat.reduceBEq, isShift, kEq, fEq, binInt, binFloat, shiftInt, binStr])
    (refine (frombits_ct w1 n hv).mono ?_; rintro _ w2 ⟨rfl, hw2⟩)
    (try simp only [RS, RF, cond_true, cond_false, List.nil_append, List.cons_append, List.toList_toArray, Option.isSome_some, Option.map_some, Option.map_none, Nat.reduceBEq, isShift, kEq, fEq, binInt, binFloat, shiftInt, binStr])
    (refine (l01Bits_ct w2 n).mono ?_; rintro _ w3 ⟨rfl, hw3⟩)
    (try simp only [RS, RF, cond_true, cond_false, List.nil_append, List.cons_append, List.toList_toArray, Option.isSome_some, Option.map_some, Option.map_none, Nat.reduceBEq, isShift, kEq, fEq, binInt, binFloat, shiftInt, binStr])
    intro b2 hb2
    refine ⟨n, b2, rfl, (hb1.trans hw2).trans hw3, ?_⟩
    have hce := canon_eq n
    have hr : rdV (bs s) = if isNan .f32 n = true ∧ n ≠ 2143289344 then none else some n := by
      show readV (isNan .f32) (bs s) = _
      unfold readV
      rw [if_pos (by omega), hn]
    cases b2
    · right
      refine ⟨rfl, ?_⟩
      have : ¬ canon n = n := fun e => by rw [e] at hb2; simp at hb2
      rw [hr, if_pos]
      rcases Classical.em (isNan .f32 n = true ∧ n ≠ 2143289344) with h | h
      · exact h
      · exact absurd (hce.2 h) this
    · left
      refine ⟨rfl, ?_⟩
      have : canon n = n := by have := hb2.symm; simp at this; omega
      rw [hr, if_neg (hce.1 this)]
  · have hlt : k < 8 := by have := hb.symm; simp at this; omega
    obtain ⟨c, hc⟩ : ∃ c, (bs s)[k]? = some c := ⟨_, List.getElem?_eq_getElem (by omega)⟩
    have hcl := c.toNat_lt
    have hk7 : 16 ^ k ≤ 16 ^ 7 := Nat.pow_le_pow_right (by decide) (by omega)
    have e7 : (16 : Nat) ^ 7 = 268435456 := by decide
    have hst := hexv_take hc hn
    (try simp only [RS, RF, cond_true, cond_false, List.nil_append, List.cons_append, List.toList_toArray, Option.isSome_some, Option.map_some, Option.map_none, Nat.reduceBEq, isShift, kEq, fEq, binInt, binFloat, shiftInt, binStr])
    (have hr__ := ix_str (P := Tryd.prog) (t := 9) s .i64 k c w1 (by kernel_rfl) hc; refine ⟨_, _, hr__, ?_⟩; clear hr__)
    have fin : ∀ (e3 : Env) (d : Nat), hexd c = some d → agrees e3 [(0, str s), (4, .int .u32 ((n * 16 + d : Nat) : Int)), (5, .int .i64 ((k + 1 : Nat) : Int))] →
        ∃ s2 : Nat × Nat, agrees e3 [(0, str s), (4, .int .u32 s2.2), (5, .int .i64 s2.1)] ∧ (s2.1 ≤ 8 ∧ hexv ((bs s).take s2.1) 0 = some s2.2 ∧ Bl w w1) ∧ 8 - s2.1 < 8 - k :=
      fun e3 d hd ha => ⟨(k + 1, n * 16 + d), ha, ⟨hlt, by rw [hst, hd]; rfl, hb1⟩, by show 8 - (k + 1) < 8 - k; omega⟩
    have bad : hexd c = none → SRead (bs s) w (.tuple #[fl 0, .bool false]) w1 := fun hd => by
      refine ⟨0, false, rfl, hb1, .inr ⟨rfl, ?_⟩⟩
      have hz : hexv (bs s) 0 = none := hexv_none (k := k) (by rw [hst, hd]; rfl)
      show readV (isNan .f32) (bs s) = none
      unfold readV
      rw [if_pos (by omega), hz]
    have d1 : hexd c = if 48 ≤ c.toNat ∧ c.toNat ≤ 57 then some (c.toNat - 48) else if 97 ≤ c.toNat ∧ c.toNat ≤ 102 then some (c.toNat - 87) else none := rfl
    (try simp only [RS, RF, cond_true, cond_false, List.nil_append, List.cons_append, List.toList_toArray, Option.isSome_some, Option.map_some, Option.map_none, Nat.reduceBEq, isShift, kEq, fEq, binInt, binFloat, shiftInt, binStr])
    intro b2 hb2
    have other : ¬ (48 ≤ c.toNat ∧ c.toNat ≤ 57) → True := fun _ => trivial
    have arm : ∀ (h1 : ¬ (48 ≤ c.toNat ∧ c.toNat ≤ 57)), (97 ≤ c.toNat ∧ c.toNat ≤ 102 → hexd c = some (c.toNat - 87)) ∧ (¬ (97 ≤ c.toNat ∧ c.toNat ≤ 102) → hexd c = none) := fun h1 =>
      ⟨fun h2 => by rw [d1, if_neg h1, if_pos h2], fun h2 => by rw [d1, if_neg h1, if_neg h2]⟩
    cases b2
    · have h1 : ¬ (48 ≤ c.toNat ∧ c.toNat ≤ 57) := by have := hb2.symm; simp at this; omega
      (try simp only [RS, RF, cond_true, cond_false, List.nil_append, List.cons_append, List.toList_toArray, Option.isSome_some, Option.map_some, Option.map_none, Nat.reduceBEq, isShift, kEq, fEq, binInt, binFloat, shiftInt, binStr])
      intro b3 hb3
      cases b3
      · have h2 : ¬ (97 ≤ c.toNat ∧ c.toNat ≤ 102) := by have := hb3.symm; simp at this; omega
        (try simp only [RS, RF, cond_true, cond_false, List.nil_append, List.cons_append, List.toList_toArray, Option.isSome_some, Option.map_some, Option.map_none, Nat.reduceBEq, isShift, kEq, fEq, binInt, binFloat, shiftInt, binStr])
        exact bad ((arm h1).2 h2)
      · (try simp only [RS, RF, cond_true, cond_false, List.nil_append, List.cons_append, List.toList_toArray, Option.isSome_some, Option.map_some, Option.map_none, Nat.reduceBEq, isShift, kEq, fEq, binInt, binFloat, shiftInt, binStr])
        intro b4 hb4
        cases b4
        · have h2 : ¬ (97 ≤ c.toNat ∧ c.toNat ≤ 102) := by have := hb4.symm; simp at this; omega
          (try simp only [RS, RF, cond_true, cond_false, List.nil_append, List.cons_append, List.toList_toArray, Option.isSome_some, Option.map_some, Option.map_none, Nat.reduceBEq, isShift, kEq, fEq, binInt, binFloat, shiftInt, binStr])
          exact bad ((arm h1).2 h2)
        · have h2 : 97 ≤ c.toNat ∧ c.toNat ≤ 102 := by have := hb3.symm; have := hb4.symm; simp at *; omega
          (try simp only [RS, RF, cond_true, cond_false, List.nil_append, List.cons_append, List.toList_toArray, Option.isSome_some, Option.map_some, Option.map_none, Nat.reduceBEq, isShift, kEq, fEq, binInt, binFloat, shiftInt, binStr])
          rw [IntWalk.u8_in ((c.toNat : Int) - 97) (by omega), IntWalk.u32_in ((n : Int) * 16) (by omega), IntWalk.u32_in ((c.toNat : Int) - 97) (by omega), IntWalk.u32_in ((n : Int) * 16 + ((c.toNat : Int) - 97)) (by omega), IntWalk.u32_in ((n : Int) * 16 + ((c.toNat : Int) - 97) + 10) (by omega), IntWalk.i64_in ((k : Int) + 1) (by omega)]
          rw [show (n : Int) * 16 + ((c.toNat : Int) - 97) + 10 = ((n * 16 + (c.toNat - 87) : Nat) : Int) by omega, show (k : Int) + 1 = ((k + 1 : Nat) : Int) by omega]
          exact fin _ _ ((arm h1).1 h2) (agr_cons rfl (agr_cons rfl (agr_cons rfl (agr_nil))))
    · (try simp only [RS, RF, cond_true, cond_false, List.nil_append, List.cons_append, List.toList_toArray, Option.isSome_some, Option.map_some, Option.map_none, Nat.reduceBEq, isShift, kEq, fEq, binInt, binFloat, shiftInt, binStr])
      intro b3 hb3
      cases b3
      · have h1 : ¬ (48 ≤ c.toNat ∧ c.toNat ≤ 57) := by have := hb3.symm; simp at this; omega
        (try simp only [RS, RF, cond_true, cond_false, List.nil_append, List.cons_append, List.toList_toArray, Option.isSome_some, Option.map_some, Option.map_none, Nat.reduceBEq, isShift, kEq, fEq, binInt, binFloat, shiftInt, binStr])
        intro b4 hb4
        cases b4
        · have h2 : ¬ (97 ≤ c.toNat ∧ c.toNat ≤ 102) := by have := hb4.symm; simp at this; omega
          (try simp only [RS, RF, cond_true, cond_false, List.nil_append, List.cons_append, List.toList_toArray, Option.isSome_some, Option.map_some, Option.map_none, Nat.reduceBEq, isShift, kEq, fEq, binInt, binFloat, shiftInt, binStr])
          exact bad ((arm h1).2 h2)
        · (try simp only [RS, RF, cond_true, cond_false, List.nil_append, List.cons_append, List.toList_toArray, Option.isSome_some, Option.map_some, Option.map_none, Nat.reduceBEq, isShift, kEq, fEq, binInt, binFloat, shiftInt, binStr])
          intro b5 hb5
          cases b5
          · have h2 : ¬ (97 ≤ c.toNat ∧ c.toNat ≤ 102) := by have := hb5.symm; simp at this; omega
            (try simp only [RS, RF, cond_true, cond_false, List.nil_append, List.cons_append, List.toList_toArray, Option.isSome_some, Option.map_some, Option.map_none, Nat.reduceBEq, isShift, kEq, fEq, binInt, binFloat, shiftInt, binStr])
            exact bad ((arm h1).2 h2)
          · have h2 : 97 ≤ c.toNat ∧ c.toNat ≤ 102 := by have := hb4.symm; have := hb5.symm; simp at *; omega
            (try simp only [RS, RF, cond_true, cond_false, List.nil_append, List.cons_append, List.toList_toArray, Option.isSome_some, Option.map_some, Option.map_none, Nat.reduceBEq, isShift, kEq, fEq, binInt, binFloat, shiftInt, binStr])
            rw [IntWalk.u8_in ((c.toNat : Int) - 97) (by omega), IntWalk.u32_in ((n : Int) * 16) (by omega), IntWalk.u32_in ((c.toNat : Int) - 97) (by omega), IntWalk.u32_in ((n : Int) * 16 + ((c.toNat : Int) - 97)) (by omega), IntWalk.u32_in ((n : Int) * 16 + ((c.toNat : Int) - 97) + 10) (by omega), IntWalk.i64_in ((k : Int) + 1) (by omega)]
            rw [show (n : Int) * 16 + ((c.toNat : Int) - 97) + 10 = ((n * 16 + (c.toNat - 87) : Nat) : Int) by omega, show (k : Int) + 1 = ((k + 1 : Nat) : Int) by omega]
            exact fin _ _ ((arm h1).1 h2) (agr_cons rfl (agr_cons rfl (agr_cons rfl (agr_nil))))
      · have h1 : 48 ≤ c.toNat ∧ c.toNat ≤ 57 := by have := hb2.symm; have := hb3.symm; simp at *; omega
        (try simp only [RS, RF, cond_true, cond_false, List.nil_append, List.cons_append, List.toList_toArray, Option.isSome_some, Option.map_some, Option.map_none, Nat.reduceBEq, isShift, kEq, fEq, binInt, binFloat, shiftInt, binStr])
        rw [IntWalk.u8_in ((c.toNat : Int) - 48) (by omega), IntWalk.u32_in ((n : Int) * 16) (by omega), IntWalk.u32_in ((c.toNat : Int) - 48) (by omega), IntWalk.u32_in ((n : Int) * 16 + ((c.toNat : Int) - 48)) (by omega), IntWalk.i64_in ((k : Int) + 1) (by omega)]
        rw [show (n : Int) * 16 + ((c.toNat : Int) - 48) = ((n * 16 + (c.toNat - 48) : Nat) : Int) by omega, show (k : Int) + 1 = ((k + 1 : Nat) : Int) by omega]
        exact fin _ _ (by rw [d1, if_pos h1]) (agr_cons rfl (agr_cons rfl (agr_cons rfl (agr_nil))))
end Go.Proofs.YtjgpnbchnenbeaaDoor
