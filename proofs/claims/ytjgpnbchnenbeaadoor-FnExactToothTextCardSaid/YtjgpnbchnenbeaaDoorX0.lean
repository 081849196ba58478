/- Decimal texts: the reference's, by its recursion. -/
import Derived.Test.YtjgpnbchnenbeaaDoorR1
import Derived.Test.YtjgpnbchnenbeaaDoorWF
import Derived.Lib.ItoaNum
namespace Go.Proofs.YtjgpnbchnenbeaaDoor
set_option linter.unusedSimpArgs false
set_option linter.unusedVariables false
open Go
open Go.RowKit (Below)

def dcs (n : Nat) : ByteArray := ⟨(Lib.decDigits n).toArray⟩
theorem dec_lo {n : Nat} (h : n < 10) : Lib.decDigits n = [UInt8.ofNat (48 + n)] := by
  rw [Lib.decDigits, dif_pos h]
theorem dec_hi {n : Nat} (h : ¬ n < 10) : Lib.decDigits n = Lib.decDigits (n / 10) ++ [UInt8.ofNat (48 + n % 10)] := by
  rw [Lib.decDigits, dif_neg h]
def dgt (n : Nat) : UInt8 := UInt8.ofNat (48 + n % 10)
theorem dgt_int (n : Nat) : (48 + (n % 10 : Nat) : Int) = (dgt n).toNat := by
  unfold dgt
  rw [UInt8.toNat_ofNat']; omega
/-- what the places of the recursion's region hold -/
def FD (n : Nat) (s : Nat) (v : Value) (w : World) : Prop :=
  match s with
  | 5 => v = .int .i64 n
  | 6 => v = .int .i64 ((n / 10 : Nat) : Int)
  | 7 => v = str (dcs (n / 10))
  | 8 => v = .int .i64 n
  | 9 => v = .int .i64 ((n % 10 : Nat) : Int)
  | 10 => v = .int .i64 ((dgt n).toNat : Int)
  | 11 => v = byt (dgt n)
  | 12 => ∃ g, v = .slice (some ⟨g, 0, none⟩) 1 1 ∧ w.cell? ⟨g, 0, none⟩ = some (byt (dgt n))
  | 13 => v = str ⟨[dgt n].toArray⟩
  | _ => True
theorem FD_stay (n : Nat) : ∀ d v w1 w2, FD n d v w1 → Bl w1 w2 → FD n d v w2 := by
  intro d v w1 w2 h hb
  unfold FD at h ⊢
  split at h <;> first
    | exact h
    | (obtain ⟨g, h1, h2⟩ := h; exact ⟨g, h1, hb.cell h2⟩)
    | trivial
theorem dgt_lo {n : Nat} (h : n < 10) : Lib.decDigits n = [dgt n] := by
  rw [dec_lo h]; unfold dgt; rw [Nat.mod_eq_of_lt h]
theorem dcs_add (n : Nat) (h : ¬ n < 10) : dcs (n / 10) ++ { data := #[dgt n] } = dcs n := by
  apply bs_inj
  show (dcs (n / 10) ++ (⟨#[dgt n]⟩ : ByteArray)).data.toList = Lib.decDigits n
  rw [dec_hi h, ByteArray.data_append, Array.toList_append]; rfl
theorem dec_len : ∀ n : Nat, (Lib.decDigits n).length ≤ n + 1 := by
  intro n
  induction n using Nat.strongRecOn with
  | _ n ih =>
    by_cases h : n < 10
    · rw [dec_lo h]; simp
    · rw [dec_hi h, List.length_append]
      have := ih (n / 10) (by omega)
      simp; omega
set_option maxRecDepth 100000 in
theorem Decimal0_ct (n : Nat) (hn : n < 10) (w : World) : Ct Tryd.prog 118 #[.int .i64 n] w (Is (str (dcs n)) w) := by
  (refine fn_of_W Tryd.func118 rfl (by kernel_rfl) (by kernel_rfl) (Nat.le_of_ble_eq_true (by kernel_rfl)) ?_; (try simp only [RS, RF, cond_true, cond_false, List.nil_append, List.cons_append, List.toList_toArray, Option.isSome_some, Option.map_some, Option.map_none, Nat.reduceBEq, isShift, kEq, fEq, binInt, binFloat, shiftInt, binStr, Tryd.f118]))
  intro b hb
  cases b
  · (try simp only [RS, RF, cond_true, cond_false, List.nil_append, List.cons_append, List.toList_toArray, Option.isSome_some, Option.map_some, Option.map_none, Nat.reduceBEq, isShift, kEq, fEq, binInt, binFloat, shiftInt, binStr])
    have e := dgt_int n
    rw [Nat.mod_eq_of_lt hn] at e
    have hl := (dgt n).toNat_lt
    rw [e, IntWalk.i64_in ((dgt n).toNat : Int) (by omega), IntWalk.u8_in ((dgt n).toNat : Int) (by omega)]
    (have hr__ := bs1 st_42 w (byt (dgt n)) rfl (by decide); refine ⟨_, _, hr__, ?_⟩; clear hr__)
    (try simp only [RS, RF, cond_true, cond_false, List.nil_append, List.cons_append, List.toList_toArray, Option.isSome_some, Option.map_some, Option.map_none, Nat.reduceBEq, isShift, kEq, fEq, binInt, binFloat, shiftInt, binStr])
    have hcv := run_convert_bytes_back (P := Tryd.prog) (w.alloc (.cells (byt (dgt n)).cells 5)) 42 9 5 ⟨w.heap.size, 0, none⟩ 1 [dgt n] (by kernel_rfl) (by kernel_rfl) (by kernel_rfl) (fun j hj => by
      have h0 : j = 0 := by simp at hj; exact hj
      subst h0
      rw [add_off, cell_blk (alloc_new w _)]; rfl)
    refine ⟨_, _, hcv, ?_⟩
    (try simp only [RS, RF, cond_true, cond_false, List.nil_append, List.cons_append, List.toList_toArray, Option.isSome_some, Option.map_some, Option.map_none, Nat.reduceBEq, isShift, kEq, fEq, binInt, binFloat, shiftInt, binStr])
    refine ⟨?_, Bl.alloc _ _⟩
    unfold dcs; rw [dgt_lo hn]
  · have := hb.symm; simp at this; omega
set_option maxRecDepth 100000 in
theorem Decimal_ct : ∀ (k n : Nat), n < 10 ^ (k + 1) → n < 1000000000 → ∀ w : World, Ct Tryd.prog 118 #[.int .i64 n] w (Is (str (dcs n)) w) := by
  intro k
  induction k with
  | zero => exact fun n hn _ w => Decimal0_ct n hn w
  | succ k ih =>
    intro n hn hn2 w
    by_cases h10 : n < 10
    · exact Decimal0_ct n h10 w
    · have hl := (dgt n).toNat_lt
      have hq : n / 10 < 10 ^ (k + 1) := by rw [Nat.pow_succ] at hn; omega
      (refine fn_of_W Tryd.func118 rfl (by kernel_rfl) (by kernel_rfl) (Nat.le_of_ble_eq_true (by kernel_rfl)) ?_; (try simp only [RS, RF, cond_true, cond_false, List.nil_append, List.cons_append, List.toList_toArray, Option.isSome_some, Option.map_some, Option.map_none, Nat.reduceBEq, isShift, kEq, fEq, binInt, binFloat, shiftInt, binStr, Tryd.f118]))
      intro b hb
      cases b
      · have := hb.symm; simp at this; omega
      · (try simp only [RS, RF, cond_true, cond_false, List.nil_append, List.cons_append, List.toList_toArray, Option.isSome_some, Option.map_some, Option.map_none, Nat.reduceBEq, isShift, kEq, fEq, binInt, binFloat, shiftInt, binStr])
        refine draw_any 9 (FD n) mixed (by kernel_rfl) (FD_stay n) ?_ ?_
        · (try simp only [RS, RF, cond_true, cond_false, List.nil_append, List.cons_append, List.toList_toArray, Option.isSome_some, Option.map_some, Option.map_none, Nat.reduceBEq, isShift, kEq, fEq, binInt, binFloat, shiftInt, binStr, a_ok0, a_ok1, a_fe0, a_fe1, a_fes, a_fen, a_fo, a_fl0, a_fl1, a_da0, a_das, a_ds0, a_ds1, a_ov0, a_ov1, FD])
          refine ⟨fun e1 w1 _ _ => ⟨Bl.refl _, trivial⟩, ?_, ?_, fun e1 w1 _ _ => ⟨Bl.refl _, trivial⟩, ?_, ?_, ?_, ?_, ?_, trivial⟩
          · rintro e1 w1 _ ⟨h, _⟩
            rw [h]
            (try simp only [RS, RF, cond_true, cond_false, List.nil_append, List.cons_append, List.toList_toArray, Option.isSome_some, Option.map_some, Option.map_none, Nat.reduceBEq, isShift, kEq, fEq, binInt, binFloat, shiftInt, binStr])
            refine ⟨by decide, Bl.refl _, ?_⟩
            have e : Int.tdiv (n : Int) 10 = ((n / 10 : Nat) : Int) := by rw [Int.tdiv_eq_ediv_of_nonneg (by omega)]; omega
            rw [e, IntWalk.i64_in _ (by omega)]
          · rintro e1 w1 _ ⟨h, _⟩
            rw [h]
            exact (ih (n / 10) hq (by omega) w1).mono fun v w2 h => ⟨h.2, h.1⟩
          · rintro e1 w1 _ ⟨h, _⟩
            rw [h]
            (try simp only [RS, RF, cond_true, cond_false, List.nil_append, List.cons_append, List.toList_toArray, Option.isSome_some, Option.map_some, Option.map_none, Nat.reduceBEq, isShift, kEq, fEq, binInt, binFloat, shiftInt, binStr])
            refine ⟨by decide, Bl.refl _, ?_⟩
            have e : Int.tmod (n : Int) 10 = ((n % 10 : Nat) : Int) := by rw [Int.tmod_eq_emod_of_nonneg (by omega)]; omega
            rw [e]
          · rintro e1 w1 _ ⟨h, _⟩
            rw [h]
            (try simp only [RS, RF, cond_true, cond_false, List.nil_append, List.cons_append, List.toList_toArray, Option.isSome_some, Option.map_some, Option.map_none, Nat.reduceBEq, isShift, kEq, fEq, binInt, binFloat, shiftInt, binStr])
            rw [dgt_int n, IntWalk.i64_in _ (by omega)]
            exact ⟨Bl.refl _, rfl⟩
          · rintro e1 w1 _ ⟨h, _⟩
            rw [h]
            (try simp only [RS, RF, cond_true, cond_false, List.nil_append, List.cons_append, List.toList_toArray, Option.isSome_some, Option.map_some, Option.map_none, Nat.reduceBEq, isShift, kEq, fEq, binInt, binFloat, shiftInt, binStr])
            rw [IntWalk.u8_in _ (by omega)]
            exact ⟨Bl.refl _, rfl⟩
          · rintro e1 w1 _ ⟨h, _⟩
            rw [h]
            (have hr__ := bs1 st_42 w1 (byt (dgt n)) rfl (by decide); refine ⟨_, _, hr__, ?_⟩; clear hr__)
            exact ⟨Bl.alloc _ _, _, rfl, by rw [cell_blk (alloc_new w1 _)]; rfl⟩
          · rintro e1 w1 _ ⟨⟨g, h, hc⟩, _⟩
            rw [h]
            have hcv := run_convert_bytes_back (P := Tryd.prog) w1 42 9 5 ⟨g, 0, none⟩ 1 [dgt n] (by kernel_rfl) (by kernel_rfl) (by kernel_rfl) (fun j hj => by
              have h0 : j = 0 := by simp at hj; exact hj
              subst h0
              rw [add_off]; exact hc)
            exact ⟨_, _, hcv, Bl.refl _, rfl⟩
        · (try simp only [RS, RF, cond_true, cond_false, List.nil_append, List.cons_append, List.toList_toArray, Option.isSome_some, Option.map_some, Option.map_none, Nat.reduceBEq, isShift, kEq, fEq, binInt, binFloat, shiftInt, binStr, a_ok0, a_ok1, a_fe0, a_fe1, a_fes, a_fen, a_fo, a_fl0, a_fl1, a_da0, a_das, a_ds0, a_ds1, a_ov0, a_ov1, FD])
          rintro e1 w1 hw1 ⟨_, _, h7, _, _, _, _, _, h13, _⟩
          rw [h7, h13]
          (try simp only [RS, RF, cond_true, cond_false, List.nil_append, List.cons_append, List.toList_toArray, Option.isSome_some, Option.map_some, Option.map_none, Nat.reduceBEq, isShift, kEq, fEq, binInt, binFloat, shiftInt, binStr])
          have hsz : (dcs (n / 10)).size ≤ n / 10 + 1 := dec_len (n / 10)
          have hs1 : (ByteArray.mk #[dgt n]).size = 1 := rfl
          refine ⟨by omega, ?_⟩
          rw [dcs_add n h10]
          exact ⟨rfl, hw1⟩
end Go.Proofs.YtjgpnbchnenbeaaDoor
