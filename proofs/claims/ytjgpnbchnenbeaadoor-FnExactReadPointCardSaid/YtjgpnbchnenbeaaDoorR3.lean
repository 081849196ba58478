/- Texts: pieces, numbers of pieces, points. -/
import Derived.Test.YtjgpnbchnenbeaaDoorR2
import Derived.Test.YtjgpnbchnenbeaaDoorWE
namespace Go.Proofs.YtjgpnbchnenbeaaDoor
set_option linter.unusedSimpArgs false
set_option linter.unusedVariables false
open Go
open Go.RowKit (Below)

/-- v is a slice of strings -/
def Strs (w : World) (v : Value) (ss : List ByteArray) : Prop := ∃ g cap, v = .slice (some ⟨g, 0, none⟩) ss.length cap ∧ ∀ k s, ss[k]? = some s → w.cell? ⟨g, k, none⟩ = some (str s)
def Fls (w : World) (v : Value) (xs : List Nat) : Prop := ∃ a cap, v = .slice a xs.length cap ∧ (0 < xs.length → ∃ g, a = some ⟨g, 0, none⟩ ∧ ∀ k x, xs[k]? = some x → w.cell? ⟨g, k, none⟩ = some (fl x))
theorem Strs.bl {w w' : World} {v : Value} {ss : List ByteArray} (h : Strs w v ss) (hb : Bl w w') : Strs w' v ss := by
  obtain ⟨g, cap, rfl, hc⟩ := h
  exact ⟨g, cap, rfl, fun k s hk => hb.cell (hc k s hk)⟩
theorem own_strs {w : World} {B el n : Nat} {v : Value} {ss : List ByteArray} (h : w.ownsRow B el 1 v n (ss.map str)) (h1 : 1 ≤ ss.length) : Strs w v ss := by
  have hl : ss.length = n := by simpa using h.1
  rcases h.2 with ⟨rfl, rfl⟩ | ⟨g, cap, cur, rfl, hB, _⟩
  · omega
  · refine ⟨g, cap, by rw [hl], fun k b hk => ?_⟩
    have := h.cells (g := g) rfl k (str b) (by rw [List.getElem?_map, hk]; rfl)
    rwa [add_off, Nat.zero_add] at this
theorem own_fls {w : World} {B el n : Nat} {v : Value} {xs : List Nat} (h : w.ownsRow B el 1 v n (xs.map fl)) : Fls w v xs := by
  have hl : xs.length = n := by simpa using h.1
  rcases h.2 with ⟨rfl, rfl⟩ | ⟨g, cap, cur, rfl, hB, _⟩
  · exact ⟨none, 0, by rw [hl], fun h0 => absurd h0 (by omega)⟩
  · refine ⟨_, cap, by rw [hl], fun _ => ⟨g, rfl, fun k b hk => ?_⟩⟩
    have := h.cells (g := g) rfl k (fl b) (by rw [List.getElem?_map, hk]; rfl)
    rwa [add_off, Nat.zero_add] at this
theorem pcs_len (c : UInt8) : ∀ l : List UInt8, (pcs c l).length ≤ l.length + 1
  | [] => Nat.le_refl _
  | b :: l => by
    have ih := pcs_len c l
    by_cases h : b = c
    · subst h; rw [pcs_hit0]; simp; omega
    · rw [pcs_miss0 h]
      cases hp : pcs c l with
      | nil => exact absurd hp (pcs_ne c l)
      | cons p ps => rw [hp] at ih; simp only [glue, List.length_cons] at *; omega
/-- a text's pieces -/
def Pcs (c : UInt8) (s : ByteArray) (w : World) : Value → World → Prop := fun v w' => ∃ ss : List ByteArray, ss.map bs = pcs c (bs s) ∧ Strs w' v ss ∧ Bl w w'

set_option maxRecDepth 100000 in
theorem l01Split_ct (w : World) (s : ByteArray) (c : UInt8) (hs : s.size ≤ 1048576) : Ct Tryd.prog 62 #[str s, .int .u8 c.toNat] w (Pcs c s w) := by
  have hlen := bs_len s
  (refine fn_of_W Tryd.func62 rfl (by kernel_rfl) (by kernel_rfl) (Nat.le_of_ble_eq_true (by kernel_rfl)) ?_; (try simp only [RS, RF, cond_true, cond_false, List.nil_append, List.cons_append, List.toList_toArray, Option.isSome_some, Option.map_some, Option.map_none, Nat.reduceBEq, isShift, kEq, fEq, binInt, binFloat, shiftInt, binStr, Tryd.f62]))
  refine ⟨_, _, bs0 st_85 _, ?_⟩
  (try simp only [RS, RF, cond_true, cond_false, List.nil_append, List.cons_append, List.toList_toArray, Option.isSome_some, Option.map_some, Option.map_none, Nat.reduceBEq, isShift, kEq, fEq, binInt, binFloat, shiftInt, binStr])
  refine loop_W (σ := Nat × Nat × Value × List ByteArray) (fun t => [(0, str s), (1, .int .u8 c.toNat), (5, t.2.2.1), (6, .int .i64 t.2.1), (7, .int .i64 t.1)])
    (fun t w' => t.2.1 ≤ t.1 ∧ t.1 ≤ s.size ∧ t.2.2.2.length ≤ t.2.1 ∧ t.2.2.2.map bs ++ pcs c ((bs s).drop t.2.1) = pcs c (bs s) ∧ (∀ j b, t.2.1 ≤ j → j < t.1 → (bs s)[j]? = some b → b ≠ c) ∧ w'.ownsRow w.heap.size 9 1 t.2.2.1 t.2.2.2.length (t.2.2.2.map str) ∧ Bl w w')
    (fun t => s.size - t.1) (0, 0, .slice (some ⟨w.heap.size, 0, none⟩) 0 0, []) (agr_cons rfl (agr_cons rfl (agr_cons rfl (agr_cons rfl (agr_cons rfl (agr_nil)))))) ?_ ?_
  · exact ⟨Nat.le_refl _, Nat.zero_le _, Nat.le_refl _, rfl, fun j b _ h => absurd h (Nat.not_lt_zero j), own0 w w.heap.size _ _ (Nat.le_refl _), Bl.alloc _ _⟩
  · rintro ⟨k, fr, v, ss⟩ w2 e2 ⟨hfk, hk, hsl, hps, hno, hown, hb2⟩
    simp only at hfk hk hsl hps hno hown
    have hfin : ∀ (n : Nat) (h : fr + n = s.size ∨ (bs s)[fr + n]? = some c), (∀ j b, fr ≤ j → j < fr + n → (bs s)[j]? = some b → b ≠ c) → ∀ j, j < n → ∀ b, ((bs s).drop fr)[j]? = some b → b ≠ c := by
      intro n _ hn j hj b hb
      rw [List.getElem?_drop] at hb
      exact hn (fr + j) b (by omega) (by omega) hb
    (try simp only [RS, RF, cond_true, cond_false, List.nil_append, List.cons_append, List.toList_toArray, Option.isSome_some, Option.map_some, Option.map_none, Nat.reduceBEq, isShift, kEq, fEq, binInt, binFloat, shiftInt, binStr])
    intro b1 hb1
    cases b1
    · have hk8 : k = s.size := by have := hb1.symm; simp at this; omega
      (try simp only [RS, RF, cond_true, cond_false, List.nil_append, List.cons_append, List.toList_toArray, Option.isSome_some, Option.map_some, Option.map_none, Nat.reduceBEq, isShift, kEq, fEq, binInt, binFloat, shiftInt, binStr])
      (have hr__ := sl_from (P := Tryd.prog) (t := 9) s fr w2 (by kernel_rfl) (by omega); refine ⟨_, _, hr__, ?_⟩; clear hr__)
      (try simp only [RS, RF, cond_true, cond_false, List.nil_append, List.cons_append, List.toList_toArray, Option.isSome_some, Option.map_some, Option.map_none, Nat.reduceBEq, isShift, kEq, fEq, binInt, binFloat, shiftInt, binStr])
      (have hr__ := bs1 st_85 w2 (str (s.extract fr s.size)) rfl (by decide); refine ⟨_, _, hr__, ?_⟩; clear hr__)
      (try simp only [RS, RF, cond_true, cond_false, List.nil_append, List.cons_append, List.toList_toArray, Option.isSome_some, Option.map_some, Option.map_none, Nat.reduceBEq, isShift, kEq, fEq, binInt, binFloat, shiftInt, binStr])
      refine app1 (v := str (s.extract fr s.size)) st_85 hown hb2.size rfl (by simp [Value.cells, Value.oneCell']) (by omega) (by decide) ?_
      intro s' w3 ho hbel hsz hkeep _
      (try simp only [RS, RF, cond_true, cond_false, List.nil_append, List.cons_append, List.toList_toArray, Option.isSome_some, Option.map_some, Option.map_none, Nat.reduceBEq, isShift, kEq, fEq, binInt, binFloat, shiftInt, binStr])
      refine ⟨ss ++ [s.extract fr s.size], ?_, own_strs (B := w.heap.size) (el := 9) (n := ss.length + 1) (by rw [List.map_append]; exact ho) (by simp), hb2.below' hbel⟩
      rw [← hps, pcs_none (c := c) (r := (bs s).drop fr), List.map_append, List.map_singleton, bs_extract, List.take_of_length_le (by simp [hlen])]
      intro b hb
      obtain ⟨j, hj, rfl⟩ := List.mem_iff_getElem.1 hb
      exact hfin (k - fr) (.inl (by omega)) (fun j b h1 h2 => hno j b h1 (by omega)) j (by simp at hj; omega) _ (List.getElem?_eq_getElem hj)
    · have hlt : k < s.size := by have := hb1.symm; simp at this; omega
      obtain ⟨b, hb⟩ : ∃ b, (bs s)[k]? = some b := ⟨_, List.getElem?_eq_getElem (by omega)⟩
      (try simp only [RS, RF, cond_true, cond_false, List.nil_append, List.cons_append, List.toList_toArray, Option.isSome_some, Option.map_some, Option.map_none, Nat.reduceBEq, isShift, kEq, fEq, binInt, binFloat, shiftInt, binStr])
      (have hr__ := ix_str (P := Tryd.prog) (t := 9) s .i64 k b w2 (by kernel_rfl) hb; refine ⟨_, _, hr__, ?_⟩; clear hr__)
      (try simp only [RS, RF, cond_true, cond_false, List.nil_append, List.cons_append, List.toList_toArray, Option.isSome_some, Option.map_some, Option.map_none, Nat.reduceBEq, isShift, kEq, fEq, binInt, binFloat, shiftInt, binStr])
      intro b3 hb3
      cases b3
      · have hbc : b ≠ c := fun e => by subst e; simp at hb3
        (try simp only [RS, RF, cond_true, cond_false, List.nil_append, List.cons_append, List.toList_toArray, Option.isSome_some, Option.map_some, Option.map_none, Nat.reduceBEq, isShift, kEq, fEq, binInt, binFloat, shiftInt, binStr])
        rw [IntWalk.i64_in ((k : Int) + 1) (by omega)]
        refine ⟨(k + 1, fr, v, ss), (agr_cons rfl (agr_cons rfl (agr_cons rfl (agr_cons rfl (agr_cons rfl (agr_nil)))))), ⟨by show fr ≤ k + 1; omega, hlt, hsl, hps, fun j b' h1 h2 h3 => ?_, hown, hb2⟩, by show s.size - (k + 1) < s.size - k; omega⟩
        rcases Nat.lt_or_ge j k with h | h
        · exact hno j b' h1 h h3
        · rw [show j = k by simp only at h2; omega, hb] at h3
          rw [← Option.some.inj h3]; exact hbc
      · have hbc : b = c := by
          have h1 := hb3.symm
          simp at h1
          exact UInt8.toNat_inj.1 (by omega)
        subst hbc
        (try simp only [RS, RF, cond_true, cond_false, List.nil_append, List.cons_append, List.toList_toArray, Option.isSome_some, Option.map_some, Option.map_none, Nat.reduceBEq, isShift, kEq, fEq, binInt, binFloat, shiftInt, binStr])
        (have hr__ := sl_str (P := Tryd.prog) (t := 9) s fr k w2 (by kernel_rfl) hfk hk; refine ⟨_, _, hr__, ?_⟩; clear hr__)
        (try simp only [RS, RF, cond_true, cond_false, List.nil_append, List.cons_append, List.toList_toArray, Option.isSome_some, Option.map_some, Option.map_none, Nat.reduceBEq, isShift, kEq, fEq, binInt, binFloat, shiftInt, binStr])
        (have hr__ := bs1 st_85 w2 (str (s.extract fr k)) rfl (by decide); refine ⟨_, _, hr__, ?_⟩; clear hr__)
        (try simp only [RS, RF, cond_true, cond_false, List.nil_append, List.cons_append, List.toList_toArray, Option.isSome_some, Option.map_some, Option.map_none, Nat.reduceBEq, isShift, kEq, fEq, binInt, binFloat, shiftInt, binStr])
        refine app1 (v := str (s.extract fr k)) st_85 hown hb2.size rfl (by simp [Value.cells, Value.oneCell']) (by omega) (by decide) ?_
        intro s' w3 ho hbel hsz hkeep _
        (try simp only [RS, RF, cond_true, cond_false, List.nil_append, List.cons_append, List.toList_toArray, Option.isSome_some, Option.map_some, Option.map_none, Nat.reduceBEq, isShift, kEq, fEq, binInt, binFloat, shiftInt, binStr])
        rw [IntWalk.i64_in ((k : Int) + 1) (by omega)]
        refine ⟨(k + 1, k + 1, s', ss ++ [s.extract fr k]), (agr_cons rfl (agr_cons rfl (agr_cons rfl (agr_cons rfl (agr_cons rfl (agr_nil)))))), ⟨Nat.le_refl _, hlt, by simp; omega, ?_, fun j b' h1 h2 _ => absurd h1 (by show ¬ k + 1 ≤ j; simp only at h2; omega), ?_, hb2.below' hbel⟩, by show s.size - (k + 1) < s.size - k; omega⟩
        · show (ss ++ [s.extract fr k]).map bs ++ pcs b ((bs s).drop (k + 1)) = _
          have h5 := pcs_at (c := b) (n := k - fr) (r := (bs s).drop fr) (hfin (k - fr) (.inr (by rw [show fr + (k - fr) = k by omega]; exact hb)) (fun j b h1 h2 => hno j b h1 (by omega))) (by rw [List.getElem?_drop, show fr + (k - fr) = k by omega]; exact hb)
          rw [List.drop_drop, show fr + (k - fr + 1) = k + 1 by omega] at h5
          rw [← hps, h5, List.map_append, List.map_singleton, bs_extract, List.append_assoc]
          rfl
        · show w3.ownsRow _ _ _ s' (ss ++ [s.extract fr k]).length ((ss ++ [s.extract fr k]).map str)
          rw [List.map_append, List.length_append]
          exact ho
set_option maxRecDepth 100000 in
theorem Split_ct (w : World) (s : ByteArray) (c : UInt8) (m : Int) (hs : s.size ≤ 1048576) (hm : w.cell? ⟨1, 0, none⟩ = some (.int .i64 m)) : Ct Tryd.prog 65 #[str s, str { data := #[c] }] w (Pcs c s w) := by
  refine (ct_of_calls (by kernel_rfl) (Tryd.strings_Split s { data := #[c] } m w (by omega) hm (by show 1 ≤ (#[c] : Array UInt8).size; simp))).mono ?_
  rintro v w' ⟨rfl, rfl⟩
  have hall := Lib.splitB_all { data := #[c] } (by show 1 ≤ (#[c] : Array UInt8).size; simp) 0 _ s rfl
  have hdat := Lib.splitB_data { data := #[c] } 0 (Lib.countB s { data := #[c] }) s
  generalize hss : Lib.splitB { data := #[c] } 0 (Lib.countB s { data := #[c] }) s = ss at *
  refine ⟨ss, ?_, ⟨w.heap.size, _, by rw [hall], fun k x hk => ?_⟩, Bl.alloc _ _⟩
  · rw [← split_pcs]; exact hdat
  · rw [cell_blk (alloc_new w _)]
    simp [hk]

/-- the numbers of pieces -/
def nums (ls : List (List UInt8)) : Option (List Nat) := ls.mapM rdV
theorem nums_all {ls : List (List UInt8)} {xs : List Nat} (h : ls.map rdV = xs.map some) : ls.mapM rdV = some xs := by
  induction ls generalizing xs with
  | nil => cases xs with
    | nil => rfl
    | cons x xs => cases h
  | cons l ls ih => cases xs with
    | nil => cases h
    | cons x xs =>
      simp only [List.map_cons, List.cons.injEq] at h
      rw [List.mapM_cons, h.1, ih h.2]; rfl
theorem nums_none {ls : List (List UInt8)} {l : List UInt8} (hm : l ∈ ls) (h : rdV l = none) : ls.mapM rdV = none := by
  induction ls with
  | nil => cases hm
  | cons x ls ih =>
    rw [List.mapM_cons]
    rcases List.mem_cons.1 hm with rfl | hm
    · rw [h]; rfl
    · rw [ih hm]; cases rdV x <;> rfl
def NumsR (ls : List (List UInt8)) (w : World) : Value → World → Prop := fun v w' => Bl w w' ∧ ((∃ v0 xs, v = .tuple #[v0, .bool true] ∧ nums ls = some xs ∧ xs.length = ls.length ∧ Fls w' v0 xs) ∨ (v = .tuple #[.slice none 0 0, .bool false] ∧ nums ls = none))
set_option maxRecDepth 100000 in
theorem numbersOf_ct (w : World) (v : Value) (ss : List ByteArray) (h : Strs w v ss) (hl : ss.length ≤ 1048577) (hz : ∀ s ∈ ss, s.size ≤ 1048576) : Ct Tryd.prog 64 #[v] w (NumsR (ss.map bs) w) := by
  obtain ⟨g, cap, rfl, hc⟩ := h
  (refine fn_of_W Tryd.func64 rfl (by kernel_rfl) (by kernel_rfl) (Nat.le_of_ble_eq_true (by kernel_rfl)) ?_; (try simp only [RS, RF, cond_true, cond_false, List.nil_append, List.cons_append, List.toList_toArray, Option.isSome_some, Option.map_some, Option.map_none, Nat.reduceBEq, isShift, kEq, fEq, binInt, binFloat, shiftInt, binStr, Tryd.f64]))
  refine ⟨_, _, bs0 st_89 _, ?_⟩
  (try simp only [RS, RF, cond_true, cond_false, List.nil_append, List.cons_append, List.toList_toArray, Option.isSome_some, Option.map_some, Option.map_none, Nat.reduceBEq, isShift, kEq, fEq, binInt, binFloat, shiftInt, binStr])
  refine loop_W (σ := Nat × Value × List Nat) (fun t => [(4, t.2.1), (10, .slice (some ⟨g, 0, none⟩) ss.length cap), (11, .int .i64 ss.length), (12, .int .i64 t.1)])
    (fun t w' => t.1 ≤ ss.length ∧ t.2.2.length = t.1 ∧ ((ss.take t.1).map bs).map rdV = t.2.2.map some ∧ w'.ownsRow w.heap.size 33 1 t.2.1 t.1 (t.2.2.map fl) ∧ Bl w w')
    (fun t => ss.length - t.1) (0, .slice (some ⟨w.heap.size, 0, none⟩) 0 0, []) (agr_cons rfl (agr_cons rfl (agr_cons rfl (agr_cons rfl (agr_nil))))) ?_ ?_
  · exact ⟨Nat.zero_le _, rfl, rfl, own0 w w.heap.size _ _ (Nat.le_refl _), Bl.alloc _ _⟩
  · rintro ⟨k, v, xs⟩ w2 e2 ⟨hk, hxl, hxs, hown, hb2⟩
    simp only at hk hxl hxs hown
    (try simp only [RS, RF, cond_true, cond_false, List.nil_append, List.cons_append, List.toList_toArray, Option.isSome_some, Option.map_some, Option.map_none, Nat.reduceBEq, isShift, kEq, fEq, binInt, binFloat, shiftInt, binStr])
    intro b1 hb1
    cases b1
    · have hk8 : k = ss.length := by have := hb1.symm; simp at this; omega
      subst hk8
      rw [List.take_length] at hxs
      (try simp only [RS, RF, cond_true, cond_false, List.nil_append, List.cons_append, List.toList_toArray, Option.isSome_some, Option.map_some, Option.map_none, Nat.reduceBEq, isShift, kEq, fEq, binInt, binFloat, shiftInt, binStr])
      exact ⟨hb2, .inl ⟨v, xs, rfl, nums_all hxs, by rw [hxl, List.length_map], own_fls hown⟩⟩
    · have hlt : k < ss.length := by have := hb1.symm; simp at this; omega
      obtain ⟨s, hsk⟩ : ∃ s, ss[k]? = some s := ⟨_, List.getElem?_eq_getElem hlt⟩
      have hmem : s ∈ ss := by
        obtain ⟨_, rfl⟩ := List.getElem?_eq_some_iff.1 hsk
        exact List.getElem_mem _
      (try simp only [RS, RF, cond_true, cond_false, List.nil_append, List.cons_append, List.toList_toArray, Option.isSome_some, Option.map_some, Option.map_none, Nat.reduceBEq, isShift, kEq, fEq, binInt, binFloat, shiftInt, binStr, Int.toNat_natCast])
      refine ⟨by omega, _, ld1 (by kernel_rfl) (hb2.cell (hc k s hsk)), ?_⟩
      (try simp only [RS, RF, cond_true, cond_false, List.nil_append, List.cons_append, List.toList_toArray, Option.isSome_some, Option.map_some, Option.map_none, Nat.reduceBEq, isShift, kEq, fEq, binInt, binFloat, shiftInt, binStr])
      (refine (ReadNumber_ct w2 s (hz s hmem)).mono ?_; rintro _ w3 ⟨rfl, hw3⟩)
      unfold rdVal
      have et : ss.take (k + 1) = ss.take k ++ [s] := by rw [List.take_add_one, hsk]; rfl
      cases hr : rdV (bs s) with
      | none =>
        (try simp only [RS, RF, cond_true, cond_false, List.nil_append, List.cons_append, List.toList_toArray, Option.isSome_some, Option.map_some, Option.map_none, Nat.reduceBEq, isShift, kEq, fEq, binInt, binFloat, shiftInt, binStr])
        intro b2 hb2'
        cases b2
        · exact absurd hb2' (by decide)
        (try simp only [RS, RF, cond_true, cond_false, List.nil_append, List.cons_append, List.toList_toArray, Option.isSome_some, Option.map_some, Option.map_none, Nat.reduceBEq, isShift, kEq, fEq, binInt, binFloat, shiftInt, binStr])
        exact ⟨hb2.trans hw3, .inr ⟨rfl, nums_none (List.mem_map_of_mem hmem) hr⟩⟩
      | some x =>
        (try simp only [RS, RF, cond_true, cond_false, List.nil_append, List.cons_append, List.toList_toArray, Option.isSome_some, Option.map_some, Option.map_none, Nat.reduceBEq, isShift, kEq, fEq, binInt, binFloat, shiftInt, binStr])
        intro b2 hb2'
        cases b2
        rotate_left
        · exact absurd hb2' (by decide)
        (try simp only [RS, RF, cond_true, cond_false, List.nil_append, List.cons_append, List.toList_toArray, Option.isSome_some, Option.map_some, Option.map_none, Nat.reduceBEq, isShift, kEq, fEq, binInt, binFloat, shiftInt, binStr])
        (have hr__ := bs1 st_89 w3 (fl x) rfl (by decide); refine ⟨_, _, hr__, ?_⟩; clear hr__)
        (try simp only [RS, RF, cond_true, cond_false, List.nil_append, List.cons_append, List.toList_toArray, Option.isSome_some, Option.map_some, Option.map_none, Nat.reduceBEq, isShift, kEq, fEq, binInt, binFloat, shiftInt, binStr])
        refine app1 (v := fl x) st_89 (own_bl hown hw3) (hb2.trans hw3).size rfl (by simp [Value.cells, Value.oneCell']) (by omega) (by decide) ?_
        intro s' w4 ho hbel hsz hkeep _
        (try simp only [RS, RF, cond_true, cond_false, List.nil_append, List.cons_append, List.toList_toArray, Option.isSome_some, Option.map_some, Option.map_none, Nat.reduceBEq, isShift, kEq, fEq, binInt, binFloat, shiftInt, binStr])
        rw [IntWalk.i64_in ((k : Int) + 1) (by omega)]
        refine ⟨(k + 1, s', xs ++ [x]), (agr_cons rfl (agr_cons rfl (agr_cons rfl (agr_cons rfl (agr_nil))))), ⟨hlt, by simp [hxl], ?_, ?_, (hb2.trans hw3).below' hbel⟩, by show ss.length - (k + 1) < ss.length - k; omega⟩
        · show ((ss.take (k + 1)).map bs).map rdV = (xs ++ [x]).map some
          rw [et, List.map_append, List.map_append, List.map_append, hxs, List.map_singleton, List.map_singleton, List.map_singleton, hr]
        · show w4.ownsRow _ _ _ s' (k + 1) ((xs ++ [x]).map fl)
          rw [List.map_append]
          exact ho

/-- a point's text -/
def ptV (l : List UInt8) : Value := match pcs 32 l with
  | [x, y] => match rdV x, rdV y with
    | some a, some b => .tuple #[cx a b, .int .i64 0]
    | _, _ => .tuple #[cx 0 0, .int .i64 5]
  | _ => .tuple #[cx 0 0, .int .i64 5]
end Go.Proofs.YtjgpnbchnenbeaaDoor
