/- Contracts for FnPlays: trains and plays. -/
import Derived.Test.YtjgpnbchnenbeaaP1
namespace Go.Proofs.Ytjgpnbchnenbeaa
set_option linter.unusedSimpArgs false
set_option linter.unusedVariables false
open Go
open Go.RowKit (Below)

/-- a drawn train lies from a cell of a block onwards -/
structure TrainAt (w : World) (b o : Nat) (ps : List PairV) : Prop where
  cells : ∀ k p, ps[k]? = some p → w.cell? ⟨b, o + k * 3, none⟩ = some (.int .i16 p.1) ∧ w.cell? ⟨b, o + k * 3 + 1, none⟩ = some (.int .i16 p.2.1) ∧ w.cell? ⟨b, o + k * 3 + 2, none⟩ = some (.float .f32 p.2.2)
  ge : 1 ≤ ps.length
  le : ps.length ≤ 4
  ok : ∀ p ∈ ps, PairOK p
theorem TrainAt.bl {w w' : World} {b o : Nat} {ps : List PairV} (h : TrainAt w b o ps) (hb : Bl w w') : TrainAt w' b o ps :=
  ⟨fun k d hk => ⟨hb.cell (h.cells k d hk).1, hb.cell (h.cells k d hk).2.1, hb.cell (h.cells k d hk).2.2⟩, h.ge, h.le, h.ok⟩
theorem TrainAt.of_own {w : World} {B : Nat} {v : Value} {ps : List PairV} {el : TypeId} (h : w.ownsRow B el 3 v ps.length (ps.flatMap pcells)) (h1 : 1 ≤ ps.length) (h4 : ps.length ≤ 4) (hok : ∀ p ∈ ps, PairOK p) :
    ∃ b o cap, v = .slice (some ⟨b, o, none⟩) ps.length cap ∧ TrainAt w b o ps := by
  obtain ⟨_, a, cap, rfl, hc⟩ := Rd.of_own h
  obtain ⟨b, o, rfl, hcell⟩ := hc (by omega)
  refine ⟨b, o, cap, rfl, fun k d hk => ⟨?_, ?_, ?_⟩, h1, h4, hok⟩
  · exact hcell _ _ (flat_get pcells_len ps k 0 d hk (by omega))
  · exact hcell _ _ (flat_get pcells_len ps k 1 d hk (by omega))
  · exact hcell _ _ (flat_get pcells_len ps k 2 d hk (by omega))
abbrev trainV (b o cap : Nat) (ps : List PairV) : Value := .slice (some ⟨b, o, none⟩) ps.length cap

/-- a slice of bytes -/
def Byt (w : World) (v : Value) : Prop :=
  ∃ a len cap, v = .slice a len cap ∧ ∀ i, i < len → ∃ bb o n, a = some ⟨bb, o, none⟩ ∧ w.cell? ⟨bb, o + i, none⟩ = some (.int .u8 n) ∧ 0 ≤ n ∧ n ≤ 255
theorem Byt.bl {w w' : World} {v : Value} (h : Byt w v) (hb : Bl w w') : Byt w' v := by
  obtain ⟨a, len, cap, rfl, hc⟩ := h
  exact ⟨a, len, cap, rfl, fun i hi => by obtain ⟨bb, o, n, h1, h2, h3⟩ := hc i hi; exact ⟨bb, o, n, h1, hb.cell h2, h3⟩⟩

set_option maxRecDepth 100000 in
theorem big_ct (w : World) (a : Option Addr) (n c : Nat) :
    Ct Try.prog 34 #[.slice a n c] w (Is (.bool (decide (4096 < n))) w) := by
  (refine fn_of_W Try.func34 rfl (by kernel_rfl) (by kernel_rfl) (Nat.le_of_ble_eq_true (by kernel_rfl)) ?_; (try simp only [RS, RF, cond_true, cond_false, List.nil_append, List.cons_append, List.toList_toArray, Option.isSome_some, Option.map_some, Option.map_none, Nat.reduceBEq, isShift, kEq, fEq, binInt, binFloat, shiftInt, binStr, Try.f34]))
  intro b hb
  refine ⟨?_, Bl.refl w⟩
  rw [hb]
  congr 1
  by_cases h : 4096 < n
  · rw [decide_eq_true h]; exact decide_eq_true (by omega)
  · rw [decide_eq_false h]; exact decide_eq_false (by omega)

set_option maxRecDepth 100000 in
theorem P6Train_ct (w : World) (v : Value) (h : Byt w v) (hl : ∀ a len cap, v = .slice a len cap → len ≤ 100000) :
    Ct Try.prog 35 #[v] w fun v w' => ∃ b o cap ps, v = trainV b o cap ps ∧ TrainAt w' b o ps ∧ Bl w w' := by
  obtain ⟨a, len, cap, rfl, hc⟩ := h
  have hl := hl a len cap rfl
  (refine fn_of_W Try.func35 rfl (by kernel_rfl) (by kernel_rfl) (Nat.le_of_ble_eq_true (by kernel_rfl)) ?_; (try simp only [RS, RF, cond_true, cond_false, List.nil_append, List.cons_append, List.toList_toArray, Option.isSome_some, Option.map_some, Option.map_none, Nat.reduceBEq, isShift, kEq, fEq, binInt, binFloat, shiftInt, binStr, Try.f35]))
  (refine (from_ct w a len cap (by omega) hc).mono ?_; rintro _ w1 ⟨rfl, hs, hb⟩)
  (try simp only [RS, RF, cond_true, cond_false, List.nil_append, List.cons_append, List.toList_toArray, Option.isSome_some, Option.map_some, Option.map_none, Nat.reduceBEq, isShift, kEq, fEq, binInt, binFloat, shiftInt, binStr])
  (refine (train_ct w1 w.heap.size 0 hs (by omega)).mono ?_; rintro _ w2 ⟨ps, hown, h1, h4, hok, hx⟩)
  (try simp only [RS, RF, cond_true, cond_false, List.nil_append, List.cons_append, List.toList_toArray, Option.isSome_some, Option.map_some, Option.map_none, Nat.reduceBEq, isShift, kEq, fEq, binInt, binFloat, shiftInt, binStr])
  obtain ⟨b, o, cap', rfl, hL⟩ := TrainAt.of_own hown h1 h4 hok
  refine ⟨b, o, cap', ps, rfl, hL, hb.new hx (Nat.le_refl _)⟩

abbrev fl (x : Nat) : Value := .float .f32 x
abbrev colV (g n cap : Nat) : Value := .slice (some ⟨g, 0, none⟩) n cap
/-- block g holds these floats, from its first cell -/
def PlAt (w : World) (g : Nat) (pl : List Nat) : Prop := ∀ k x, pl[k]? = some x → w.cell? ⟨g, k, none⟩ = some (fl x)
theorem PlAt.bl {w w' : World} {g : Nat} {pl : List Nat} (h : PlAt w g pl) (hb : Bl w w') : PlAt w' g pl := fun k x hk => hb.cell (h k x hk)
/-- plays: words from 0 to 1 -/
def Parts (pl : List Nat) : Prop := ∀ a ∈ pl, a ≤ 1065353216
theorem ex_get {α : Type} {l : List α} {j : Nat} (h : j < l.length) : ∃ x, l[j]? = some x := ⟨_, List.getElem?_eq_getElem h⟩
theorem own_push {w : World} {B el : Nat} {v : Value} {S : List Nat} {x : Nat} (h : w.ownsRow B el 1 v (S.length + 1) (S.map fl ++ [fl x])) : w.ownsRow B el 1 v (S ++ [x]).length ((S ++ [x]).map fl) := by
  rw [List.length_append, List.map_append]; exact h
theorem own_cell {w : World} {B el n m g cap : Nat} {S : List Nat} (h : w.ownsRow B el 1 (.slice (some ⟨g, 0, none⟩) m cap) n (S.map fl)) {k x : Nat} (hk : S[k]? = some x) : w.cell? ⟨g, k, none⟩ = some (fl x) := by
  have := h.cells (g := g) rfl k (fl x) (by rw [List.getElem?_map, hk]; rfl)
  rwa [add_off, Nat.zero_add] at this
theorem own_fl {w : World} {B el n : Nat} {v : Value} {S : List Nat} (h : w.ownsRow B el 1 v n (S.map fl)) (h1 : 1 ≤ S.length) : ∃ g cap, v = colV g n cap ∧ PlAt w g S ∧ B ≤ g := by
  have hl : S.length = n := by simpa using h.1
  rcases h.2 with ⟨rfl, rfl⟩ | ⟨g, cap, cur, rfl, hB, _⟩
  · omega
  · exact ⟨g, cap, rfl, fun k x hk => own_cell h hk, hB⟩

set_option maxRecDepth 100000 in
theorem P6Plays_ct (w : World) (v : Value) (b o cap : Nat) (ps : List PairV) (h : Byt w v) (hl : ∀ a len cap, v = .slice a len cap → len ≤ 100000) (ht : TrainAt w b o ps) :
    Ct Try.prog 36 #[v, trainV b o cap ps] w fun v w' => ∃ g c pl, v = colV g ps.length c ∧ PlAt w' g pl ∧ pl.length = ps.length ∧ Parts pl ∧ Bl w w' := by
  obtain ⟨a, len, cap0, rfl, hc⟩ := h
  have hl := hl a len cap0 rfl
  have h1 := ht.ge
  have h4 := ht.le
  (refine fn_of_W Try.func36 rfl (by kernel_rfl) (by kernel_rfl) (Nat.le_of_ble_eq_true (by kernel_rfl)) ?_; (try simp only [RS, RF, cond_true, cond_false, List.nil_append, List.cons_append, List.toList_toArray, Option.isSome_some, Option.map_some, Option.map_none, Nat.reduceBEq, isShift, kEq, fEq, binInt, binFloat, shiftInt, binStr, Try.f36]))
  (refine (from_ct w a len cap0 (by omega) hc).mono ?_; rintro _ w1 ⟨rfl, hs, hb⟩)
  (try simp only [RS, RF, cond_true, cond_false, List.nil_append, List.cons_append, List.toList_toArray, Option.isSome_some, Option.map_some, Option.map_none, Nat.reduceBEq, isShift, kEq, fEq, binInt, binFloat, shiftInt, binStr])
  refine ⟨_, _, bs0 st_28 _, ?_⟩
  (try simp only [RS, RF, cond_true, cond_false, List.nil_append, List.cons_append, List.toList_toArray, Option.isSome_some, Option.map_some, Option.map_none, Nat.reduceBEq, isShift, kEq, fEq, binInt, binFloat, shiftInt, binStr])
  have hsz1 : w.heap.size < w1.heap.size := hs.lt
  refine loop_W (σ := Nat × List Nat × Value) (fun s => [(1, trainV b o cap ps), (5, .pointer (some ⟨w.heap.size, 0, none⟩)), (6, s.2.2), (7, .int .i64 s.1)])
    (fun s w' => s.1 ≤ ps.length ∧ s.2.1.length = s.1 ∧ w'.ownsRow w1.heap.size 26 1 s.2.2 s.2.1.length (s.2.1.map fl) ∧ Parts s.2.1 ∧ Src w' w.heap.size (2 * s.1) ∧ Bl w w' ∧ w1.heap.size ≤ w'.heap.size)
    (fun s => ps.length - s.1) (0, [], .slice (some ⟨w1.heap.size, 0, none⟩) 0 0) (agr_cons rfl (agr_cons rfl (agr_cons rfl (agr_cons rfl (agr_nil))))) ?_ ?_
  · exact ⟨Nat.zero_le _, rfl, own0 w1 w1.heap.size _ _ (Nat.le_refl _), (fun a ha => by cases ha), hs.bl (Bl.alloc _ _), hb.trans (Bl.alloc _ _), by rw [alloc_size]; omega⟩
  · rintro ⟨k, pl, v⟩ w2 e2 ⟨hk, hlen, hown, hp, hs2, hb2, hsz2⟩
    simp only at hk hlen hown hp hs2
    (try simp only [RS, RF, cond_true, cond_false, List.nil_append, List.cons_append, List.toList_toArray, Option.isSome_some, Option.map_some, Option.map_none, Nat.reduceBEq, isShift, kEq, fEq, binInt, binFloat, shiftInt, binStr])
    intro b1 hb1
    cases b1
    · (try simp only [RS, RF, cond_true, cond_false, List.nil_append, List.cons_append, List.toList_toArray, Option.isSome_some, Option.map_some, Option.map_none, Nat.reduceBEq, isShift, kEq, fEq, binInt, binFloat, shiftInt, binStr])
      have hk2 : k = ps.length := by have := hb1.symm; simp at this; omega
      subst hk2
      obtain ⟨g, c, rfl, hg, _⟩ := own_fl hown (by omega)
      exact ⟨g, c, pl, by rw [hlen], hg, hlen, hp, hb2⟩
    · have hlt : k < ps.length := by have := hb1.symm; simp at this; omega
      (try simp only [RS, RF, cond_true, cond_false, List.nil_append, List.cons_append, List.toList_toArray, Option.isSome_some, Option.map_some, Option.map_none, Nat.reduceBEq, isShift, kEq, fEq, binInt, binFloat, shiftInt, binStr])
      (refine (pick_ct w2 w.heap.size (2 * k) 17 hs2 (by omega) (by omega)).mono ?_; rintro _ w3 ⟨x, rfl, hx0, hx1, hs3, hxx3⟩)
      (try simp only [RS, RF, cond_true, cond_false, List.nil_append, List.cons_append, List.toList_toArray, Option.isSome_some, Option.map_some, Option.map_none, Nat.reduceBEq, isShift, kEq, fEq, binInt, binFloat, shiftInt, binStr])
      intro r n hr
      have hx1' := hx1 (by omega)
      have hpt := part_le hx0 (N := 16) (by omega) (by omega) (by omega) r17 hr
      (have hr__ := bs1 st_28 (w3.drewN n) (fl r) rfl (by decide); refine ⟨_, _, hr__, ?_⟩; clear hr__)
      (try simp only [RS, RF, cond_true, cond_false, List.nil_append, List.cons_append, List.toList_toArray, Option.isSome_some, Option.map_some, Option.map_none, Nat.reduceBEq, isShift, kEq, fEq, binInt, binFloat, shiftInt, binStr])
      have hx4 : Bx w.heap.size w2 (w3.drewN n) := hxx3.trans (Bx.of_bl (Bl.drewN _ _))
      have hown4 := own_bx hown hx4 hsz1
      have hsz4 := hx4.size
      refine app1 (v := fl r) st_28 hown4 (by omega) rfl (by simp [Value.cells, Value.oneCell']) (by omega) (by decide) ?_
      intro s' w5 ho5 hb5 hsz5 hk5 _
      (try simp only [RS, RF, cond_true, cond_false, List.nil_append, List.cons_append, List.toList_toArray, Option.isSome_some, Option.map_some, Option.map_none, Nat.reduceBEq, isShift, kEq, fEq, binInt, binFloat, shiftInt, binStr])
      rw [IntWalk.i64_in ((k : Int) + 1) (by omega), show (k : Int) + 1 = ((k + 1 : Nat) : Int) by omega]
      refine ⟨(k + 1, pl ++ [r], s'), (agr_cons rfl (agr_cons rfl (agr_cons rfl (agr_cons rfl (agr_nil))))), ⟨hlt, by simp [hlen], own_push ho5, ?_, ?_, ?_, by omega⟩, by show ps.length - (k + 1) < ps.length - k; omega⟩
      · intro y hy
        rcases List.mem_append.1 hy with hy | hy
        · exact hp y hy
        · simp at hy; subst hy; exact hpt.2.2
      · have e : 2 * (k + 1) = 2 * k + 2 := by omega
        rw [e]
        exact (hs3.bl (Bl.drewN w3 n)).keep fun g hg => hb5.block g (by omega)
      · have hx : Bl w (w3.drewN n) := (hb2.new hxx3 (Nat.le_refl _)).trans (Bl.drewN _ _)
        exact ⟨hb5.os.trans hx.os, hb5.tape.trans hx.tape, hb5.output.trans hx.output, Nat.le_trans hx.size hb5.size, fun i hi => (Below.block hb5 i (by omega)).trans (Below.block hx i hi)⟩
end Go.Proofs.Ytjgpnbchnenbeaa
