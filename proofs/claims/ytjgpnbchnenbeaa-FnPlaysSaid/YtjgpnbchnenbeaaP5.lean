/- FnPlays: the reference's play along a train; the widest play; bounds. -/
import Derived.Test.YtjgpnbchnenbeaaP4
namespace Go.Proofs.Ytjgpnbchnenbeaa
set_option linter.unusedSimpArgs false
set_option linter.unusedVariables false
open Go
open Go.RowKit (Below)

set_option maxRecDepth 100000 in
theorem l06Along_ct (w : World) (b o cap : Nat) (ps : List PairV) (g c : Nat) (pl : List Nat) (h : TrainAt w b o ps) (hg : PlAt w g pl) (hl : pl.length = ps.length) (hp : Parts pl) :
    Ct Try.prog 128 #[trainV b o cap ps, colV g ps.length c] w fun v w' => ∃ g' c', v = colV g' ps.length c' ∧ PlAt w' g' (alongL ps pl) ∧ Bl w w' := by
  have h1 := h.ge
  have h4 := h.le
  (refine fn_of_W Try.func128 rfl (by kernel_rfl) (by kernel_rfl) (Nat.le_of_ble_eq_true (by kernel_rfl)) ?_; (try simp only [RS, RF, cond_true, cond_false, List.nil_append, List.cons_append, List.toList_toArray, Option.isSome_some, Option.map_some, Option.map_none, Nat.reduceBEq, isShift, kEq, fEq, binInt, binFloat, shiftInt, binStr, Try.f128]))
  refine ⟨_, _, bs0 st_28 _, ?_⟩
  (try simp only [RS, RF, cond_true, cond_false, List.nil_append, List.cons_append, List.toList_toArray, Option.isSome_some, Option.map_some, Option.map_none, Nat.reduceBEq, isShift, kEq, fEq, binInt, binFloat, shiftInt, binStr])
  refine loop_W (σ := Nat × Value) (fun s => [(0, trainV b o cap ps), (1, colV g ps.length c), (5, s.2), (6, .int .i64 s.1)])
    (fun s w' => s.1 ≤ ps.length ∧ w'.ownsRow w.heap.size 26 1 s.2 s.1 (((List.range s.1).map (B ps pl)).map fl) ∧ Bl w w')
    (fun s => ps.length - s.1) (0, .slice (some ⟨w.heap.size, 0, none⟩) 0 0) (agr_cons rfl (agr_cons rfl (agr_cons rfl (agr_cons rfl (agr_nil))))) ?_ ?_
  · exact ⟨Nat.zero_le _, own0 w w.heap.size _ _ (Nat.le_refl _), Bl.alloc _ _⟩
  · rintro ⟨k, v⟩ w1 e1 ⟨hk, hown, hb1⟩
    simp only at hk hown
    (try simp only [RS, RF, cond_true, cond_false, List.nil_append, List.cons_append, List.toList_toArray, Option.isSome_some, Option.map_some, Option.map_none, Nat.reduceBEq, isShift, kEq, fEq, binInt, binFloat, shiftInt, binStr])
    intro b1 hb
    have hown1 := hown
    have push : ∀ (w2 : World) (K : Value → World → Prop), Bl w1 w2 → k < ps.length → (∀ s' w3, w3.ownsRow w.heap.size 26 1 s' (k + 1) (((List.range (k + 1)).map (B ps pl)).map fl) → Bl w w3 → K s' w3) →
        runW Try.prog (Builtin.append_ [28, 28].toArray 28 [v, .slice (some ⟨w2.heap.size, 0, none⟩) 1 1].toArray) (w2.alloc (.cells #[fl (B ps pl k)] 26)) K := by
      intro w2 K hb2 hlt hK
      have hs2 := (hb1.trans hb2).size
      refine app1 (v := fl (B ps pl k)) st_28 (own_bl hown1 hb2) hs2 rfl (by simp [Value.cells, Value.oneCell']) (by omega) (by decide) ?_
      intro s' w3 ho hbel hsz hkeep _
      refine hK s' w3 ?_ ((hb1.trans hb2).below' hbel)
      have e : (List.map fl (List.map (B ps pl) (List.range k)) ++ (fl (B ps pl k)).cells.toList) = ((List.range (k + 1)).map (B ps pl)).map fl := by
        rw [← range_push, List.map_append]; rfl
      rw [← e]; exact ho
    cases b1
    · (try simp only [RS, RF, cond_true, cond_false, List.nil_append, List.cons_append, List.toList_toArray, Option.isSome_some, Option.map_some, Option.map_none, Nat.reduceBEq, isShift, kEq, fEq, binInt, binFloat, shiftInt, binStr])
      have hk2 : k = ps.length := by have := hb.symm; simp at this; omega
      subst hk2
      have hlen : ((List.range ps.length).map (B ps pl)).length = ps.length := by simp
      obtain ⟨g', c', rfl, hg', _⟩ := own_fl hown (by omega)
      exact ⟨g', c', rfl, hg', hb1⟩
    · have hlt : k < ps.length := by have := hb.symm; simp at this; omega
      obtain ⟨x, hx⟩ := ex_get (l := pl) (j := k) (by omega)
      obtain ⟨p, hpk⟩ := ex_get (l := ps) (j := k) hlt
      (try simp only [RS, RF, cond_true, cond_false, List.nil_append, List.cons_append, List.toList_toArray, Option.isSome_some, Option.map_some, Option.map_none, Nat.reduceBEq, isShift, kEq, fEq, binInt, binFloat, shiftInt, binStr, Int.toNat_natCast])
      refine ⟨by omega, _, ld1 (by kernel_rfl) ((hg.bl hb1) k x hx), ?_⟩
      (try simp only [RS, RF, cond_true, cond_false, List.nil_append, List.cons_append, List.toList_toArray, Option.isSome_some, Option.map_some, Option.map_none, Nat.reduceBEq, isShift, kEq, fEq, binInt, binFloat, shiftInt, binStr])
      intro b2 hb2
      cases b2
      · have hk0 : k = 0 := by have := hb2.symm; simp at this; omega
        subst hk0
        (try simp only [RS, RF, cond_true, cond_false, List.nil_append, List.cons_append, List.toList_toArray, Option.isSome_some, Option.map_some, Option.map_none, Nat.reduceBEq, isShift, kEq, fEq, binInt, binFloat, shiftInt, binStr])
        have hx0 : x = B ps pl 0 := (get_some hx).symm
        subst hx0
        (have hr__ := bs1 st_28 w1 (fl (B ps pl 0)) rfl (by decide); refine ⟨_, _, hr__, ?_⟩; clear hr__)
        (try simp only [RS, RF, cond_true, cond_false, List.nil_append, List.cons_append, List.toList_toArray, Option.isSome_some, Option.map_some, Option.map_none, Nat.reduceBEq, isShift, kEq, fEq, binInt, binFloat, shiftInt, binStr])
        refine push w1 _ (Bl.refl _) (by omega) ?_
        intro s' w3 ho hb3
        (try simp only [RS, RF, cond_true, cond_false, List.nil_append, List.cons_append, List.toList_toArray, Option.isSome_some, Option.map_some, Option.map_none, Nat.reduceBEq, isShift, kEq, fEq, binInt, binFloat, shiftInt, binStr])
        exact ⟨(1, s'), (agr_cons rfl (agr_cons rfl (agr_cons rfl (agr_cons rfl (agr_nil))))), ⟨by omega, ho, hb3⟩, by show ps.length - 1 < ps.length - 0; omega⟩
      · have hk0 : 0 < k := by have := hb2.symm; simp at this; omega
        obtain ⟨j, rfl⟩ : ∃ j, k = j + 1 := ⟨k - 1, by omega⟩
        have hlen : ((List.range (j + 1)).map (B ps pl)).length = j + 1 := by simp
        obtain ⟨g', c', rfl, hg', _⟩ := own_fl hown (by omega)
        have hlast : w1.cell? ⟨g', j, none⟩ = some (fl (B ps pl j)) := hg' j _ (by rw [List.getElem?_map, List.getElem?_range (by omega)]; rfl)
        obtain ⟨c1, c2, c3⟩ := (h.bl hb1).cells (j + 1) p hpk
        have hok := h.ok p (List.mem_of_getElem? hpk)
        (try simp only [RS, RF, cond_true, cond_false, List.nil_append, List.cons_append, List.toList_toArray, Option.isSome_some, Option.map_some, Option.map_none, Nat.reduceBEq, isShift, kEq, fEq, binInt, binFloat, shiftInt, binStr])
        refine draw_rule 21 (fun _ _ u => u = fl (upW p)) mixed (by kernel_rfl) ?_
        (try simp only [RS, RF, cond_true, cond_false, List.nil_append, List.cons_append, List.toList_toArray, Option.isSome_some, Option.map_some, Option.map_none, Nat.reduceBEq, isShift, kEq, fEq, binInt, binFloat, shiftInt, binStr])
        rw [IntWalk.i64_in (((j + 1 : Nat) : Int) - 1) (by omega), show ((j + 1 : Nat) : Int) - 1 = (j : Int) by omega]
        (try simp only [RS, RF, cond_true, cond_false, List.nil_append, List.cons_append, List.toList_toArray, Option.isSome_some, Option.map_some, Option.map_none, Nat.reduceBEq, isShift, kEq, fEq, binInt, binFloat, shiftInt, binStr, Int.toNat_natCast])
        refine ⟨by omega, _, ldc (by kernel_rfl) hlast, by omega, _, ldc (by kernel_rfl) c1, by omega, _, ldc (by kernel_rfl) c2, ?_⟩
        (try simp only [RS, RF, cond_true, cond_false, List.nil_append, List.cons_append, List.toList_toArray, Option.isSome_some, Option.map_some, Option.map_none, Nat.reduceBEq, isShift, kEq, fEq, binInt, binFloat, shiftInt, binStr])
        refine ⟨fun w2 hw2 => (quot_ct w2 p hok).mono ?_, ?_⟩
        · rintro _ w3 ⟨rfl, hw3⟩
          exact ⟨rfl, hw2.trans hw3⟩
        rintro _ rfl
        (try simp only [RS, RF, cond_true, cond_false, List.nil_append, List.cons_append, List.toList_toArray, Option.isSome_some, Option.map_some, Option.map_none, Nat.reduceBEq, isShift, kEq, fEq, binInt, binFloat, shiftInt, binStr, Int.toNat_natCast])
        intro r n hr
        refine ⟨by omega, _, ldc (by kernel_rfl) ((hg.bl hb1) (j + 1) x hx), ?_⟩
        (try simp only [RS, RF, cond_true, cond_false, List.nil_append, List.cons_append, List.toList_toArray, Option.isSome_some, Option.map_some, Option.map_none, Nat.reduceBEq, isShift, kEq, fEq, binInt, binFloat, shiftInt, binStr])
        intro w2 hw2
        (try simp only [RS, RF, cond_true, cond_false, List.nil_append, List.cons_append, List.toList_toArray, Option.isSome_some, Option.map_some, Option.map_none, Nat.reduceBEq, isShift, kEq, fEq, binInt, binFloat, shiftInt, binStr])
        intro s m hs
        have hsB := B_step h.ok hp h4 hpk hx hr hs
        subst hsB
        (try simp only [RS, RF, cond_true, cond_false, List.nil_append, List.cons_append, List.toList_toArray, Option.isSome_some, Option.map_some, Option.map_none, Nat.reduceBEq, isShift, kEq, fEq, binInt, binFloat, shiftInt, binStr])
        have hb3 : Bl w1 (w2.drewN m) := hw2.trans (Bl.drewN _ _)
        (have hr__ := bs1 st_28 (w2.drewN m) (fl (B ps pl (j + 1))) rfl (by decide); refine ⟨_, _, hr__, ?_⟩; clear hr__)
        (try simp only [RS, RF, cond_true, cond_false, List.nil_append, List.cons_append, List.toList_toArray, Option.isSome_some, Option.map_some, Option.map_none, Nat.reduceBEq, isShift, kEq, fEq, binInt, binFloat, shiftInt, binStr])
        refine push _ _ hb3 hlt ?_
        intro s' w3 ho hb3
        (try simp only [RS, RF, cond_true, cond_false, List.nil_append, List.cons_append, List.toList_toArray, Option.isSome_some, Option.map_some, Option.map_none, Nat.reduceBEq, isShift, kEq, fEq, binInt, binFloat, shiftInt, binStr])
        rw [IntWalk.i64_in (((j + 1 : Nat) : Int) + 1) (by omega)]
        exact ⟨(j + 2, s'), (agr_cons rfl (agr_cons rfl (agr_cons rfl (agr_cons rfl (agr_nil))))), ⟨by omega, ho, hb3⟩, by show ps.length - (j + 2) < ps.length - (j + 1); omega⟩
set_option maxRecDepth 100000 in
theorem l06Last_ct (w : World) (b o cap : Nat) (ps : List PairV) (g c : Nat) (pl : List Nat) (h : TrainAt w b o ps) (hg : PlAt w g pl) (hl : pl.length = ps.length) (hp : Parts pl) :
    Ct Try.prog 130 #[trainV b o cap ps, colV g ps.length c] w (Is (fl (endB ps pl)) w) := by
  have h1 := h.ge
  have h4 := h.le
  (refine fn_of_W Try.func130 rfl (by kernel_rfl) (by kernel_rfl) (Nat.le_of_ble_eq_true (by kernel_rfl)) ?_; (try simp only [RS, RF, cond_true, cond_false, List.nil_append, List.cons_append, List.toList_toArray, Option.isSome_some, Option.map_some, Option.map_none, Nat.reduceBEq, isShift, kEq, fEq, binInt, binFloat, shiftInt, binStr, Try.f130]))
  (refine (l06Along_ct w b o cap ps g c pl h hg hl hp).mono ?_; rintro _ w1 ⟨g', c', rfl, hg', hw1⟩)
  (try simp only [RS, RF, cond_true, cond_false, List.nil_append, List.cons_append, List.toList_toArray, Option.isSome_some, Option.map_some, Option.map_none, Nat.reduceBEq, isShift, kEq, fEq, binInt, binFloat, shiftInt, binStr])
  rw [IntWalk.i64_in ((ps.length : Int) - 1) (by omega), show (ps.length : Int) - 1 = ((ps.length - 1 : Nat) : Int) by omega]
  (try simp only [RS, RF, cond_true, cond_false, List.nil_append, List.cons_append, List.toList_toArray, Option.isSome_some, Option.map_some, Option.map_none, Nat.reduceBEq, isShift, kEq, fEq, binInt, binFloat, shiftInt, binStr, Int.toNat_natCast])
  refine ⟨by omega, _, ld1 (by kernel_rfl) (hg' (ps.length - 1) _ (alongL_get (by omega))), ?_⟩
  (try simp only [RS, RF, cond_true, cond_false, List.nil_append, List.cons_append, List.toList_toArray, Option.isSome_some, Option.map_some, Option.map_none, Nat.reduceBEq, isShift, kEq, fEq, binInt, binFloat, shiftInt, binStr])
  exact ⟨rfl, hw1⟩
set_option maxRecDepth 100000 in
theorem sPlayAt_ct (w : World) (b o cap : Nat) (ps : List PairV) (g c : Nat) (pl : List Nat) (h : TrainAt w b o ps) (hg : PlAt w g pl) (hl : pl.length = ps.length) (hp : Parts pl) :
    Ct Try.prog 40 #[trainV b o cap ps, colV g ps.length c] w (Is (.tuple #[fl (endB ps pl), .int .i64 0]) w) := by
  (refine fn_of_W Try.func40 rfl (by kernel_rfl) (by kernel_rfl) (Nat.le_of_ble_eq_true (by kernel_rfl)) ?_; (try simp only [RS, RF, cond_true, cond_false, List.nil_append, List.cons_append, List.toList_toArray, Option.isSome_some, Option.map_some, Option.map_none, Nat.reduceBEq, isShift, kEq, fEq, binInt, binFloat, shiftInt, binStr, Try.f40]))
  (refine (l06Asked_ct w b o cap ps g c pl h hg hl hp).mono ?_; rintro _ w1 ⟨rfl, hw1⟩)
  (try simp only [RS, RF, cond_true, cond_false, List.nil_append, List.cons_append, List.toList_toArray, Option.isSome_some, Option.map_some, Option.map_none, Nat.reduceBEq, isShift, kEq, fEq, binInt, binFloat, shiftInt, binStr])
  intro b1 hb1
  have : b1 = false := by rw [hb1]; rfl
  subst this
  (try simp only [RS, RF, cond_true, cond_false, List.nil_append, List.cons_append, List.toList_toArray, Option.isSome_some, Option.map_some, Option.map_none, Nat.reduceBEq, isShift, kEq, fEq, binInt, binFloat, shiftInt, binStr])
  (refine (l06Last_ct w1 b o cap ps g c pl (h.bl hw1) (hg.bl hw1) hl hp).mono ?_; rintro _ w2 ⟨rfl, hw2⟩)
  (try simp only [RS, RF, cond_true, cond_false, List.nil_append, List.cons_append, List.toList_toArray, Option.isSome_some, Option.map_some, Option.map_none, Nat.reduceBEq, isShift, kEq, fEq, binInt, binFloat, shiftInt, binStr])
  exact ⟨rfl, hw1.trans hw2⟩
set_option maxRecDepth 100000 in
theorem sPlaysAlong_ct (w : World) (b o cap : Nat) (ps : List PairV) (g c : Nat) (pl : List Nat) (h : TrainAt w b o ps) (hg : PlAt w g pl) (hl : pl.length = ps.length) (hp : Parts pl) :
    Ct Try.prog 38 #[trainV b o cap ps, colV g ps.length c] w fun v w' => ∃ g' c', v = .tuple #[colV g' ps.length c', .int .i64 0] ∧ PlAt w' g' (alongL ps pl) ∧ Bl w w' := by
  (refine fn_of_W Try.func38 rfl (by kernel_rfl) (by kernel_rfl) (Nat.le_of_ble_eq_true (by kernel_rfl)) ?_; (try simp only [RS, RF, cond_true, cond_false, List.nil_append, List.cons_append, List.toList_toArray, Option.isSome_some, Option.map_some, Option.map_none, Nat.reduceBEq, isShift, kEq, fEq, binInt, binFloat, shiftInt, binStr, Try.f38]))
  (refine (l06Asked_ct w b o cap ps g c pl h hg hl hp).mono ?_; rintro _ w1 ⟨rfl, hw1⟩)
  (try simp only [RS, RF, cond_true, cond_false, List.nil_append, List.cons_append, List.toList_toArray, Option.isSome_some, Option.map_some, Option.map_none, Nat.reduceBEq, isShift, kEq, fEq, binInt, binFloat, shiftInt, binStr])
  intro b1 hb1
  have : b1 = false := by rw [hb1]; rfl
  subst this
  (try simp only [RS, RF, cond_true, cond_false, List.nil_append, List.cons_append, List.toList_toArray, Option.isSome_some, Option.map_some, Option.map_none, Nat.reduceBEq, isShift, kEq, fEq, binInt, binFloat, shiftInt, binStr])
  (refine (l06Along_ct w1 b o cap ps g c pl (h.bl hw1) (hg.bl hw1) hl hp).mono ?_; rintro _ w2 ⟨g', c', rfl, hg', hw2⟩)
  (try simp only [RS, RF, cond_true, cond_false, List.nil_append, List.cons_append, List.toList_toArray, Option.isSome_some, Option.map_some, Option.map_none, Nat.reduceBEq, isShift, kEq, fEq, binInt, binFloat, shiftInt, binStr])
  exact ⟨g', c', rfl, hg', hw1.trans hw2⟩
set_option maxRecDepth 100000 in
theorem SameNumbers_ct (w : World) (n g g' c c' : Nat) (pl : List Nat) (hF : PlAt w g pl) (hG : PlAt w g' pl) (hl : pl.length = n) (hn : n ≤ 1000000) :
    Ct Try.prog 43 #[colV g n c, colV g' n c'] w (Is (.bool true) w) := by
  (refine fn_of_W Try.func43 rfl (by kernel_rfl) (by kernel_rfl) (Nat.le_of_ble_eq_true (by kernel_rfl)) ?_; (try simp only [RS, RF, cond_true, cond_false, List.nil_append, List.cons_append, List.toList_toArray, Option.isSome_some, Option.map_some, Option.map_none, Nat.reduceBEq, isShift, kEq, fEq, binInt, binFloat, shiftInt, binStr, Try.f43]))
  intro b1 hb1
  have : b1 = false := by rw [hb1]; simp
  subst this
  (try simp only [RS, RF, cond_true, cond_false, List.nil_append, List.cons_append, List.toList_toArray, Option.isSome_some, Option.map_some, Option.map_none, Nat.reduceBEq, isShift, kEq, fEq, binInt, binFloat, shiftInt, binStr])
  refine loop_W (σ := Nat) (fun k => [(0, colV g n c), (1, colV g' n c'), (5, .int .i64 k)]) (fun k w' => k ≤ n ∧ Bl w w') (fun k => n - k) 0 (agr_cons rfl (agr_cons rfl (agr_cons rfl (agr_nil)))) ⟨Nat.zero_le _, Bl.refl w⟩ ?_
  rintro k w1 e1 ⟨hk, hb⟩
  (try simp only [RS, RF, cond_true, cond_false, List.nil_append, List.cons_append, List.toList_toArray, Option.isSome_some, Option.map_some, Option.map_none, Nat.reduceBEq, isShift, kEq, fEq, binInt, binFloat, shiftInt, binStr])
  intro b1 hb1
  cases b1
  · (try simp only [RS, RF, cond_true, cond_false, List.nil_append, List.cons_append, List.toList_toArray, Option.isSome_some, Option.map_some, Option.map_none, Nat.reduceBEq, isShift, kEq, fEq, binInt, binFloat, shiftInt, binStr])
    exact ⟨rfl, hb⟩
  · have hlt : k < n := by have := hb1.symm; simp at this; omega
    obtain ⟨x, hx⟩ := ex_get (l := pl) (j := k) (by omega)
    (try simp only [RS, RF, cond_true, cond_false, List.nil_append, List.cons_append, List.toList_toArray, Option.isSome_some, Option.map_some, Option.map_none, Nat.reduceBEq, isShift, kEq, fEq, binInt, binFloat, shiftInt, binStr])
    refine draw_rule 8 (fun _ _ _ => False) mixed (by kernel_rfl) ?_
    (try simp only [RS, RF, cond_true, cond_false, List.nil_append, List.cons_append, List.toList_toArray, Option.isSome_some, Option.map_some, Option.map_none, Nat.reduceBEq, isShift, kEq, fEq, binInt, binFloat, shiftInt, binStr, Int.toNat_natCast])
    refine ⟨by omega, _, ldc (by kernel_rfl) (hb.cell (hF k x hx)), by omega, _, ldc (by kernel_rfl) (hb.cell (hG k x hx)), ?_⟩
    (try simp only [RS, RF, cond_true, cond_false, List.nil_append, List.cons_append, List.toList_toArray, Option.isSome_some, Option.map_some, Option.map_none, Nat.reduceBEq, isShift, kEq, fEq, binInt, binFloat, shiftInt, binStr])
    intro w2 hw2
    (try simp only [RS, RF, cond_true, cond_false, List.nil_append, List.cons_append, List.toList_toArray, Option.isSome_some, Option.map_some, Option.map_none, Nat.reduceBEq, isShift, kEq, fEq, binInt, binFloat, shiftInt, binStr])
    (refine (l01Same_ct w2 x x).mono ?_; rintro _ w3 ⟨rfl, hw3⟩)
    rw [decide_eq_true rfl]
    (try simp only [RS, RF, cond_true, cond_false, List.nil_append, List.cons_append, List.toList_toArray, Option.isSome_some, Option.map_some, Option.map_none, Nat.reduceBEq, isShift, kEq, fEq, binInt, binFloat, shiftInt, binStr])
    rw [IntWalk.i64_in ((k : Int) + 1) (by omega), show (k : Int) + 1 = ((k + 1 : Nat) : Int) by omega]
    exact ⟨k + 1, (agr_cons rfl (agr_cons rfl (agr_cons rfl (agr_nil)))), ⟨hlt, (hb.trans hw2).trans hw3⟩, by omega⟩

/-! ### The widest play -/
def wide (E : Nat → Nat) : Nat → Nat × Nat
  | 0 => (0, 0)
  | k + 1 => if k = 0 ∨ E k < (wide E k).2 then (k, E k) else wide E k
theorem wide_spec (E : Nat → Nat) : ∀ n, (wide E (n + 1)).1 ≤ n ∧ E (wide E (n + 1)).1 = (wide E (n + 1)).2 ∧ (∀ i, i ≤ n → (wide E (n + 1)).2 ≤ E i) ∧ ∀ i, i ≤ n → E i = (wide E (n + 1)).2 → (wide E (n + 1)).1 ≤ i := by
  intro n
  induction n with
  | zero =>
    have e : wide E 1 = (0, E 0) := by unfold wide; rw [if_pos (.inl rfl)]
    rw [e]
    exact ⟨Nat.le_refl _, rfl, fun i hi => by have : i = 0 := by omega
                                              subst this; exact Nat.le_refl _, fun i hi _ => Nat.zero_le _⟩
  | succ n ih =>
    obtain ⟨h1, h2, h3, h4⟩ := ih
    by_cases hc : E (n + 1) < (wide E (n + 1)).2
    · have e : wide E (n + 1 + 1) = (n + 1, E (n + 1)) := by show (if n + 1 = 0 ∨ E (n + 1) < (wide E (n + 1)).2 then (n + 1, E (n + 1)) else wide E (n + 1)) = _; rw [if_pos (.inr hc)]
      rw [e]
      refine ⟨Nat.le_refl _, rfl, fun i hi => ?_, fun i hi he => ?_⟩
      · rcases Nat.lt_or_ge i (n + 1) with h | h
        · have := h3 i (by omega); show E (n + 1) ≤ E i; omega
        · have : i = n + 1 := by omega
          subst this; exact Nat.le_refl _
      · rcases Nat.lt_or_ge i (n + 1) with h | h
        · have := h3 i (by omega)
          have he : E i = E (n + 1) := he
          omega
        · exact h
    · have e : wide E (n + 1 + 1) = wide E (n + 1) := by show (if n + 1 = 0 ∨ E (n + 1) < (wide E (n + 1)).2 then (n + 1, E (n + 1)) else wide E (n + 1)) = _; rw [if_neg (by omega)]
      rw [e]
      refine ⟨by omega, h2, fun i hi => ?_, fun i hi he => ?_⟩
      · rcases Nat.lt_or_ge i (n + 1) with h | h
        · exact h3 i (by omega)
        · have : i = n + 1 := by omega
          subst this; omega
      · rcases Nat.lt_or_ge i (n + 1) with h | h
        · exact h4 i (by omega) he
        · omega
theorem wide_fin {E : Nat → Nat} {n : Nat} (h : ∀ k, k < n → E k < 2139095040) : (wide E n).2 < 2139095040 := by
  cases n with
  | zero => show 0 < _; omega
  | succ n =>
    obtain ⟨h1, h2, _⟩ := wide_spec E n
    rw [← h2]; exact h _ (by omega)
def wideE (ps : List PairV) (pl : List Nat) (i : Nat) : Nat := endB ps (pl.set i 0)
theorem Parts.set {pl : List Nat} (h : Parts pl) (i : Nat) {x : Nat} (hx : x ≤ 1065353216) : Parts (pl.set i x) := by
  intro a ha
  rcases List.mem_or_eq_of_mem_set ha with h1 | h1
  · exact h a h1
  · omega
theorem endB_fin {ps : List PairV} {pl : List Nat} (hok : ∀ p ∈ ps, PairOK p) (hp : Parts pl) (h1 : 1 ≤ ps.length) (h4 : ps.length ≤ 4) : endB ps pl < 2139095040 := B_fin hok hp h4 (by omega)

theorem slice_nn (w : World) (g n c : Nat) : (do eqGuard .eql 28 (.tmp 3) (.const (.slice none 0 0)) (colV g n c) (.slice none 0 0); binOp .eql 28 (colV g n c) (.slice none 0 0) : Sem Value).run Try.prog w = .ok (.bool false) w := by kernel_rfl
set_option maxRecDepth 100000 in
theorem clone_ct (w : World) (n g c : Nat) (pl : List Nat) (hg : PlAt w g pl) (hl : pl.length = n) (h1 : 1 ≤ n) (hn : n ≤ 1000) :
    Ct Try.prog 131 #[colV g n c] w fun v w' => ∃ g' c', v = colV g' n c' ∧ w'.ownsRow w.heap.size 26 1 v n (pl.map fl) ∧ Bl w w' := by
  (refine fn_of_W Try.func131 rfl (by kernel_rfl) (by kernel_rfl) (Nat.le_of_ble_eq_true (by kernel_rfl)) ?_; (try simp only [RS, RF, cond_true, cond_false, List.nil_append, List.cons_append, List.toList_toArray, Option.isSome_some, Option.map_some, Option.map_none, Nat.reduceBEq, isShift, kEq, fEq, binInt, binFloat, shiftInt, binStr, Try.f131]))
  (have hr__ := slice_nn w g n c; refine ⟨_, _, hr__, ?_⟩; clear hr__)
  (try simp only [RS, RF, cond_true, cond_false, List.nil_append, List.cons_append, List.toList_toArray, Option.isSome_some, Option.map_some, Option.map_none, Nat.reduceBEq, isShift, kEq, fEq, binInt, binFloat, shiftInt, binStr])
  refine ⟨_, _, bs0 st_28 _, ?_⟩
  (try simp only [RS, RF, cond_true, cond_false, List.nil_append, List.cons_append, List.toList_toArray, Option.isSome_some, Option.map_some, Option.map_none, Nat.reduceBEq, isShift, kEq, fEq, binInt, binFloat, shiftInt, binStr])
  refine appN (B := w.heap.size) (n := 0) (xs := []) (m := n) (news := pl.map fl) st_28 (own0 w w.heap.size _ _ (Nat.le_refl _)) (by rw [alloc_size]; omega) (by simp [hl]) ?_ ?_ (by omega) (by decide) ?_
  · intro j u hu
    rw [add_off, Nat.zero_add]
    rw [List.getElem?_map] at hu
    cases hx : pl[j]? with
    | none => rw [hx] at hu; cases hu
    | some x =>
      rw [hx] at hu
      simp only [Option.map_some, Option.some.injEq] at hu
      subst hu
      exact (Bl.alloc w _).cell (hg j x hx)
  · intro u hu
    obtain ⟨x, _, rfl⟩ := List.mem_map.1 hu
    rfl
  · intro s' w1 ho hb hsz hk
    (try simp only [RS, RF, cond_true, cond_false, List.nil_append, List.cons_append, List.toList_toArray, Option.isSome_some, Option.map_some, Option.map_none, Nat.reduceBEq, isShift, kEq, fEq, binInt, binFloat, shiftInt, binStr])
    rw [Nat.zero_add, List.nil_append] at ho
    obtain ⟨g', c', rfl, _, _⟩ := own_fl ho (by omega)
    exact ⟨g', c', rfl, ho, (Bl.alloc w _).below' hb⟩

set_option maxRecDepth 100000 in
theorem WidestPlay_ct (w : World) (b o cap : Nat) (ps : List PairV) (g c : Nat) (pl : List Nat) (h : TrainAt w b o ps) (hg : PlAt w g pl) (hl : pl.length = ps.length) (hp : Parts pl) :
    Ct Try.prog 41 #[trainV b o cap ps, colV g ps.length c] w (Is (.tuple #[.int .i64 (wide (wideE ps pl) ps.length).1, fl (wide (wideE ps pl) ps.length).2, .int .i64 0]) w) := by
  have h1 := h.ge
  have h4 := h.le
  (refine fn_of_W Try.func41 rfl (by kernel_rfl) (by kernel_rfl) (Nat.le_of_ble_eq_true (by kernel_rfl)) ?_; (try simp only [RS, RF, cond_true, cond_false, List.nil_append, List.cons_append, List.toList_toArray, Option.isSome_some, Option.map_some, Option.map_none, Nat.reduceBEq, isShift, kEq, fEq, binInt, binFloat, shiftInt, binStr, Try.f41]))
  (have hr__ := bs1 st_184 w (colV g ps.length c) rfl (by decide); refine ⟨_, _, hr__, ?_⟩; clear hr__)
  (try simp only [RS, RF, cond_true, cond_false, List.nil_append, List.cons_append, List.toList_toArray, Option.isSome_some, Option.map_some, Option.map_none, Nat.reduceBEq, isShift, kEq, fEq, binInt, binFloat, shiftInt, binStr])
  have hw0 : Bl w (w.alloc (.cells (colV g ps.length c).cells 28)) := Bl.alloc w _
  (refine (playCode_ct _ b o cap ps w.heap.size 1 [(g, c, pl)] (h.bl hw0) (lists1 hg hl hp _) (by simp)).mono ?_; rintro _ w1 ⟨rfl, hw1⟩)
  (try simp only [RS, RF, cond_true, cond_false, List.nil_append, List.cons_append, List.toList_toArray, Option.isSome_some, Option.map_some, Option.map_none, Nat.reduceBEq, isShift, kEq, fEq, binInt, binFloat, shiftInt, binStr])
  intro b1 hb1
  have : b1 = false := by rw [hb1]; rfl
  subst this
  (try simp only [RS, RF, cond_true, cond_false, List.nil_append, List.cons_append, List.toList_toArray, Option.isSome_some, Option.map_some, Option.map_none, Nat.reduceBEq, isShift, kEq, fEq, binInt, binFloat, shiftInt, binStr])
  have hb1 := hw0.trans hw1
  refine loop_W (σ := Nat) (fun k => [(0, trainV b o cap ps), (1, colV g ps.length c), (8, .int .i64 (wide (wideE ps pl) k).1), (9, fl (wide (wideE ps pl) k).2), (21, .int .i64 ps.length), (22, .int .i64 k)]) (fun k w' => k ≤ ps.length ∧ Bl w w') (fun k => ps.length - k) 0 (agr_cons rfl (agr_cons rfl (agr_cons rfl (agr_cons rfl (agr_cons rfl (agr_cons rfl (agr_nil))))))) ⟨by omega, hb1⟩ ?_
  rintro k w2 e2 ⟨hk, hb2⟩
  (try simp only [RS, RF, cond_true, cond_false, List.nil_append, List.cons_append, List.toList_toArray, Option.isSome_some, Option.map_some, Option.map_none, Nat.reduceBEq, isShift, kEq, fEq, binInt, binFloat, shiftInt, binStr])
  intro b2 h2
  cases b2
  · (try simp only [RS, RF, cond_true, cond_false, List.nil_append, List.cons_append, List.toList_toArray, Option.isSome_some, Option.map_some, Option.map_none, Nat.reduceBEq, isShift, kEq, fEq, binInt, binFloat, shiftInt, binStr])
    have hk2 : k = ps.length := by have := h2.symm; simp at this; omega
    subst hk2
    exact ⟨rfl, hb2⟩
  · have hlt : k < ps.length := by have := h2.symm; simp at this; omega
    (try simp only [RS, RF, cond_true, cond_false, List.nil_append, List.cons_append, List.toList_toArray, Option.isSome_some, Option.map_some, Option.map_none, Nat.reduceBEq, isShift, kEq, fEq, binInt, binFloat, shiftInt, binStr])
    (refine (clone_ct w2 ps.length g c pl (hg.bl hb2) hl h1 (by omega)).mono ?_; rintro _ w3 ⟨g3, c3, rfl, ho3, hw3⟩)
    (try simp only [RS, RF, cond_true, cond_false, List.nil_append, List.cons_append, List.toList_toArray, Option.isSome_some, Option.map_some, Option.map_none, Nat.reduceBEq, isShift, kEq, fEq, binInt, binFloat, shiftInt, binStr, Int.toNat_natCast])
    refine ⟨by omega, ?_⟩
    obtain ⟨w4, hr4, ho4, hx4, hsz4⟩ := own_set (P := Try.prog) 26 k (fl 0) ho3 (by kernel_rfl) rfl hlt
    refine ⟨_, hr4, ?_⟩
    (try simp only [RS, RF, cond_true, cond_false, List.nil_append, List.cons_append, List.toList_toArray, Option.isSome_some, Option.map_some, Option.map_none, Nat.reduceBEq, isShift, kEq, fEq, binInt, binFloat, shiftInt, binStr])
    have hb4 : Bl w w4 := (hb2.trans hw3).new hx4 (by have := hb2.size; have := (ho3.lt g3 rfl).1; omega)
    have hset : PlAt w4 g3 (pl.set k 0) := by
      rw [← List.map_set (f := fl)] at ho4
      exact fun j x hx => own_cell ho4 hx
    (refine (atEnd_ct w4 b o cap ps g3 c3 (pl.set k 0) (h.bl hb4) hset (by simp [hl]) (hp.set k (by omega))).mono ?_; rintro _ w5 ⟨rfl, hw5⟩)
    have hE : endB ps (pl.set k 0) < 2139095040 := endB_fin h.ok (hp.set k (by omega)) h1 h4
    have hW : (wide (wideE ps pl) k).2 < 2139095040 := wide_fin fun j hj => endB_fin h.ok (hp.set j (by omega)) h1 h4
    (try simp only [RS, RF, cond_true, cond_false, List.nil_append, List.cons_append, List.toList_toArray, Option.isSome_some, Option.map_some, Option.map_none, Nat.reduceBEq, isShift, kEq, fEq, binInt, binFloat, shiftInt, binStr])
    have fin : ∀ (e6 : Env), (∃ s2 : Nat, agrees e6 [(0, trainV b o cap ps), (1, colV g ps.length c), (8, .int .i64 (wide (wideE ps pl) s2).1), (9, fl (wide (wideE ps pl) s2).2), (21, .int .i64 ps.length), (22, .int .i64 s2)] ∧ s2 = k + 1) →
        ∃ s2 : Nat, agrees e6 [(0, trainV b o cap ps), (1, colV g ps.length c), (8, .int .i64 (wide (wideE ps pl) s2).1), (9, fl (wide (wideE ps pl) s2).2), (21, .int .i64 ps.length), (22, .int .i64 s2)] ∧ (s2 ≤ ps.length ∧ Bl w w5) ∧ ps.length - s2 < ps.length - k := by
      rintro e6 ⟨s2, ha, rfl⟩
      exact ⟨k + 1, ha, ⟨hlt, hb4.trans hw5⟩, by omega⟩
    intro b3 h3
    cases b3
    · have hk0 : k ≠ 0 := by have := h3.symm; simp at this; omega
      (try simp only [RS, RF, cond_true, cond_false, List.nil_append, List.cons_append, List.toList_toArray, Option.isSome_some, Option.map_some, Option.map_none, Nat.reduceBEq, isShift, kEq, fEq, binInt, binFloat, shiftInt, binStr])
      intro b4 h4'
      rw [flt_pos hE hW] at h4'
      cases b4
      · (try simp only [RS, RF, cond_true, cond_false, List.nil_append, List.cons_append, List.toList_toArray, Option.isSome_some, Option.map_some, Option.map_none, Nat.reduceBEq, isShift, kEq, fEq, binInt, binFloat, shiftInt, binStr])
        rw [IntWalk.i64_in ((k : Int) + 1) (by omega), show (k : Int) + 1 = ((k + 1 : Nat) : Int) by omega]
        refine fin _ ⟨k + 1, ?_, rfl⟩
        have hn : ¬ endB ps (pl.set k 0) < (wide (wideE ps pl) k).2 := fun hc => by rw [decide_eq_true hc] at h4'; cases h4'
        have e : wide (wideE ps pl) (k + 1) = wide (wideE ps pl) k := by
          show (if k = 0 ∨ endB ps (pl.set k 0) < (wide (wideE ps pl) k).2 then (k, endB ps (pl.set k 0)) else wide (wideE ps pl) k) = _
          rw [if_neg (by omega)]
        rw [e]
        exact (agr_cons rfl (agr_cons rfl (agr_cons rfl (agr_cons rfl (agr_cons rfl (agr_cons rfl (agr_nil)))))))
      · (try simp only [RS, RF, cond_true, cond_false, List.nil_append, List.cons_append, List.toList_toArray, Option.isSome_some, Option.map_some, Option.map_none, Nat.reduceBEq, isShift, kEq, fEq, binInt, binFloat, shiftInt, binStr])
        rw [IntWalk.i64_in ((k : Int) + 1) (by omega), show (k : Int) + 1 = ((k + 1 : Nat) : Int) by omega]
        refine fin _ ⟨k + 1, ?_, rfl⟩
        have hn : endB ps (pl.set k 0) < (wide (wideE ps pl) k).2 := of_decide_eq_true h4'.symm
        have e : wide (wideE ps pl) (k + 1) = (k, endB ps (pl.set k 0)) := by
          show (if k = 0 ∨ endB ps (pl.set k 0) < (wide (wideE ps pl) k).2 then (k, endB ps (pl.set k 0)) else wide (wideE ps pl) k) = _
          rw [if_pos (.inr hn)]
        rw [e]
        exact (agr_cons rfl (agr_cons rfl (agr_cons rfl (agr_cons rfl (agr_cons rfl (agr_cons rfl (agr_nil)))))))
    · have hk0 : k = 0 := by have := h3.symm; simp at this; omega
      subst hk0
      (try simp only [RS, RF, cond_true, cond_false, List.nil_append, List.cons_append, List.toList_toArray, Option.isSome_some, Option.map_some, Option.map_none, Nat.reduceBEq, isShift, kEq, fEq, binInt, binFloat, shiftInt, binStr])
      refine fin _ ⟨1, ?_, rfl⟩
      have e : wide (wideE ps pl) 1 = (0, endB ps (pl.set 0 0)) := rfl
      rw [e]
      exact (agr_cons rfl (agr_cons rfl (agr_cons rfl (agr_cons rfl (agr_cons rfl (agr_cons rfl (agr_nil)))))))
set_option maxRecDepth 100000 in
theorem sWidestPlay_ct (w : World) (b o cap : Nat) (ps : List PairV) (g c : Nat) (pl : List Nat) (h : TrainAt w b o ps) (hg : PlAt w g pl) (hl : pl.length = ps.length) (hp : Parts pl) :
    Ct Try.prog 42 #[trainV b o cap ps, colV g ps.length c] w (Is (.tuple #[.int .i64 (wide (wideE ps pl) ps.length).1, fl (wide (wideE ps pl) ps.length).2, .int .i64 0]) w) := by
  have h1 := h.ge
  have h4 := h.le
  (refine fn_of_W Try.func42 rfl (by kernel_rfl) (by kernel_rfl) (Nat.le_of_ble_eq_true (by kernel_rfl)) ?_; (try simp only [RS, RF, cond_true, cond_false, List.nil_append, List.cons_append, List.toList_toArray, Option.isSome_some, Option.map_some, Option.map_none, Nat.reduceBEq, isShift, kEq, fEq, binInt, binFloat, shiftInt, binStr, Try.f42]))
  (refine (l06Asked_ct w b o cap ps g c pl h hg hl hp).mono ?_; rintro _ w1 ⟨rfl, hw1⟩)
  (try simp only [RS, RF, cond_true, cond_false, List.nil_append, List.cons_append, List.toList_toArray, Option.isSome_some, Option.map_some, Option.map_none, Nat.reduceBEq, isShift, kEq, fEq, binInt, binFloat, shiftInt, binStr])
  intro b1 hb1
  have : b1 = false := by rw [hb1]; rfl
  subst this
  (try simp only [RS, RF, cond_true, cond_false, List.nil_append, List.cons_append, List.toList_toArray, Option.isSome_some, Option.map_some, Option.map_none, Nat.reduceBEq, isShift, kEq, fEq, binInt, binFloat, shiftInt, binStr])
  refine loop_W (σ := Nat) (fun k => [(0, trainV b o cap ps), (1, colV g ps.length c), (8, .int .i64 (wide (wideE ps pl) k).1), (9, fl (wide (wideE ps pl) k).2), (10, .int .i64 k)]) (fun k w' => k ≤ ps.length ∧ Bl w w') (fun k => ps.length - k) 0 (agr_cons rfl (agr_cons rfl (agr_cons rfl (agr_cons rfl (agr_cons rfl (agr_nil)))))) ⟨by omega, hw1⟩ ?_
  rintro k w2 e2 ⟨hk, hb2⟩
  (try simp only [RS, RF, cond_true, cond_false, List.nil_append, List.cons_append, List.toList_toArray, Option.isSome_some, Option.map_some, Option.map_none, Nat.reduceBEq, isShift, kEq, fEq, binInt, binFloat, shiftInt, binStr])
  intro b2 h2
  cases b2
  · (try simp only [RS, RF, cond_true, cond_false, List.nil_append, List.cons_append, List.toList_toArray, Option.isSome_some, Option.map_some, Option.map_none, Nat.reduceBEq, isShift, kEq, fEq, binInt, binFloat, shiftInt, binStr])
    have hk2 : k = ps.length := by have := h2.symm; simp at this; omega
    subst hk2
    exact ⟨rfl, hb2⟩
  · have hlt : k < ps.length := by have := h2.symm; simp at this; omega
    (try simp only [RS, RF, cond_true, cond_false, List.nil_append, List.cons_append, List.toList_toArray, Option.isSome_some, Option.map_some, Option.map_none, Nat.reduceBEq, isShift, kEq, fEq, binInt, binFloat, shiftInt, binStr])
    refine ⟨_, _, bs0 st_28 _, ?_⟩
    (try simp only [RS, RF, cond_true, cond_false, List.nil_append, List.cons_append, List.toList_toArray, Option.isSome_some, Option.map_some, Option.map_none, Nat.reduceBEq, isShift, kEq, fEq, binInt, binFloat, shiftInt, binStr])
    refine appN (B := w2.heap.size) (n := 0) (xs := []) (m := ps.length) (news := pl.map fl) st_28 (own0 w2 w2.heap.size _ _ (Nat.le_refl _)) (by rw [alloc_size]; omega) (by simp [hl]) ?_ ?_ (by omega) (by decide) ?_
    · intro j u hu
      rw [add_off, Nat.zero_add]
      rw [List.getElem?_map] at hu
      cases hx : pl[j]? with
      | none => rw [hx] at hu; cases hu
      | some x =>
        rw [hx] at hu
        simp only [Option.map_some, Option.some.injEq] at hu
        subst hu
        exact (hb2.trans (Bl.alloc w2 _)).cell (hg j x hx)
    · intro u hu
      obtain ⟨x, _, rfl⟩ := List.mem_map.1 hu
      rfl
    intro s' w3 ho3 hb3 hsz hkp
    rw [Nat.zero_add, List.nil_append] at ho3
    obtain ⟨g3, c3, rfl, _, _⟩ := own_fl ho3 (by omega)
    have hw3 : Bl w2 w3 := (Bl.alloc w2 _).below' hb3
    (try simp only [RS, RF, cond_true, cond_false, List.nil_append, List.cons_append, List.toList_toArray, Option.isSome_some, Option.map_some, Option.map_none, Nat.reduceBEq, isShift, kEq, fEq, binInt, binFloat, shiftInt, binStr, Int.toNat_natCast])
    refine ⟨by omega, ?_⟩
    obtain ⟨w4, hr4, ho4, hx4, hsz4⟩ := own_set (P := Try.prog) 26 k (fl 0) ho3 (by kernel_rfl) rfl hlt
    refine ⟨_, hr4, ?_⟩
    (try simp only [RS, RF, cond_true, cond_false, List.nil_append, List.cons_append, List.toList_toArray, Option.isSome_some, Option.map_some, Option.map_none, Nat.reduceBEq, isShift, kEq, fEq, binInt, binFloat, shiftInt, binStr])
    have hb4 : Bl w w4 := (hb2.trans hw3).new hx4 (by have := hb2.size; have := (ho3.lt g3 rfl).1; omega)
    have hset : PlAt w4 g3 (pl.set k 0) := by
      rw [← List.map_set (f := fl)] at ho4
      exact fun j x hx => own_cell ho4 hx
    (refine (l06Last_ct w4 b o cap ps g3 c3 (pl.set k 0) (h.bl hb4) hset (by simp [hl]) (hp.set k (by omega))).mono ?_; rintro _ w5 ⟨rfl, hw5⟩)
    have hE : endB ps (pl.set k 0) < 2139095040 := endB_fin h.ok (hp.set k (by omega)) h1 h4
    have hW : (wide (wideE ps pl) k).2 < 2139095040 := wide_fin fun j hj => endB_fin h.ok (hp.set j (by omega)) h1 h4
    (try simp only [RS, RF, cond_true, cond_false, List.nil_append, List.cons_append, List.toList_toArray, Option.isSome_some, Option.map_some, Option.map_none, Nat.reduceBEq, isShift, kEq, fEq, binInt, binFloat, shiftInt, binStr])
    have fin : ∀ (e6 : Env), (∃ s2 : Nat, agrees e6 [(0, trainV b o cap ps), (1, colV g ps.length c), (8, .int .i64 (wide (wideE ps pl) s2).1), (9, fl (wide (wideE ps pl) s2).2), (10, .int .i64 s2)] ∧ s2 = k + 1) →
        ∃ s2 : Nat, agrees e6 [(0, trainV b o cap ps), (1, colV g ps.length c), (8, .int .i64 (wide (wideE ps pl) s2).1), (9, fl (wide (wideE ps pl) s2).2), (10, .int .i64 s2)] ∧ (s2 ≤ ps.length ∧ Bl w w5) ∧ ps.length - s2 < ps.length - k := by
      rintro e6 ⟨s2, ha, rfl⟩
      exact ⟨k + 1, ha, ⟨hlt, hb4.trans hw5⟩, by omega⟩
    intro b3 h3
    cases b3
    · have hk0 : k ≠ 0 := by have := h3.symm; simp at this; omega
      (try simp only [RS, RF, cond_true, cond_false, List.nil_append, List.cons_append, List.toList_toArray, Option.isSome_some, Option.map_some, Option.map_none, Nat.reduceBEq, isShift, kEq, fEq, binInt, binFloat, shiftInt, binStr])
      intro b4 h4'
      rw [flt_pos hE hW] at h4'
      cases b4
      · (try simp only [RS, RF, cond_true, cond_false, List.nil_append, List.cons_append, List.toList_toArray, Option.isSome_some, Option.map_some, Option.map_none, Nat.reduceBEq, isShift, kEq, fEq, binInt, binFloat, shiftInt, binStr])
        rw [IntWalk.i64_in ((k : Int) + 1) (by omega), show (k : Int) + 1 = ((k + 1 : Nat) : Int) by omega]
        refine fin _ ⟨k + 1, ?_, rfl⟩
        have hn : ¬ endB ps (pl.set k 0) < (wide (wideE ps pl) k).2 := fun hc => by rw [decide_eq_true hc] at h4'; cases h4'
        have e : wide (wideE ps pl) (k + 1) = wide (wideE ps pl) k := by
          show (if k = 0 ∨ endB ps (pl.set k 0) < (wide (wideE ps pl) k).2 then (k, endB ps (pl.set k 0)) else wide (wideE ps pl) k) = _
          rw [if_neg (by omega)]
        rw [e]
        exact (agr_cons rfl (agr_cons rfl (agr_cons rfl (agr_cons rfl (agr_cons rfl (agr_nil))))))
      · (try simp only [RS, RF, cond_true, cond_false, List.nil_append, List.cons_append, List.toList_toArray, Option.isSome_some, Option.map_some, Option.map_none, Nat.reduceBEq, isShift, kEq, fEq, binInt, binFloat, shiftInt, binStr])
        rw [IntWalk.i64_in ((k : Int) + 1) (by omega), show (k : Int) + 1 = ((k + 1 : Nat) : Int) by omega]
        refine fin _ ⟨k + 1, ?_, rfl⟩
        have hn : endB ps (pl.set k 0) < (wide (wideE ps pl) k).2 := of_decide_eq_true h4'.symm
        have e : wide (wideE ps pl) (k + 1) = (k, endB ps (pl.set k 0)) := by
          show (if k = 0 ∨ endB ps (pl.set k 0) < (wide (wideE ps pl) k).2 then (k, endB ps (pl.set k 0)) else wide (wideE ps pl) k) = _
          rw [if_pos (.inr hn)]
        rw [e]
        exact (agr_cons rfl (agr_cons rfl (agr_cons rfl (agr_cons rfl (agr_cons rfl (agr_nil))))))
    · have hk0 : k = 0 := by have := h3.symm; simp at this; omega
      subst hk0
      (try simp only [RS, RF, cond_true, cond_false, List.nil_append, List.cons_append, List.toList_toArray, Option.isSome_some, Option.map_some, Option.map_none, Nat.reduceBEq, isShift, kEq, fEq, binInt, binFloat, shiftInt, binStr])
      refine fin _ ⟨1, ?_, rfl⟩
      have e : wide (wideE ps pl) 1 = (0, endB ps (pl.set 0 0)) := rfl
      rw [e]
      exact (agr_cons rfl (agr_cons rfl (agr_cons rfl (agr_cons rfl (agr_cons rfl (agr_nil))))))
end Go.Proofs.Ytjgpnbchnenbeaa
