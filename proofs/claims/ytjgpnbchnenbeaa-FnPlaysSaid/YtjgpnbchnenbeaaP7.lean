/- FnPlays, walked. -/
import Derived.Test.YtjgpnbchnenbeaaP6
namespace Go.Proofs.Ytjgpnbchnenbeaa
set_option linter.unusedSimpArgs false
set_option linter.unusedVariables false
open Go
open Go.RowKit (Below)

theorem appc {α : Type} (a : α) (l r : List α) : List.append (a :: l) r = a :: List.append l r := rfl
theorem appn {α : Type} (r : List α) : List.append [] r = r := rfl

/-! ### The plain law -/
theorem setD_zero (pl : List Nat) (i j : Nat) : (pl.set i 0).getD j 0 ≤ pl.getD j 0 := by
  rw [List.getD_eq_getElem?_getD, List.getD_eq_getElem?_getD, List.getElem?_set]
  split
  · split <;> simp
  · exact Nat.le_refl _
theorem setD_one {pl : List Nat} (hp : Parts pl) (i j : Nat) : pl.getD j 0 ≤ (pl.set i 1065353216).getD j 0 := by
  rw [List.getD_eq_getElem?_getD, List.getD_eq_getElem?_getD, List.getElem?_set]
  split
  · rename_i h
    subst h
    split
    · rename_i h
      rw [List.getElem?_eq_getElem h]
      exact hp _ (List.getElem_mem h)
    · rename_i h
      rw [List.getElem?_eq_none (by omega)]; simp
  · exact Nat.le_refl _
theorem rangeD (f : Nat → Nat) (n j : Nat) : ((List.range n).map f).getD j 0 = if j < n then f j else 0 := by
  rw [List.getD_eq_getElem?_getD, List.getElem?_map]
  split
  · rename_i h; rw [List.getElem?_range h]; rfl
  · rename_i h; rw [List.getElem?_eq_none (by simpa using h)]; rfl
theorem getD_out {pl : List Nat} {n j : Nat} (hl : pl.length = n) (h : ¬ j < n) : pl.getD j 0 = 0 := by
  rw [List.getD_eq_getElem?_getD, List.getElem?_eq_none (by omega)]; rfl
theorem Parts.getD {pl : List Nat} (h : Parts pl) (j : Nat) : pl.getD j 0 ≤ 1065353216 := by
  rw [List.getD_eq_getElem?_getD]
  cases hh : pl[j]? with
  | none => simp
  | some x => exact h x (List.mem_of_getElem? hh)
def loF (pl ql : List Nat) (j : Nat) : Nat := min (pl.getD j 0) (ql.getD j 0)
def hiF (pl ql : List Nat) (j : Nat) : Nat := max (pl.getD j 0) (ql.getD j 0)
theorem min2_pos {x y : Nat} (hx : x < 2139095040) (hy : y < 2139095040) {r : Nat} (hr : cn .f32 r = FMin .f32 (cn .f32 x) (cn .f32 y)) : r = min x y := by
  rw [FMin_eq] at hr
  unfold min2F at hr
  rw [order_pos hx hy] at hr
  have : cn .f32 r = some (min x y) := by
    rw [hr]
    cases hc : compare x y with
    | lt => have := Nat.compare_eq_lt.1 hc; simp; omega
    | eq => have := Nat.compare_eq_eq.1 hc; subst this; simp
    | gt => have := Nat.compare_eq_gt.1 hc; simp; omega
  exact (cn_some this).1
theorem max2_pos {x y : Nat} (hx : x < 2139095040) (hy : y < 2139095040) {r : Nat} (hr : cn .f32 r = FMax .f32 (cn .f32 x) (cn .f32 y)) : r = max x y := by
  rw [FMax_eq] at hr
  unfold max2F at hr
  rw [order_pos hx hy] at hr
  have : cn .f32 r = some (max x y) := by
    rw [hr]
    cases hc : compare x y with
    | lt => have := Nat.compare_eq_lt.1 hc; simp; omega
    | eq => have := Nat.compare_eq_eq.1 hc; subst this; simp
    | gt => have := Nat.compare_eq_gt.1 hc; simp; omega
  exact (cn_some this).1
theorem feq_pos {x y : Nat} (hx : x < 2139095040) (hy : y < 2139095040) : feq .f32 x y = decide (x = y) := by
  unfold feq
  rw [order_pos hx hy]
  cases hc : compare x y with
  | lt => have := Nat.compare_eq_lt.1 hc; rw [decide_eq_false (by omega)]; rfl
  | eq => have := Nat.compare_eq_eq.1 hc; rw [decide_eq_true this]; rfl
  | gt => have := Nat.compare_eq_gt.1 hc; rw [decide_eq_false (by omega)]; rfl

theorem copy_own {w : World} {n g c : Nat} {pl : List Nat} (hg : PlAt w g pl) (hl : pl.length = n) (h1 : 1 ≤ n) (hn : n ≤ 1000) {K : Value → World → Prop}
    (hk : ∀ g' c' w', w'.ownsRow w.heap.size 26 1 (colV g' n c') n (pl.map fl) → Bl w w' → K (colV g' n c') w') :
    runW Try.prog (Builtin.append_ [28, 28].toArray 28 [.slice (some ⟨w.heap.size, 0, none⟩) 0 0, colV g n c].toArray) (w.alloc (.cells #[] 26)) K := by
  refine appN (B := w.heap.size) (n := 0) (xs := []) (m := n) (news := pl.map fl) st_28 (own0 w w.heap.size _ _ (Nat.le_refl _)) (by rw [alloc_size]; omega) (by simp [hl]) ?_ ?_ (by omega) (by decide) ?_
  · intro j u hu
    rw [add_off, Nat.zero_add]
    rw [List.getElem?_map] at hu
    cases hx : pl[j]? with
    | none => rw [hx] at hu; cases hu
    | some x =>
      rw [hx] at hu
      simp only [Option.map_some, Option.some.injEq] at hu
      subst hu
      exact (Bl.alloc w _).cell (hg j x hx)
  · intro u hu
    obtain ⟨x, _, rfl⟩ := List.mem_map.1 hu
    rfl
  · intro s' w1 ho hb hsz hk'
    rw [Nat.zero_add, List.nil_append] at ho
    obtain ⟨g', c', rfl, _, _⟩ := own_fl ho (by omega)
    exact hk g' c' w1 ho ((Bl.alloc w _).below' hb)

/-- two rows of the call's own, in blocks that differ -/
structure Two (B : Nat) (w : World) (vL vH : Value) (k : Nat) (L H : List Nat) : Prop where
  lo : w.ownsRow B 26 1 vL k (L.map fl)
  hi : w.ownsRow B 26 1 vH k (H.map fl)
  ne : ∀ b, vL.ownBlock = some b → vH.ownBlock ≠ some b
theorem own_snoc {w : World} {B el : Nat} {v : Value} {n : Nat} {S : List Nat} {x : Nat} (h : w.ownsRow B el 1 v n (S.map fl ++ (fl x).cells.toList)) : w.ownsRow B el 1 v n ((S ++ [x]).map fl) := by
  rw [List.map_append]; exact h

theorem push_lo {w0 w : World} {B : Nat} {vL vH : Value} {k : Nat} {L H : List Nat} (x : Nat) (h : Two B w vL vH k L H) (hB : B ≤ w0.heap.size) (hb : Bl w w0) (hB2 : B ≤ w.heap.size) (hk : k ≤ 1000) {K : Value → World → Prop}
    (hK : ∀ s w', w'.ownsRow B 26 1 s (k + 1) ((L ++ [x]).map fl) → w'.ownsRow B 26 1 vH k (H.map fl) → (∀ b, s.ownBlock = some b → vH.ownBlock ≠ some b) → Below B w0 w' → w0.heap.size ≤ w'.heap.size → K s w') :
    runW Try.prog (Builtin.append_ [28, 28].toArray 28 [vL, .slice (some ⟨w0.heap.size, 0, none⟩) 1 1].toArray) (w0.alloc (.cells #[fl x] 26)) K := by
  have hlo := own_bl h.lo hb
  have hhi := own_bl h.hi hb
  refine app1 (v := fl x) st_28 hlo hB rfl (by simp [Value.cells, Value.oneCell']) (by omega) (by decide) ?_
  intro s w' ho hbel hsz hkeep hblk
  refine hK s w' (own_snoc ho) (own_keep hhi fun b hb => ?_) (fun b hs hv => ?_) hbel hsz
  · exact hkeep b (hhi.lt b hb).2 (fun e => h.ne b e hb)
  · rcases hblk with e | e
    · exact h.ne b (by rw [← e]; exact hs) hv
    · have := e b hs
      have := (hhi.lt b hv).2
      omega
theorem push_hi {w0 w : World} {B : Nat} {vL vH : Value} {k n : Nat} {L H : List Nat} (x : Nat) (hlo : w.ownsRow B 26 1 vL n (L.map fl)) (hhi : w.ownsRow B 26 1 vH k (H.map fl)) (ne : ∀ b, vL.ownBlock = some b → vH.ownBlock ≠ some b) (hB : B ≤ w0.heap.size) (hb : Bl w w0) (hk : k ≤ 1000) {K : Value → World → Prop}
    (hK : ∀ s w', w'.ownsRow B 26 1 s (k + 1) ((H ++ [x]).map fl) → w'.ownsRow B 26 1 vL n (L.map fl) → (∀ b, vL.ownBlock = some b → s.ownBlock ≠ some b) → Below B w0 w' → w0.heap.size ≤ w'.heap.size → K s w') :
    runW Try.prog (Builtin.append_ [28, 28].toArray 28 [vH, .slice (some ⟨w0.heap.size, 0, none⟩) 1 1].toArray) (w0.alloc (.cells #[fl x] 26)) K := by
  have hlo := own_bl hlo hb
  have hhi := own_bl hhi hb
  refine app1 (v := fl x) st_28 hhi hB rfl (by simp [Value.cells, Value.oneCell']) (by omega) (by decide) ?_
  intro s w' ho hbel hsz hkeep hblk
  refine hK s w' (own_snoc ho) (own_keep hlo fun b hb => ?_) (fun b hv hs => ?_) hbel hsz
  · exact hkeep b (hlo.lt b hb).2 (fun e => ne b hb e)
  · rcases hblk with e | e
    · exact ne b hv (by rw [← e]; exact hs)
    · have := e b hs
      have := (hlo.lt b hv).2
      omega

set_option maxHeartbeats 4000000 in
set_option maxRecDepth 100000 in
theorem FnPlays_ct (w : World) (v1 v2 : Value) (h1 : Byt w v1) (h2 : Byt w v2) :
    Ct Try.prog 5 #[v1, v2] w (Is (.bool true) w) := by
  have hB1 := h1
  have hB2 := h2
  obtain ⟨a1, len1, cap1, rfl, hc1⟩ := h1
  obtain ⟨a2, len2, cap2, rfl, hc2⟩ := h2
  (refine fn_of_W Try.func5 rfl (by kernel_rfl) (by kernel_rfl) (Nat.le_of_ble_eq_true (by kernel_rfl)) ?_; (try simp only [RS, RF, cond_true, cond_false, List.nil_append, List.cons_append, List.toList_toArray, Option.isSome_some, Option.map_some, Option.map_none, Nat.reduceBEq, isShift, kEq, fEq, binInt, binFloat, shiftInt, binStr, Try.f5, List.append]))
  (refine (big_ct w a1 len1 cap1).mono ?_; rintro _ w1 ⟨rfl, hw1⟩)
  cases hd1 : decide (4096 < len1)
  rotate_left
  · (try simp only [RS, RF, cond_true, cond_false, List.nil_append, List.cons_append, List.toList_toArray, Option.isSome_some, Option.map_some, Option.map_none, Nat.reduceBEq, isShift, kEq, fEq, binInt, binFloat, shiftInt, binStr])
    exact ⟨rfl, hw1⟩
  (try simp only [RS, RF, cond_true, cond_false, List.nil_append, List.cons_append, List.toList_toArray, Option.isSome_some, Option.map_some, Option.map_none, Nat.reduceBEq, isShift, kEq, fEq, binInt, binFloat, shiftInt, binStr])
  (refine (big_ct w1 a2 len2 cap2).mono ?_; rintro _ w2 ⟨rfl, hw2⟩)
  cases hd2 : decide (4096 < len2)
  rotate_left
  · (try simp only [RS, RF, cond_true, cond_false, List.nil_append, List.cons_append, List.toList_toArray, Option.isSome_some, Option.map_some, Option.map_none, Nat.reduceBEq, isShift, kEq, fEq, binInt, binFloat, shiftInt, binStr])
    exact ⟨rfl, hw1.trans hw2⟩
  (try simp only [RS, RF, cond_true, cond_false, List.nil_append, List.cons_append, List.toList_toArray, Option.isSome_some, Option.map_some, Option.map_none, Nat.reduceBEq, isShift, kEq, fEq, binInt, binFloat, shiftInt, binStr])
  have hl1 : len1 ≤ 4096 := by simpa using hd1
  have hl2 : len2 ≤ 4096 := by simpa using hd2
  have hb2 := hw1.trans hw2
  (refine (P6Train_ct w2 (.slice a1 len1 cap1) (hB1.bl hb2) (fun a l c e => by cases e; omega)).mono ?_; rintro _ w3 ⟨b, o, cap, ps, rfl, hT, hw3⟩)
  (try simp only [RS, RF, cond_true, cond_false, List.nil_append, List.cons_append, List.toList_toArray, Option.isSome_some, Option.map_some, Option.map_none, Nat.reduceBEq, isShift, kEq, fEq, binInt, binFloat, shiftInt, binStr])
  have hT1 := hT.ge
  have hT4 := hT.le
  have hb3 := hb2.trans hw3
  (refine (P6Plays_ct w3 (.slice a2 len2 cap2) b o cap ps (hB2.bl hb3) (fun a l c e => by cases e; omega) hT).mono ?_; rintro _ w4 ⟨g, c, pl, rfl, hg, hl, hp, hw4⟩)
  (try simp only [RS, RF, cond_true, cond_false, List.nil_append, List.cons_append, List.toList_toArray, Option.isSome_some, Option.map_some, Option.map_none, Nat.reduceBEq, isShift, kEq, fEq, binInt, binFloat, shiftInt, binStr])
  have hb4 := hb3.trans hw4
  (have hr__ := bs1 st_22 w4 (.int .u8 9) rfl (by decide); refine ⟨_, _, hr__, ?_⟩; clear hr__)
  (try simp only [RS, RF, cond_true, cond_false, List.nil_append, List.cons_append, List.toList_toArray, Option.isSome_some, Option.map_some, Option.map_none, Nat.reduceBEq, isShift, kEq, fEq, binInt, binFloat, shiftInt, binStr])
  refine ahead (hB2.bl hb4) (by omega) 9 (by omega) ?_
  intro s w5 hBs hBl hw5
  (try simp only [RS, RF, cond_true, cond_false, List.nil_append, List.cons_append, List.toList_toArray, Option.isSome_some, Option.map_some, Option.map_none, Nat.reduceBEq, isShift, kEq, fEq, binInt, binFloat, shiftInt, binStr])
  have hT5 := (hT.bl hw4).bl hw5
  (refine (P6Plays_ct w5 s b o cap ps hBs (fun a l c e => by have := hBl a l c e; omega) hT5).mono ?_; rintro _ w6 ⟨g2, c2, ql, rfl, hg2, hl2', hq, hw6⟩)
  (try simp only [RS, RF, cond_true, cond_false, List.nil_append, List.cons_append, List.toList_toArray, Option.isSome_some, Option.map_some, Option.map_none, Nat.reduceBEq, isShift, kEq, fEq, binInt, binFloat, shiftInt, binStr])
  have hT6 := hT5.bl hw6
  have hg6 := (hg.bl hw5).bl hw6
  have hb6 := (hb4.trans hw5).trans hw6
  clear hc1 hc2 hT hT5 hg hb2 hb3 hb4 hBs hBl hw1 hw2 hw3 hw4 hw5 hw6
  (generalize hE : upd _ _ _ = E; have hA : agrees E [(5, trainV b o cap ps), (6, colV g ps.length c), (7, colV g2 ps.length c2)] := (by rw [← hE]; exact (agr_cons rfl (agr_cons rfl (agr_cons rfl (agr_nil))))); rw [← over_agrees hA]; clear hA hE; generalize E = e0__)
  (try simp only [RS, RF, cond_true, cond_false, List.nil_append, List.cons_append, List.toList_toArray, Option.isSome_some, Option.map_some, Option.map_none, Nat.reduceBEq, isShift, kEq, fEq, binInt, binFloat, shiftInt, binStr])
  (refine (PlaysAlong_ct w6 b o cap ps g c pl hT6 hg6 hl hp).mono ?_; rintro _ w7 ⟨gA, cA, rfl, hA, hw7⟩)
  (try simp only [RS, RF, cond_true, cond_false, List.nil_append, List.cons_append, List.toList_toArray, Option.isSome_some, Option.map_some, Option.map_none, Nat.reduceBEq, isShift, kEq, fEq, binInt, binFloat, shiftInt, binStr])
  (refine (sPlaysAlong_ct w7 b o cap ps g c pl (hT6.bl hw7) (hg6.bl hw7) hl hp).mono ?_; rintro _ w8 ⟨gD, cD, rfl, hD, hw8⟩)
  (try simp only [RS, RF, cond_true, cond_false, List.nil_append, List.cons_append, List.toList_toArray, Option.isSome_some, Option.map_some, Option.map_none, Nat.reduceBEq, isShift, kEq, fEq, binInt, binFloat, shiftInt, binStr])
  have hb8 := hw7.trans hw8
  (refine (PlayAt_ct w8 b o cap ps g c pl (hT6.bl hb8) (hg6.bl hb8) hl hp).mono ?_; rintro _ w9 ⟨rfl, hw9⟩)
  (try simp only [RS, RF, cond_true, cond_false, List.nil_append, List.cons_append, List.toList_toArray, Option.isSome_some, Option.map_some, Option.map_none, Nat.reduceBEq, isShift, kEq, fEq, binInt, binFloat, shiftInt, binStr])
  have hb9 := hb8.trans hw9
  (refine (sPlayAt_ct w9 b o cap ps g c pl (hT6.bl hb9) (hg6.bl hb9) hl hp).mono ?_; rintro _ w10 ⟨rfl, hw10⟩)
  (try simp only [RS, RF, cond_true, cond_false, List.nil_append, List.cons_append, List.toList_toArray, Option.isSome_some, Option.map_some, Option.map_none, Nat.reduceBEq, isShift, kEq, fEq, binInt, binFloat, shiftInt, binStr])
  have hb10 := hb9.trans hw10
  (refine (WidestPlay_ct w10 b o cap ps g c pl (hT6.bl hb10) (hg6.bl hb10) hl hp).mono ?_; rintro _ w11 ⟨rfl, hw11⟩)
  (try simp only [RS, RF, cond_true, cond_false, List.nil_append, List.cons_append, List.toList_toArray, Option.isSome_some, Option.map_some, Option.map_none, Nat.reduceBEq, isShift, kEq, fEq, binInt, binFloat, shiftInt, binStr])
  have hb11 := hb10.trans hw11
  (refine (sWidestPlay_ct w11 b o cap ps g c pl (hT6.bl hb11) (hg6.bl hb11) hl hp).mono ?_; rintro _ w12 ⟨rfl, hw12⟩)
  have hb12 := hb11.trans hw12
  have hT12 := hT6.bl hb12
  have hg12 := hg6.bl hb12
  have hg2' := hg2.bl hb12
  have hA12 := hA.bl ((((hw8.trans hw9).trans hw10).trans hw11).trans hw12)
  have hD12 := hD.bl (((hw9.trans hw10).trans hw11).trans hw12)
  have hb := hb6.trans hb12
  clear hb8 hb9 hb10 hb11 hb12 hw7 hw8 hw9 hw10 hw11 hw12 hT6 hg6 hg2 hb6 hA hD
  -- the plain facts
  have hKf := endB_fin hT12.ok hp hT1 hT4
  have hEf : ∀ i, wideE ps pl i < 2139095040 := fun i => endB_fin hT12.ok (hp.set i (by omega)) hT1 hT4
  have hEK : ∀ i, wideE ps pl i ≤ endB ps pl := fun i => B_mono hT12.ok hp hT4 (setD_zero pl i) _ (by omega)
  obtain ⟨n, hn⟩ : ∃ n, ps.length = n + 1 := ⟨ps.length - 1, by omega⟩
  obtain ⟨hs1, hs2, hs3, hs4⟩ := wide_spec (wideE ps pl) n
  rw [← hn] at hs1 hs2 hs3 hs4
  generalize hwd : wide (wideE ps pl) ps.length = wd at *
  obtain ⟨pr, lo⟩ := wd
  simp only at hs1 hs2 hs3 hs4
  have hloK : lo ≤ endB ps pl := by rw [← hs2]; exact hEK pr
  have hOver : ∀ i, endB ps pl ≤ endB ps (pl.set i 1065353216) := fun i => B_mono hT12.ok (hp.set i (by omega)) hT4 (setD_one hp i) _ (by omega)
  have hOf : ∀ i, endB ps (pl.set i 1065353216) < 2139095040 := fun i => endB_fin hT12.ok (hp.set i (by omega)) hT1 hT4
  have hEdef : ∀ i, endB ps (pl.set i 0) = wideE ps pl i := fun i => rfl
  generalize hKn : endB ps pl = KN at *
  (generalize hE : upd _ _ _ = E; have hA : agrees E [(5, trainV b o cap ps), (6, colV g ps.length c), (7, colV g2 ps.length c2), (8, colV gA ps.length cA), (9, .int .i64 0), (10, colV gD ps.length cD), (11, .int .i64 0), (12, fl KN), (13, .int .i64 0), (14, fl KN), (15, .int .i64 0), (16, .int .i64 pr), (17, fl lo), (18, .int .i64 0)] := (by rw [← hE]; exact (agr_cons rfl (agr_cons rfl (agr_cons rfl (agr_cons rfl (agr_cons rfl (agr_cons rfl (agr_cons rfl (agr_cons rfl (agr_cons rfl (agr_cons rfl (agr_cons rfl (agr_cons rfl (agr_cons rfl (agr_cons rfl (agr_nil)))))))))))))))); rw [← over_agrees hA]; clear hA hE; generalize E = e0__)
  (try simp only [RS, RF, cond_true, cond_false, List.nil_append, List.cons_append, List.toList_toArray, Option.isSome_some, Option.map_some, Option.map_none, Nat.reduceBEq, isShift, kEq, fEq, binInt, binFloat, shiftInt, binStr, forall_eq, bne_self_eq_false, appc, appn])
  (refine (SameNumbers_ct w12 ps.length gA gD cA cD _ hA12 hD12 (alongL_len ps pl) (by omega)).mono ?_; rintro _ w13 ⟨rfl, hw13⟩)
  (try simp only [RS, RF, cond_true, cond_false, List.nil_append, List.cons_append, List.toList_toArray, Option.isSome_some, Option.map_some, Option.map_none, Nat.reduceBEq, isShift, kEq, fEq, binInt, binFloat, shiftInt, binStr, forall_eq, bne_self_eq_false])
  (refine (SameNumber_ct w13 KN KN).mono ?_; rintro _ w14 ⟨e14, hw14⟩)
  rw [decide_eq_true rfl] at e14
  subst e14
  (try simp only [RS, RF, cond_true, cond_false, List.nil_append, List.cons_append, List.toList_toArray, Option.isSome_some, Option.map_some, Option.map_none, Nat.reduceBEq, isShift, kEq, fEq, binInt, binFloat, shiftInt, binStr])
  rw [IntWalk.i64_in ((ps.length : Int) - 1) (by omega), show (ps.length : Int) - 1 = ((ps.length - 1 : Nat) : Int) by omega]
  (try simp only [RS, RF, cond_true, cond_false, List.nil_append, List.cons_append, List.toList_toArray, Option.isSome_some, Option.map_some, Option.map_none, Nat.reduceBEq, isShift, kEq, fEq, binInt, binFloat, shiftInt, binStr, Int.toNat_natCast])
  have hlast := ((hD12.bl hw13).bl hw14) (ps.length - 1) _ (alongL_get (by omega))
  have hlast' : w14.cell? ⟨gD, ps.length - 1, none⟩ = some (fl KN) := by rw [← hKn]; exact hlast
  refine ⟨by omega, _, ld1 (by kernel_rfl) hlast', ?_⟩
  (try simp only [RS, RF, cond_true, cond_false, List.nil_append, List.cons_append, List.toList_toArray, Option.isSome_some, Option.map_some, Option.map_none, Nat.reduceBEq, isShift, kEq, fEq, binInt, binFloat, shiftInt, binStr])
  (refine (SameNumber_ct w14 KN KN).mono ?_; rintro _ w15 ⟨e15, hw15⟩)
  rw [decide_eq_true rfl] at e15
  subst e15
  (try simp only [RS, RF, cond_true, cond_false, List.nil_append, List.cons_append, List.toList_toArray, Option.isSome_some, Option.map_some, Option.map_none, Nat.reduceBEq, isShift, kEq, fEq, binInt, binFloat, shiftInt, binStr, forall_eq, bne_self_eq_false])
  (refine (SameNumber_ct w15 lo lo).mono ?_; rintro _ w16 ⟨e16, hw16⟩)
  rw [decide_eq_true rfl] at e16
  subst e16
  (try simp only [RS, RF, cond_true, cond_false, List.nil_append, List.cons_append, List.toList_toArray, Option.isSome_some, Option.map_some, Option.map_none, Nat.reduceBEq, isShift, kEq, fEq, binInt, binFloat, shiftInt, binStr])
  intro b1 hb1
  rw [fgt_pos (by omega) (by omega), decide_eq_false (by omega)] at hb1
  subst hb1
  (try simp only [RS, RF, cond_true, cond_false, List.nil_append, List.cons_append, List.toList_toArray, Option.isSome_some, Option.map_some, Option.map_none, Nat.reduceBEq, isShift, kEq, fEq, binInt, binFloat, shiftInt, binStr])
  intro b2 hb2
  rw [decide_eq_false (by omega)] at hb2
  subst hb2
  (try simp only [RS, RF, cond_true, cond_false, List.nil_append, List.cons_append, List.toList_toArray, Option.isSome_some, Option.map_some, Option.map_none, Nat.reduceBEq, isShift, kEq, fEq, binInt, binFloat, shiftInt, binStr])
  intro b3 hb3
  rw [decide_eq_false (by omega)] at hb3
  subst hb3
  (try simp only [RS, RF, cond_true, cond_false, List.nil_append, List.cons_append, List.toList_toArray, Option.isSome_some, Option.map_some, Option.map_none, Nat.reduceBEq, isShift, kEq, fEq, binInt, binFloat, shiftInt, binStr])
  have hb16 := ((hw13.trans hw14).trans hw15).trans hw16
  have hT16 := hT12.bl hb16
  have hg16 := hg12.bl hb16
  have hg216 := hg2'.bl hb16
  have hbW := hb.trans hb16
  clear hb16 hw13 hw14 hw15 hw16 hT12 hg12 hg2' hA12 hD12 hb hlast hlast'
  (generalize hE : upd _ _ _ = E; have hA : agrees E [(5, trainV b o cap ps), (6, colV g ps.length c), (7, colV g2 ps.length c2), (14, fl KN), (19, .int .i64 pr), (20, fl lo), (22, .int .i64 0)] := (by rw [← hE]; exact (agr_cons rfl (agr_cons rfl (agr_cons rfl (agr_cons rfl (agr_cons rfl (agr_cons rfl (agr_cons rfl (agr_nil))))))))); rw [← over_agrees hA]; clear hA hE; generalize E = e0__)
  refine loop_W (σ := Nat) (fun k => [(5, trainV b o cap ps), (6, colV g ps.length c), (7, colV g2 ps.length c2), (14, fl KN), (19, .int .i64 pr), (20, fl lo), (22, .int .i64 k)]) (fun k w' => k ≤ ps.length ∧ Bl w16 w') (fun k => ps.length - k) 0 (agr_cons rfl (agr_cons rfl (agr_cons rfl (agr_cons rfl (agr_cons rfl (agr_cons rfl (agr_cons rfl (agr_nil)))))))) ⟨by omega, Bl.refl _⟩ ?_
  rintro k w17 e17 ⟨hk, hw17⟩
  (try simp only [RS, RF, cond_true, cond_false, List.nil_append, List.cons_append, List.toList_toArray, Option.isSome_some, Option.map_some, Option.map_none, Nat.reduceBEq, isShift, kEq, fEq, binInt, binFloat, shiftInt, binStr])
  intro b4 hb4
  cases b4
  rotate_left
  · have hlt : k < ps.length := by have := hb4.symm; simp at this; omega
    (try simp only [RS, RF, cond_true, cond_false, List.nil_append, List.cons_append, List.toList_toArray, Option.isSome_some, Option.map_some, Option.map_none, Nat.reduceBEq, isShift, kEq, fEq, binInt, binFloat, shiftInt, binStr])
    refine ⟨_, _, bs0 st_28 _, ?_⟩
    (try simp only [RS, RF, cond_true, cond_false, List.nil_append, List.cons_append, List.toList_toArray, Option.isSome_some, Option.map_some, Option.map_none, Nat.reduceBEq, isShift, kEq, fEq, binInt, binFloat, shiftInt, binStr])
    refine copy_own (hg16.bl hw17) hl (by omega) (by omega) ?_
    intro g3 c3 w18 ho18 hw18
    (try simp only [RS, RF, cond_true, cond_false, List.nil_append, List.cons_append, List.toList_toArray, Option.isSome_some, Option.map_some, Option.map_none, Nat.reduceBEq, isShift, kEq, fEq, binInt, binFloat, shiftInt, binStr, Int.toNat_natCast])
    refine ⟨by omega, ?_⟩
    obtain ⟨w19, hr19, ho19, hx19, hsz19⟩ := own_set (P := Try.prog) 26 k (fl 0) ho18 (by kernel_rfl) rfl hlt
    refine ⟨_, hr19, ?_⟩
    (try simp only [RS, RF, cond_true, cond_false, List.nil_append, List.cons_append, List.toList_toArray, Option.isSome_some, Option.map_some, Option.map_none, Nat.reduceBEq, isShift, kEq, fEq, binInt, binFloat, shiftInt, binStr])
    have hb19 : Bl w17 w19 := hw18.new hx19 (by have := (ho18.lt g3 rfl).1; omega)
    have hset : PlAt w19 g3 (pl.set k 0) := by
      rw [← List.map_set (f := fl)] at ho19
      exact fun j x hx => own_cell ho19 hx
    refine ⟨_, _, bs0 st_28 _, ?_⟩
    (try simp only [RS, RF, cond_true, cond_false, List.nil_append, List.cons_append, List.toList_toArray, Option.isSome_some, Option.map_some, Option.map_none, Nat.reduceBEq, isShift, kEq, fEq, binInt, binFloat, shiftInt, binStr])
    refine copy_own ((hg16.bl hw17).bl hb19) hl (by omega) (by omega) ?_
    intro g4 c4 w20 ho20 hw20
    (try simp only [RS, RF, cond_true, cond_false, List.nil_append, List.cons_append, List.toList_toArray, Option.isSome_some, Option.map_some, Option.map_none, Nat.reduceBEq, isShift, kEq, fEq, binInt, binFloat, shiftInt, binStr, Int.toNat_natCast])
    refine ⟨by omega, ?_⟩
    obtain ⟨w21, hr21, ho21, hx21, hsz21⟩ := own_set (P := Try.prog) 26 k (fl 1065353216) ho20 (by kernel_rfl) rfl hlt
    refine ⟨_, hr21, ?_⟩
    (try simp only [RS, RF, cond_true, cond_false, List.nil_append, List.cons_append, List.toList_toArray, Option.isSome_some, Option.map_some, Option.map_none, Nat.reduceBEq, isShift, kEq, fEq, binInt, binFloat, shiftInt, binStr])
    have hb21 : Bl w19 w21 := hw20.new hx21 (by have := (ho20.lt g4 rfl).1; omega)
    have hset2 : PlAt w21 g4 (pl.set k 1065353216) := by
      rw [← List.map_set (f := fl)] at ho21
      exact fun j x hx => own_cell ho21 hx
    have hb1721 := hb19.trans hb21
    (refine (PlayAt_ct w21 b o cap ps g3 c3 (pl.set k 0) ((hT16.bl hw17).bl hb1721) (hset.bl hb21) (by simp [hl]) (hp.set k (by omega))).mono ?_; rintro _ w22 ⟨rfl, hw22⟩)
    (try simp only [RS, RF, cond_true, cond_false, List.nil_append, List.cons_append, List.toList_toArray, Option.isSome_some, Option.map_some, Option.map_none, Nat.reduceBEq, isShift, kEq, fEq, binInt, binFloat, shiftInt, binStr])
    (refine (PlayAt_ct w22 b o cap ps g4 c4 (pl.set k 1065353216) (((hT16.bl hw17).bl hb1721).bl hw22) (hset2.bl hw22) (by simp [hl]) (hp.set k (by omega))).mono ?_; rintro _ w23 ⟨rfl, hw23⟩)
    have f1 := hEf k
    have f2 := hEK k
    have f3 := hs3 k (by omega)
    have f4 := hs4 k (by omega)
    have f5 := hOver k
    have f6 := hOf k
    have hbE : Bl w16 w23 := ((hw17.trans hb1721).trans hw22).trans hw23
    rw [hEdef k]
    generalize wideE ps pl k = E at *
    generalize endB ps (pl.set k 1065353216) = O at *
    clear hset hset2 ho18 ho19 ho20 ho21 hx19 hx21 hr19 hr21 hb19 hb21 hw18 hw20 hw22 hw23 hb1721
    have e5 : fgt .f32 E KN = false := by rw [fgt_pos (by omega) (by omega)]; exact decide_eq_false (by omega)
    have e6 : flt .f32 E lo = false := by rw [flt_pos (by omega) (by omega)]; exact decide_eq_false (by omega)
    have e8 : flt .f32 O KN = false := by rw [flt_pos (by omega) (by omega)]; exact decide_eq_false (by omega)
    cases e7 : feq .f32 E lo
    · (try simp only [RS, RF, cond_true, cond_false, List.nil_append, List.cons_append, List.toList_toArray, Option.isSome_some, Option.map_some, Option.map_none, Nat.reduceBEq, isShift, kEq, fEq, binInt, binFloat, shiftInt, binStr, forall_eq, bne_self_eq_false, e5, e6, e7, e8])
      rw [IntWalk.i64_in ((k : Int) + 1) (by omega)]
      exact ⟨k + 1, (agr_cons rfl (agr_cons rfl (agr_cons rfl (agr_cons rfl (agr_cons rfl (agr_cons rfl (agr_cons rfl (agr_nil)))))))), ⟨hlt, hbE⟩, by omega⟩
    · rw [feq_pos (by omega) (by omega)] at e7
      have hEl : E = lo := of_decide_eq_true e7
      have := f4 hEl
      have e9 : decide ((k : Int) < (pr : Int)) = false := decide_eq_false (by omega)
      have e7 : feq .f32 E lo = true := by rw [feq_pos (by omega) (by omega)]; exact e7
      (try simp only [RS, RF, cond_true, cond_false, List.nil_append, List.cons_append, List.toList_toArray, Option.isSome_some, Option.map_some, Option.map_none, Nat.reduceBEq, isShift, kEq, fEq, binInt, binFloat, shiftInt, binStr, forall_eq, bne_self_eq_false, e5, e6, e7, e8, e9])
      rw [IntWalk.i64_in ((k : Int) + 1) (by omega)]
      exact ⟨k + 1, (agr_cons rfl (agr_cons rfl (agr_cons rfl (agr_cons rfl (agr_cons rfl (agr_cons rfl (agr_cons rfl (agr_nil)))))))), ⟨hlt, hbE⟩, by omega⟩
  (try simp only [RS, RF, cond_true, cond_false, List.nil_append, List.cons_append, List.toList_toArray, Option.isSome_some, Option.map_some, Option.map_none, Nat.reduceBEq, isShift, kEq, fEq, binInt, binFloat, shiftInt, binStr])
  refine ⟨_, _, bs0 st_28 _, ?_⟩
  (try simp only [RS, RF, cond_true, cond_false, List.nil_append, List.cons_append, List.toList_toArray, Option.isSome_some, Option.map_some, Option.map_none, Nat.reduceBEq, isShift, kEq, fEq, binInt, binFloat, shiftInt, binStr])
  refine ⟨_, _, bs0 st_28 _, ?_⟩
  (try simp only [RS, RF, cond_true, cond_false, List.nil_append, List.cons_append, List.toList_toArray, Option.isSome_some, Option.map_some, Option.map_none, Nat.reduceBEq, isShift, kEq, fEq, binInt, binFloat, shiftInt, binStr])
  have hwB : Bl w17 ((w17.alloc (.cells #[] 26)).alloc (.cells #[] 26)) := (Bl.alloc _ _).trans (Bl.alloc _ _)
  have htwo : Two w17.heap.size ((w17.alloc (.cells #[] 26)).alloc (.cells #[] 26)) (.slice (some ⟨w17.heap.size, 0, none⟩) 0 0) (.slice (some ⟨w17.heap.size + 1, 0, none⟩) 0 0) 0 [] [] := by
    refine ⟨own_bl (own0 w17 w17.heap.size _ _ (Nat.le_refl _)) (Bl.alloc _ _), ?_, ?_⟩
    · have := own0 (w17.alloc (.cells #[] 26)) w17.heap.size 26 1 (by rw [alloc_size]; omega)
      rw [alloc_size] at this
      exact this
    intro b' hb' hb''
    simp only [Value.ownBlock, Option.some.injEq] at hb' hb''
    omega
  have hT17 := hT16.bl hw17
  have hg17 := hg16.bl hw17
  have hg217 := hg216.bl hw17
  have hbW17 := hbW.trans hw17
  clear hT16 hg16 hg216 hbW hb4 hk hs4 hs3 hs2 hs1 hOver hOf hEdef hEK hEf
  generalize hvL : Value.slice (some ⟨w17.heap.size, 0, none⟩) 0 0 = vL0 at *
  generalize hvH : Value.slice (some ⟨w17.heap.size + 1, 0, none⟩) 0 0 = vH0 at *
  generalize (w17.alloc (.cells #[] 26)).alloc (.cells #[] 26) = w18 at *
  have fpl := hp.getD
  have fql := hq.getD
  refine loop_W (σ := Nat × Value × Value) (fun s => [(5, trainV b o cap ps), (6, colV g ps.length c), (7, colV g2 ps.length c2), (14, fl KN), (29, s.2.1), (30, s.2.2), (31, .int .i64 s.1)])
    (fun s w' => s.1 ≤ ps.length ∧ Two w17.heap.size w' s.2.1 s.2.2 s.1 ((List.range s.1).map (loF pl ql)) ((List.range s.1).map (hiF pl ql)) ∧ Bl w17 w') (fun s => ps.length - s.1) (0, vL0, vH0) (agr_cons rfl (agr_cons rfl (agr_cons rfl (agr_cons rfl (agr_cons rfl (agr_cons rfl (agr_cons rfl (agr_nil)))))))) ⟨Nat.zero_le _, htwo, hwB⟩ ?_
  rintro ⟨j, vL, vH⟩ w19 e19 ⟨hj, htw, hw19⟩
  simp only at hj htw
  have hsz19 := hw19.size
  (try simp only [RS, RF, cond_true, cond_false, List.nil_append, List.cons_append, List.toList_toArray, Option.isSome_some, Option.map_some, Option.map_none, Nat.reduceBEq, isShift, kEq, fEq, binInt, binFloat, shiftInt, binStr])
  intro b5 hb5
  cases b5
  · -- both loops are through
    have hjn : j = ps.length := by have := hb5.symm; simp at this; omega
    subst hjn
    (try simp only [RS, RF, cond_true, cond_false, List.nil_append, List.cons_append, List.toList_toArray, Option.isSome_some, Option.map_some, Option.map_none, Nat.reduceBEq, isShift, kEq, fEq, binInt, binFloat, shiftInt, binStr])
    have lL : ((List.range ps.length).map (loF pl ql)).length = ps.length := by simp
    have lH : ((List.range ps.length).map (hiF pl ql)).length = ps.length := by simp
    obtain ⟨gL, cL, rfl, hgL, _⟩ := own_fl htw.lo (by omega)
    obtain ⟨gH, cH, rfl, hgH, _⟩ := own_fl htw.hi (by omega)
    have pL : Parts ((List.range ps.length).map (loF pl ql)) := fun a ha => by
      obtain ⟨i, _, rfl⟩ := List.mem_map.1 ha
      have := fpl i; unfold loF; omega
    have pH : Parts ((List.range ps.length).map (hiF pl ql)) := fun a ha => by
      obtain ⟨i, _, rfl⟩ := List.mem_map.1 ha
      have := fpl i; have := fql i; unfold hiF; omega
    have dL : ∀ i, ((List.range ps.length).map (loF pl ql)).getD i 0 ≤ pl.getD i 0 ∧ ((List.range ps.length).map (loF pl ql)).getD i 0 ≤ ql.getD i 0 := fun i => by
      rw [rangeD]; split
      · unfold loF; omega
      · omega
    have dH : ∀ i, pl.getD i 0 ≤ ((List.range ps.length).map (hiF pl ql)).getD i 0 ∧ ql.getD i 0 ≤ ((List.range ps.length).map (hiF pl ql)).getD i 0 := fun i => by
      rw [rangeD]; split
      · unfold hiF; omega
      · rename_i hi
        rw [getD_out hl hi, getD_out hl2' hi]; omega
    generalize (List.range ps.length).map (loF pl ql) = LO at *
    generalize (List.range ps.length).map (hiF pl ql) = HI at *
    have hle : ∀ i, LO.getD i 0 ≤ HI.getD i 0 := fun i => by have := (dL i).1; have := (dH i).1; omega
    have hT19 := hT17.bl hw19
    (refine (PlayBounds_ct w19 b o cap ps gL cL LO gH cH HI hT19 hgL lL pL hgH lH pH hle).mono ?_; rintro _ w20 ⟨rfl, hw20⟩)
    (try simp only [RS, RF, cond_true, cond_false, List.nil_append, List.cons_append, List.toList_toArray, Option.isSome_some, Option.map_some, Option.map_none, Nat.reduceBEq, isShift, kEq, fEq, binInt, binFloat, shiftInt, binStr])
    (refine (sPlayBounds_ct w20 b o cap ps gL cL LO gH cH HI (hT19.bl hw20) (hgL.bl hw20) lL pL (hgH.bl hw20) lH pH hle).mono ?_; rintro _ w21 ⟨rfl, hw21⟩)
    (try simp only [RS, RF, cond_true, cond_false, List.nil_append, List.cons_append, List.toList_toArray, Option.isSome_some, Option.map_some, Option.map_none, Nat.reduceBEq, isShift, kEq, fEq, binInt, binFloat, shiftInt, binStr])
    have hb21 := hw20.trans hw21
    (refine (PlayAt_ct w21 b o cap ps g2 c2 ql (hT19.bl hb21) ((hg217.bl hw19).bl hb21) hl2' hq).mono ?_; rintro _ w22 ⟨rfl, hw22⟩)
    have q1 := endB_fin hT19.ok hq hT1 hT4
    have q2 := endB_fin hT19.ok pL hT1 hT4
    have q3 := endB_fin hT19.ok pH hT1 hT4
    have r1 : endB ps LO ≤ KN := by rw [← hKn]; exact B_mono hT19.ok hp hT4 (fun i => (dL i).1) _ (by omega)
    have r2 : endB ps LO ≤ endB ps ql := B_mono hT19.ok hq hT4 (fun i => (dL i).2) _ (by omega)
    have r3 : KN ≤ endB ps HI := by rw [← hKn]; exact B_mono hT19.ok pH hT4 (fun i => (dH i).1) _ (by omega)
    have r4 : endB ps ql ≤ endB ps HI := B_mono hT19.ok pH hT4 (fun i => (dH i).2) _ (by omega)
    generalize endB ps LO = U at *
    generalize endB ps HI = V at *
    generalize endB ps ql = O at *
    have hb22 := ((hbW17.trans hw19).trans hb21).trans hw22
    (try simp only [RS, RF, cond_true, cond_false, List.nil_append, List.cons_append, List.toList_toArray, Option.isSome_some, Option.map_some, Option.map_none, Nat.reduceBEq, isShift, kEq, fEq, binInt, binFloat, shiftInt, binStr, forall_eq, beq_self_eq_true])
    (refine (SameNumber_ct w22 U U).mono ?_; rintro _ w23 ⟨e23, hw23⟩)
    rw [decide_eq_true rfl] at e23
    subst e23
    (try simp only [RS, RF, cond_true, cond_false, List.nil_append, List.cons_append, List.toList_toArray, Option.isSome_some, Option.map_some, Option.map_none, Nat.reduceBEq, isShift, kEq, fEq, binInt, binFloat, shiftInt, binStr])
    (refine (SameNumber_ct w23 V V).mono ?_; rintro _ w24 ⟨e24, hw24⟩)
    rw [decide_eq_true rfl] at e24
    subst e24
    have e5 : fle .f32 U KN = true := by rw [fle_pos (by omega) (by omega)]; exact decide_eq_true (by omega)
    have e6 : fle .f32 KN V = true := by rw [fle_pos (by omega) (by omega)]; exact decide_eq_true (by omega)
    have e7 : fle .f32 U O = true := by rw [fle_pos (by omega) (by omega)]; exact decide_eq_true (by omega)
    have e8 : fle .f32 O V = true := by rw [fle_pos (by omega) (by omega)]; exact decide_eq_true (by omega)
    (try simp only [RS, RF, cond_true, cond_false, List.nil_append, List.cons_append, List.toList_toArray, Option.isSome_some, Option.map_some, Option.map_none, Nat.reduceBEq, isShift, kEq, fEq, binInt, binFloat, shiftInt, binStr, forall_eq, beq_self_eq_true, e5, e6, e7, e8])
    exact ⟨rfl, (hb22.trans hw23).trans hw24⟩
  · have hlt : j < ps.length := by have := hb5.symm; simp at this; omega
    obtain ⟨x, hx⟩ := ex_get (l := pl) (j := j) (by omega)
    obtain ⟨y, hy⟩ := ex_get (l := ql) (j := j) (by omega)
    have hxp := hp x (List.mem_of_getElem? hx)
    have hyp := hq y (List.mem_of_getElem? hy)
    have hxc := (hg17.bl hw19) j x hx
    have hyc := (hg217.bl hw19) j y hy
    (try simp only [RS, RF, cond_true, cond_false, List.nil_append, List.cons_append, List.toList_toArray, Option.isSome_some, Option.map_some, Option.map_none, Nat.reduceBEq, isShift, kEq, fEq, binInt, binFloat, shiftInt, binStr])
    refine draw_wide [0, 1, 2, 3, 5, 6, 7] [4, 8, 9] 10 [11, 12] (fun _ _ _ => False) mixed (by kernel_rfl) ?_
    (try simp only [RS, RF, cond_true, cond_false, List.nil_append, List.cons_append, List.toList_toArray, Option.isSome_some, Option.map_some, Option.map_none, Nat.reduceBEq, isShift, kEq, fEq, binInt, binFloat, shiftInt, binStr, Int.toNat_natCast])
    refine ⟨by omega, by omega, _, ldc (by kernel_rfl) hxc, _, ldc (by kernel_rfl) hyc, ?_⟩
    (try simp only [RS, RF, cond_true, cond_false, List.nil_append, List.cons_append, List.toList_toArray, Option.isSome_some, Option.map_some, Option.map_none, Nat.reduceBEq, isShift, kEq, fEq, binInt, binFloat, shiftInt, binStr])
    intro r n1 hr w20 hw20
    have hr' := min2_pos (x := x) (y := y) (by omega) (by omega) hr
    subst hr'
    (try simp only [RS, RF, cond_true, cond_false, List.nil_append, List.cons_append, List.toList_toArray, Option.isSome_some, Option.map_some, Option.map_none, Nat.reduceBEq, isShift, kEq, fEq, binInt, binFloat, shiftInt, binStr])
    (have hr__ := bs1 st_28 w20 (fl (min x y)) rfl (by decide); refine ⟨_, _, hr__, ?_⟩; clear hr__)
    (try simp only [RS, RF, cond_true, cond_false, List.nil_append, List.cons_append, List.toList_toArray, Option.isSome_some, Option.map_some, Option.map_none, Nat.reduceBEq, isShift, kEq, fEq, binInt, binFloat, shiftInt, binStr])
    refine push_lo (min x y) htw (by have := hw20.size; omega) hw20 hsz19 (by omega) ?_
    intro s w21 hoL hoH hne hbel hsz21
    (try simp only [RS, RF, cond_true, cond_false, List.nil_append, List.cons_append, List.toList_toArray, Option.isSome_some, Option.map_some, Option.map_none, Nat.reduceBEq, isShift, kEq, fEq, binInt, binFloat, shiftInt, binStr])
    have hw21 : Bl w17 w21 := (hw19.trans hw20).below' hbel
    have hxc2 : w21.cell? ⟨g, j, none⟩ = some (fl x) := hw21.cell (hg17 j x hx)
    have hyc2 : w21.cell? ⟨g2, j, none⟩ = some (fl y) := hw21.cell (hg217 j y hy)
    refine draw_wide [0, 1, 2, 3, 5, 6, 7] [4, 8, 9] 10 [11, 12] (fun _ _ _ => False) mixed (by kernel_rfl) ?_
    (try simp only [RS, RF, cond_true, cond_false, List.nil_append, List.cons_append, List.toList_toArray, Option.isSome_some, Option.map_some, Option.map_none, Nat.reduceBEq, isShift, kEq, fEq, binInt, binFloat, shiftInt, binStr, Int.toNat_natCast])
    refine ⟨by omega, by omega, _, ldc (by kernel_rfl) hxc2, _, ldc (by kernel_rfl) hyc2, ?_⟩
    (try simp only [RS, RF, cond_true, cond_false, List.nil_append, List.cons_append, List.toList_toArray, Option.isSome_some, Option.map_some, Option.map_none, Nat.reduceBEq, isShift, kEq, fEq, binInt, binFloat, shiftInt, binStr])
    intro r2 n2 hr2 w22 hw22
    have hr2' := max2_pos (x := x) (y := y) (by omega) (by omega) hr2
    subst hr2'
    (try simp only [RS, RF, cond_true, cond_false, List.nil_append, List.cons_append, List.toList_toArray, Option.isSome_some, Option.map_some, Option.map_none, Nat.reduceBEq, isShift, kEq, fEq, binInt, binFloat, shiftInt, binStr])
    (have hr__ := bs1 st_28 w22 (fl (max x y)) rfl (by decide); refine ⟨_, _, hr__, ?_⟩; clear hr__)
    (try simp only [RS, RF, cond_true, cond_false, List.nil_append, List.cons_append, List.toList_toArray, Option.isSome_some, Option.map_some, Option.map_none, Nat.reduceBEq, isShift, kEq, fEq, binInt, binFloat, shiftInt, binStr])
    refine push_hi (max x y) hoL hoH hne (by have := hw22.size; have := hw21.size; omega) hw22 (by omega) ?_
    intro s2 w23 hoH2 hoL2 hne2 hbel2 hsz23
    (try simp only [RS, RF, cond_true, cond_false, List.nil_append, List.cons_append, List.toList_toArray, Option.isSome_some, Option.map_some, Option.map_none, Nat.reduceBEq, isShift, kEq, fEq, binInt, binFloat, shiftInt, binStr])
    rw [IntWalk.i64_in ((j : Int) + 1) (by omega)]
    have e1 : (List.range j).map (loF pl ql) ++ [min x y] = (List.range (j + 1)).map (loF pl ql) := by
      rw [← range_push]; congr 2; unfold loF; rw [get_some hx, get_some hy]
    have e2 : (List.range j).map (hiF pl ql) ++ [max x y] = (List.range (j + 1)).map (hiF pl ql) := by
      rw [← range_push]; congr 2; unfold hiF; rw [get_some hx, get_some hy]
    rw [e1] at hoL2
    rw [e2] at hoH2
    exact ⟨(j + 1, s, s2), (agr_cons rfl (agr_cons rfl (agr_cons rfl (agr_cons rfl (agr_cons rfl (agr_cons rfl (agr_cons rfl (agr_nil)))))))), ⟨hlt, ⟨hoL2, hoH2, hne2⟩, (hw21.trans hw22).below' hbel2⟩, by show ps.length - (j + 1) < ps.length - j; omega⟩
end Go.Proofs.Ytjgpnbchnenbeaa
