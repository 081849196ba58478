/- FnBalance, walked. -/
import Derived.Test.YtjgpnbchnenbeaaB7
namespace Go.Proofs.Ytjgpnbchnenbeaa
set_option linter.unusedSimpArgs false
set_option linter.unusedVariables false
open Go
open Go.RowKit (Below)

theorem appc {α : Type} (a : α) (l r : List α) : List.append (a :: l) r = a :: List.append l r := rfl
theorem appn {α : Type} (r : List α) : List.append [] r = r := rfl
theorem cut_gd {P : Program} {g : Value} {want : Bool} {ops rest : List Oper} {op : Op} {ty : TypeId} {K : Env → World → Prop} {e : Env} {d : Option Nat} {w : World} {σ : Type} (fr : σ → List (Nat × Value)) (I : σ → World → Prop)
    (h : gdW g want P ops op ty rest (fun e w => ∃ s, agrees e (fr s) ∧ I s w) e d w) (hk : ∀ s e w, I s w → K (over (fr s) e) w) : gdW g want P ops op ty rest K e d w := by
  have hk' : ∀ e w, (∃ s, agrees e (fr s) ∧ I s w) → K e w := fun e w ⟨s, ha, hI⟩ => by have := hk s e w hI; rwa [over_agrees ha] at this
  unfold gdW at *
  split
  · rename_i hg
    rw [hg] at h
    exact opW_mono (fun v w' hv => WL_mono hk' rest _ _ hv) h
  · rename_i hg
    rw [hg] at h
    exact WL_mono hk' rest _ _ h
theorem bneq (w : World) (b : Bool) (x y : Operand) : (do eqGuard .neq 4 x y (.bool b) (.bool b); binOp .neq 4 (.bool b) (.bool b) : Sem Value).run Try.prog w = .ok (.bool false) w := by cases b <;> kernel_rfl
theorem bs2W (w : World) (x y m x' y' m' : Nat) : (Instr.buildSlice 60 2 ([(0, .agg #[cx x y, fl m]), (1, .agg #[cx x' y', fl m'])] : List (Nat × Value)).toArray).run Try.prog w =
    .ok (.slice (some ⟨w.heap.size, 0, none⟩) 2 2) (w.alloc (.cells #[cx x y, fl m, cx x' y', fl m'] 77)) := by kernel_rfl
theorem wt2 (w : World) (d e : WV) : WtV (w.alloc (.cells #[cx d.1 d.2.1, fl d.2.2, cx e.1 e.2.1, fl e.2.2] 77)) (.slice (some ⟨w.heap.size, 0, none⟩) 2 2) [d, e] := by
  refine ⟨_, 2, rfl, by simp, fun _ => ⟨w.heap.size, 0, rfl, fun k x hk => ?_, by simp⟩⟩
  have hb := alloc_new w (.cells #[cx d.1 d.2.1, fl d.2.2, cx e.1 e.2.1, fl e.2.2] 77)
  match k, hk with
  | 0, hk =>
    simp only [List.getElem?_cons_zero, Option.some.injEq] at hk
    subst hk
    exact ⟨by rw [cell_blk hb]; rfl, by rw [cell_blk hb]; rfl⟩
  | 1, hk =>
    simp only [List.getElem?_cons_succ, List.getElem?_cons_zero, Option.some.injEq] at hk
    subst hk
    exact ⟨by rw [cell_blk hb]; rfl, by rw [cell_blk hb]; rfl⟩
  | k + 2, hk => simp at hk
theorem mass_some {px py i k u v : Nat} (h : masR px py i k = some (u, v)) : lineB i k = false ∧ u = oneW px py i k ∧ v = twoW px py i k ∧ amountB u = true ∧ amountB v = true ∧ masV px py i k = .tuple #[fl u, fl v, .int .i64 0] := by
  unfold masR at h
  unfold masV
  cases hl : lineB i k
  · rw [hl] at h
    cases hU : amountB (oneW px py i k)
    · rw [hU] at h; cases h
    · cases hV : amountB (twoW px py i k)
      · rw [hU, hV] at h; cases h
      · rw [hU, hV] at h
        simp only [cond_false, Bool.and_true, cond_true, Option.some.injEq, Prod.mk.injEq] at h
        obtain ⟨rfl, rfl⟩ := h
        exact ⟨rfl, rfl, rfl, hU, hV, rfl⟩
  · rw [hl] at h; cases h

set_option maxHeartbeats 4000000 in
set_option maxRecDepth 100000 in
theorem FnBalance_ct (w : World) (v1 v2 : Value) (h1 : Byt w v1) (h2 : Byt w v2) :
    Ct Try.prog 6 #[v1, v2] w (Is (.bool true) w) := by
  have hB1 := h1
  have hB2 := h2
  obtain ⟨a1, len1, cap1, rfl, hc1⟩ := h1
  obtain ⟨a2, len2, cap2, rfl, hc2⟩ := h2
  (refine fn_of_W Try.func6 rfl (by kernel_rfl) (by kernel_rfl) (Nat.le_of_ble_eq_true (by kernel_rfl)) ?_; (try simp only [RS, RF, cond_true, cond_false, List.nil_append, List.cons_append, List.toList_toArray, Option.isSome_some, Option.map_some, Option.map_none, Nat.reduceBEq, isShift, kEq, fEq, binInt, binFloat, shiftInt, binStr, Try.f6, List.append]))
  (refine (a2Long_ct w a1 a2 len1 cap1 len2 cap2).mono ?_; rintro _ w1 ⟨rfl, hw1⟩)
  cases hlong : (decide (3000 < len1) || decide (3000 < len2))
  rotate_left
  · (try simp only [RS, RF, cond_true, cond_false, List.nil_append, List.cons_append, List.toList_toArray, Option.isSome_some, Option.map_some, Option.map_none, Nat.reduceBEq, isShift, kEq, fEq, binInt, binFloat, shiftInt, binStr])
    exact ⟨rfl, hw1⟩
  have hl1 : len1 ≤ 3000 := by simp at hlong; omega
  have hl2 : len2 ≤ 3000 := by simp at hlong; omega
  (try simp only [RS, RF, cond_true, cond_false, List.nil_append, List.cons_append, List.toList_toArray, Option.isSome_some, Option.map_some, Option.map_none, Nat.reduceBEq, isShift, kEq, fEq, binInt, binFloat, shiftInt, binStr])
  (refine (A2Weights_ct w1 (.slice a1 len1 cap1) (hB1.bl hw1) (fun a l c e => by cases e; omega)).mono ?_; rintro v w2 ⟨ws, hW, h5, hok, hw2⟩)
  (try simp only [RS, RF, cond_true, cond_false, List.nil_append, List.cons_append, List.toList_toArray, Option.isSome_some, Option.map_some, Option.map_none, Nat.reduceBEq, isShift, kEq, fEq, binInt, binFloat, shiftInt, binStr])
  have hb2 := hw1.trans hw2
  (refine (A2Point_ct w2 (.slice a2 len2 cap2) (hB2.bl hb2) (fun a l c e => by cases e; omega)).mono ?_; rintro _ w3 ⟨ax, ay, rfl, hax, hay, hw3⟩)
  (try simp only [RS, RF, cond_true, cond_false, List.nil_append, List.cons_append, List.toList_toArray, Option.isSome_some, Option.map_some, Option.map_none, Nat.reduceBEq, isShift, kEq, fEq, binInt, binFloat, shiftInt, binStr])
  have hb3 := hb2.trans hw3
  have hW3 := hW.bl hw3
  have hwok : ∀ d ∈ ws, Wok d := fun d hd => (hok d hd).ok
  obtain ⟨hpl, hpx, hpy⟩ := pull0_bd hok h5
  (refine (PullOf_ct w3 v ws hW3 hwok hpl).mono ?_; rintro _ w4 ⟨rfl, hw4⟩)
  (try simp only [RS, RF, cond_true, cond_false, List.nil_append, List.cons_append, List.toList_toArray, Option.isSome_some, Option.map_some, Option.map_none, Nat.reduceBEq, isShift, kEq, fEq, binInt, binFloat, shiftInt, binStr])
  (refine (sPullOf_ct w4 v ws (hW3.bl hw4) hwok hpl).mono ?_; rintro _ w5 ⟨rfl, hw5⟩)
  (try simp only [RS, RF, cond_true, cond_false, List.nil_append, List.cons_append, List.toList_toArray, Option.isSome_some, Option.map_some, Option.map_none, Nat.reduceBEq, isShift, kEq, fEq, binInt, binFloat, shiftInt, binStr])
  have hb5 := hw4.trans hw5
  have hbal := BalanceAt_ct (v := v) (ax := ax) (ay := ay) (ws := ws)
  have hsbal := sBalanceAt_ct (v := v) (ax := ax) (ay := ay) (ws := ws)
  have hbw := BalanceWith_ct (v := v) (ws := ws)
  have hsbw := sBalanceWith_ct (v := v) (ws := ws)
  have hbp := BestPlaces_ct (v := v) (ws := ws)
  have hsbp := sBestPlaces_ct (v := v) (ws := ws)
  have hlo := LeftOver_ct (v := v) (ws := ws)
  have hpp : pullW (0, 0) ws = ((pullW (0, 0) ws).1, (pullW (0, 0) ws).2) := rfl
  rw [hpp] at hlo
  have hq1 := hpx
  have hq2 := hpy
  generalize hpx' : (pullW (0, 0) ws).1 = px at *
  generalize hpy' : (pullW (0, 0) ws).2 = py at *
  obtain ⟨bD, bB, _⟩ := before_ok hpx hpy
  obtain ⟨aD, aB, _⟩ := at_ok hax hay
  have plx := (hax.bd.mono (N := 1048576) (by grind)).plain
  have ply := (hay.bd.mono (N := 1048576) (by grind)).plain
  have hdone : flt .f32 (dotW ax ay ax ay) least = false → BalDone px py ax ay := fun hl => bal_done hpx hpy hax hay hl
  have hmas : ∀ i k, i < 8 → k < 8 → lineB i k = false → MasOK px py i k := fun i k hi hk hl => mas_ok hpx hpy hi hk hl
  (refine (Square_ct w5 px py bD).mono ?_; rintro _ w6 ⟨rfl, hw6⟩)
  have hb6 := hb5.trans hw6
  have hW6 := hW3.bl hb6
  have hB6 := ((hB2.bl hb2).bl hw3).bl hb6
  have hbb6 := hb3.trans hb6
  clear hb2 hb5 hw1 hw2 hw3 hw4 hw5 hw6 hW hW3 hc1 hc2 hb6 hb3
  (generalize hE : upd _ _ _ = E; have hA : agrees E [(1, .slice a2 len2 cap2), (5, v), (6, cx ax ay), (7, cx px py), (8, .int .i64 0), (9, cx px py), (10, .int .i64 0)] := (by rw [← hE]; exact (agr_cons rfl (agr_cons rfl (agr_cons rfl (agr_cons rfl (agr_cons rfl (agr_cons rfl (agr_cons rfl (agr_nil))))))))); rw [← over_agrees hA]; clear hA hE; generalize E = e0__)
  (try simp only [RS, RF, cond_true, cond_false, List.nil_append, List.cons_append, List.toList_toArray, Option.isSome_some, Option.map_some, Option.map_none, Nat.reduceBEq, isShift, kEq, fEq, binInt, binFloat, shiftInt, binStr, forall_eq, bne_self_eq_false, appc, appn])
  (refine (sSamePoint_ct w6 px py).mono ?_; rintro _ w7 ⟨rfl, hw7⟩)
  (try simp only [RS, RF, cond_true, cond_false, List.nil_append, List.cons_append, List.toList_toArray, Option.isSome_some, Option.map_some, Option.map_none, Nat.reduceBEq, isShift, kEq, fEq, binInt, binFloat, shiftInt, binStr])
  (refine (iSamePoint_ct w7 px py hpx.fin.num hpy.fin.num).mono ?_; rintro _ w8 ⟨rfl, hw8⟩)
  (try simp only [RS, RF, cond_true, cond_false, List.nil_append, List.cons_append, List.toList_toArray, Option.isSome_some, Option.map_some, Option.map_none, Nat.reduceBEq, isShift, kEq, fEq, binInt, binFloat, shiftInt, binStr])
  (refine (sSquare_ct w8 px py bD).mono ?_; rintro _ w9 ⟨rfl, hw9⟩)
  (try simp only [RS, RF, cond_true, cond_false, List.nil_append, List.cons_append, List.toList_toArray, Option.isSome_some, Option.map_some, Option.map_none, Nat.reduceBEq, isShift, kEq, fEq, binInt, binFloat, shiftInt, binStr])
  (refine (SameNumber_ct w9 (dotW px py px py) (dotW px py px py)).mono ?_; rintro _ w10 ⟨e10, hw10⟩)
  rw [decide_eq_true rfl] at e10
  subst e10
  (try simp only [RS, RF, cond_true, cond_false, List.nil_append, List.cons_append, List.toList_toArray, Option.isSome_some, Option.map_some, Option.map_none, Nat.reduceBEq, isShift, kEq, fEq, binInt, binFloat, shiftInt, binStr])
  have hb10 := ((hw7.trans hw8).trans hw9).trans hw10
  (refine (ValidWeights_ct w10 v ws (hW6.bl hb10) hwok).mono ?_; rintro _ w11 ⟨rfl, hw11⟩)
  (try simp only [RS, RF, cond_true, cond_false, List.nil_append, List.cons_append, List.toList_toArray, Option.isSome_some, Option.map_some, Option.map_none, Nat.reduceBEq, isShift, kEq, fEq, binInt, binFloat, shiftInt, binStr])
  (refine (IsPoint_ct w11 ax ay plx ply).mono ?_; rintro _ w12 ⟨rfl, hw12⟩)
  (try simp only [RS, RF, cond_true, cond_false, List.nil_append, List.cons_append, List.toList_toArray, Option.isSome_some, Option.map_some, Option.map_none, Nat.reduceBEq, isShift, kEq, fEq, binInt, binFloat, shiftInt, binStr])
  have hb12 := (hb10.trans hw11).trans hw12
  have hW12 := hW6.bl hb12
  (refine (hbal w12 hW12 hwok hpl plx ply aD (fun hl => (hdone hl).ok)).mono ?_; rintro _ w13 ⟨e13, hw13⟩)
  have hW13 := hW12.bl hw13
  have hB13 := (hB6.bl hb12).bl hw13
  have hbb13 := (hbb6.trans hb12).trans hw13
  have sec := hsbal w13 hW13 hwok hpl plx ply aD (fun hl => (hdone hl).ok)
  clear hbal hsbal hb10 hb12 hw7 hw8 hw9 hw10 hw11 hw12 hw13 hW6 hW12 hB6
  -- behind the balance at a point
  obtain ⟨m, rx, ry, c, hbv, hcase⟩ : ∃ m rx ry, ∃ c : Int, balV px py ax ay = .tuple #[fl m, cx rx ry, .int .i64 c] ∧ ((flt .f32 (dotW ax ay ax ay) least = true ∧ c = 2) ∨
      (flt .f32 (dotW ax ay ax ay) least = false ∧ c = 0 ∧ m = mW px py ax ay ∧ rx = restX px py ax ay ∧ ry = restY px py ax ay)) := by
    unfold balV
    cases hf : flt .f32 (dotW ax ay ax ay) least
    · exact ⟨_, _, _, _, rfl, .inr ⟨rfl, rfl, rfl, rfl, rfl⟩⟩
    · exact ⟨_, _, _, _, rfl, .inl ⟨rfl, rfl⟩⟩
  rw [hbv] at e13 sec
  subst e13
  have hge : fge .f32 (dotW ax ay ax ay) 981467136 = (c == 0) := by
    have e1 := flt_val aB.fin val_least.1
    rw [fge_val aB.fin val_least.1]
    rcases hcase with ⟨hf, rfl⟩ | ⟨hf, rfl, _⟩
    · rw [hf] at e1
      have := of_decide_eq_true e1.symm
      rw [decide_eq_false (by grind)]; rfl
    · rw [hf] at e1
      have : ¬ val (dotW ax ay ax ay) < val 981467136 := fun e => by rw [decide_eq_true e] at e1; cases e1
      rw [decide_eq_true (by grind)]; rfl
  (try simp only [RS, RF, cond_true, cond_false, List.nil_append, List.cons_append, List.toList_toArray, Option.isSome_some, Option.map_some, Option.map_none, Nat.reduceBEq, isShift, kEq, fEq, binInt, binFloat, shiftInt, binStr])
  (refine (sec).mono ?_; rintro _ w14 ⟨rfl, hw14⟩)
  (try simp only [RS, RF, cond_true, cond_false, List.nil_append, List.cons_append, List.toList_toArray, Option.isSome_some, Option.map_some, Option.map_none, Nat.reduceBEq, isShift, kEq, fEq, binInt, binFloat, shiftInt, binStr, bne_self_eq_false])
  intro b1 hb1
  subst hb1
  (try simp only [RS, RF, cond_true, cond_false, List.nil_append, List.cons_append, List.toList_toArray, Option.isSome_some, Option.map_some, Option.map_none, Nat.reduceBEq, isShift, kEq, fEq, binInt, binFloat, shiftInt, binStr])
  (refine (SameNumber_ct w14 m m).mono ?_; rintro _ w15 ⟨e15, hw15⟩)
  rw [decide_eq_true rfl] at e15
  subst e15
  (try simp only [RS, RF, cond_true, cond_false, List.nil_append, List.cons_append, List.toList_toArray, Option.isSome_some, Option.map_some, Option.map_none, Nat.reduceBEq, isShift, kEq, fEq, binInt, binFloat, shiftInt, binStr])
  (refine (sSamePoint_ct w15 rx ry).mono ?_; rintro _ w16 ⟨rfl, hw16⟩)
  (try simp only [RS, RF, cond_true, cond_false, List.nil_append, List.cons_append, List.toList_toArray, Option.isSome_some, Option.map_some, Option.map_none, Nat.reduceBEq, isShift, kEq, fEq, binInt, binFloat, shiftInt, binStr])
  intro b2 hb2
  (try simp only [RS, RF, cond_true, cond_false, List.nil_append, List.cons_append, List.toList_toArray, Option.isSome_some, Option.map_some, Option.map_none, Nat.reduceBEq, isShift, kEq, fEq, binInt, binFloat, shiftInt, binStr])
  (refine (sSquare_ct w16 ax ay aD).mono ?_; rintro _ w17 ⟨rfl, hw17⟩)
  (try simp only [RS, RF, cond_true, cond_false, List.nil_append, List.cons_append, List.toList_toArray, Option.isSome_some, Option.map_some, Option.map_none, Nat.reduceBEq, isShift, kEq, fEq, binInt, binFloat, shiftInt, binStr])
  intro b3 hb3
  rw [hge] at hb3
  subst hb2
  subst hb3
  (have hr__ := bneq w17 (c == 0) (.tmp 133) (.tmp 136); refine ⟨_, _, hr__, ?_⟩; clear hr__)
  (try simp only [RS, RF, cond_true, cond_false, List.nil_append, List.cons_append, List.toList_toArray, Option.isSome_some, Option.map_some, Option.map_none, Nat.reduceBEq, isShift, kEq, fEq, binInt, binFloat, shiftInt, binStr])
  have hb17 := ((hw14.trans hw15).trans hw16).trans hw17
  intro b4 hb4
  subst hb4
  (try simp only [RS, RF, cond_true, cond_false, List.nil_append, List.cons_append, List.toList_toArray, Option.isSome_some, Option.map_some, Option.map_none, Nat.reduceBEq, isShift, kEq, fEq, binInt, binFloat, shiftInt, binStr])
  refine cut_gd (σ := Unit) (fun _ => [(1, .slice a2 len2 cap2), (5, v), (11, fl (dotW px py px py)), (153, .bool false)]) (fun _ w' => Bl w13 w') ?_ ?_
  · rcases hcase with ⟨hf, rfl⟩ | ⟨hf, rfl, rfl, rfl, rfl⟩
    · have e : ((2 : Int) == 0) = false := rfl
      (try simp only [RS, RF, cond_true, cond_false, List.nil_append, List.cons_append, List.toList_toArray, Option.isSome_some, Option.map_some, Option.map_none, Nat.reduceBEq, isShift, kEq, fEq, binInt, binFloat, shiftInt, binStr, e])
      exact ⟨(), (agr_cons rfl (agr_cons rfl (agr_cons rfl (agr_cons rfl (agr_nil))))), hb17⟩
    · obtain ⟨b1, b2, b3, b4, b5, b6⟩ := hdone hf
      have e : ((0 : Int) == 0) = true := rfl
      (try simp only [RS, RF, cond_true, cond_false, List.nil_append, List.cons_append, List.toList_toArray, Option.isSome_some, Option.map_some, Option.map_none, Nat.reduceBEq, isShift, kEq, fEq, binInt, binFloat, shiftInt, binStr, forall_eq, e, b6])
      (refine (sSquare_ct w17 (restX px py ax ay) (restY px py ax ay) b2).mono ?_; rintro _ w18 ⟨rfl, hw18⟩)
      (try simp only [RS, RF, cond_true, cond_false, List.nil_append, List.cons_append, List.toList_toArray, Option.isSome_some, Option.map_some, Option.map_none, Nat.reduceBEq, isShift, kEq, fEq, binInt, binFloat, shiftInt, binStr])
      intro r1 n1 hr1
      rw [Okf.word b3 hr1]
      intro r2 n2 hr2
      rw [Okf.word b4 hr2]
      (try simp only [RS, RF, cond_true, cond_false, List.nil_append, List.cons_append, List.toList_toArray, Option.isSome_some, Option.map_some, Option.map_none, Nat.reduceBEq, isShift, kEq, fEq, binInt, binFloat, shiftInt, binStr, forall_eq, b5])
      exact ⟨(), (agr_cons rfl (agr_cons rfl (agr_cons rfl (agr_cons rfl (agr_nil))))), ((hb17.trans hw18).trans (Bl.drewN _ _)).trans (Bl.drewN _ _)⟩
  rintro _ e18 w18 hw18
  have hW18 := hW13.bl hw18
  have hB18 := hB13.bl hw18
  have hbb18 := hbb13.trans hw18
  clear hge hcase hbv sec hw14 hw15 hw16 hw17 hb17 hW13 hB13 hbb13 hw18 hdone
  (try simp only [RS, RF, cond_true, cond_false, List.nil_append, List.cons_append, List.toList_toArray, Option.isSome_some, Option.map_some, Option.map_none, Nat.reduceBEq, isShift, kEq, fEq, binInt, binFloat, shiftInt, binStr])
  (refine (hbp w18 hW18 hwok hpl hmas).mono ?_; rintro _ w19 ⟨rfl, hw19⟩)
  have hgood := outer_good (px := px) (py := py) (fun i k u v hr hik hk => by
    obtain ⟨hl, rfl, rfl, hU, hV, _⟩ := mass_some hr
    have hm := hmas i k (by omega) hk hl
    exact (sum_bd (amount_bd hm.f1 hU).1 (amount_bd hm.f2 hV).1).2.fin) 8 (by omega)
  have sec := hsbp w19 (hW18.bl hw19) hwok hpl hmas
  generalize outerB px py 8 = st at *
  have hw20 : ∀ w', Bl w19 w' → Bl w18 w' := fun w' h => hw19.trans h
  cases st with
  | none =>
    unfold bestV at *
    (try simp only [RS, RF, cond_true, cond_false, List.nil_append, List.cons_append, List.toList_toArray, Option.isSome_some, Option.map_some, Option.map_none, Nat.reduceBEq, isShift, kEq, fEq, binInt, binFloat, shiftInt, binStr])
    (refine (sec).mono ?_; rintro _ w20 ⟨rfl, hb20⟩)
    (try simp only [RS, RF, cond_true, cond_false, List.nil_append, List.cons_append, List.toList_toArray, Option.isSome_some, Option.map_some, Option.map_none, Nat.reduceBEq, isShift, kEq, fEq, binInt, binFloat, shiftInt, binStr, forall_eq, bne_self_eq_false])
    (refine (SameNumber_ct w20 0 0).mono ?_; rintro _ w21 ⟨e21, hw21⟩)
    rw [decide_eq_true rfl] at e21
    subst e21
    have e : ((6 : Int) != 0) = true := rfl
    (try simp only [RS, RF, cond_true, cond_false, List.nil_append, List.cons_append, List.toList_toArray, Option.isSome_some, Option.map_some, Option.map_none, Nat.reduceBEq, isShift, kEq, fEq, binInt, binFloat, shiftInt, binStr, forall_eq, beq_self_eq_true, e])
    exact ⟨rfl, ((hbb18.trans hw19).trans hb20).trans hw21⟩
  | some t =>
    obtain ⟨i, k, s⟩ := t
    obtain ⟨hik, hk8, ⟨mu, mv, hr, rfl⟩, hleast⟩ := hgood.some_ i k s rfl
    obtain ⟨hl, hmu, hmv, hU, hV, hmasV⟩ := mass_some hr
    have hm := hmas i k (by omega) hk8 hl
    have u1 := amount_bd (by rw [hmu]; exact hm.f1) hU
    have u2 := amount_bd (by rw [hmv]; exact hm.f2) hV
    have usum := sum_bd u1.1 u2.1
    have hod := over_done hpx hpy (by omega) hk8 hl
    have hfew : fge .f32 (fadd mu mv) 0 = true := by
      rw [fge_val usum.2.fin val_zero.1, val_zero.2]
      exact decide_eq_true (fadd_nn u1.1 u2.1 (by grind) (z99 (by grind)))
    unfold bestV at *
    (try simp only [RS, RF, cond_true, cond_false, List.nil_append, List.cons_append, List.toList_toArray, Option.isSome_some, Option.map_some, Option.map_none, Nat.reduceBEq, isShift, kEq, fEq, binInt, binFloat, shiftInt, binStr])
    (refine (sec).mono ?_; rintro _ w20 ⟨rfl, hb20⟩)
    (try simp only [RS, RF, cond_true, cond_false, List.nil_append, List.cons_append, List.toList_toArray, Option.isSome_some, Option.map_some, Option.map_none, Nat.reduceBEq, isShift, kEq, fEq, binInt, binFloat, shiftInt, binStr, forall_eq, bne_self_eq_false])
    (refine (SameNumber_ct w20 (fadd mu mv) (fadd mu mv)).mono ?_; rintro _ w21 ⟨e21, hw21⟩)
    rw [decide_eq_true rfl] at e21
    subst e21
    (try simp only [RS, RF, cond_true, cond_false, List.nil_append, List.cons_append, List.toList_toArray, Option.isSome_some, Option.map_some, Option.map_none, Nat.reduceBEq, isShift, kEq, fEq, binInt, binFloat, shiftInt, binStr, forall_eq, bne_self_eq_false])
    have hb21 := (hw19.trans hb20).trans hw21
    (refine (PlaceOf_ct w21 i (by omega)).mono ?_; rintro _ w22 ⟨rfl, hw22⟩)
    (try simp only [RS, RF, cond_true, cond_false, List.nil_append, List.cons_append, List.toList_toArray, Option.isSome_some, Option.map_some, Option.map_none, Nat.reduceBEq, isShift, kEq, fEq, binInt, binFloat, shiftInt, binStr])
    (refine (PlaceOf_ct w22 k (by omega)).mono ?_; rintro _ w23 ⟨rfl, hw23⟩)
    (try simp only [RS, RF, cond_true, cond_false, List.nil_append, List.cons_append, List.toList_toArray, Option.isSome_some, Option.map_some, Option.map_none, Nat.reduceBEq, isShift, kEq, fEq, binInt, binFloat, shiftInt, binStr])
    have hb23 := (hb21.trans hw22).trans hw23
    have e1 : decide ((i : Int) < 0) = false := decide_eq_false (by omega)
    have e2 : decide ((k : Int) ≤ i) = false := decide_eq_false (by omega)
    have e3 : decide ((k : Int) > 7) = false := decide_eq_false (by omega)
    have hW23 := hW18.bl hb23
    (generalize hE : upd _ _ _ = E; have hA : agrees E [(1, .slice a2 len2 cap2), (5, v), (11, fl (dotW px py px py)), (22, .int .i64 i), (23, .int .i64 k), (24, fl (fadd mu mv)), (26, cx (plW i).1 (plW i).2), (27, .int .i64 0), (28, cx (plW k).1 (plW k).2), (29, .int .i64 0)] := (by rw [← hE]; exact (agr_cons rfl (agr_cons rfl (agr_cons rfl (agr_cons rfl (agr_cons rfl (agr_cons rfl (agr_cons rfl (agr_cons rfl (agr_cons rfl (agr_cons rfl (agr_nil)))))))))))); rw [← over_agrees hA]; clear hA hE; generalize E = e0__)
    (try simp only [RS, RF, cond_true, cond_false, List.nil_append, List.cons_append, List.toList_toArray, Option.isSome_some, Option.map_some, Option.map_none, Nat.reduceBEq, isShift, kEq, fEq, binInt, binFloat, shiftInt, binStr, forall_eq, bne_self_eq_false, e1, e2, e3, hfew])
    (refine (hbw w23 i k (by omega) hk8 hW23 hwok hpl (fun _ => hm)).mono ?_; rintro _ w24 ⟨e24, hw24⟩)
    rw [hmasV] at e24
    subst e24
    (try simp only [RS, RF, cond_true, cond_false, List.nil_append, List.cons_append, List.toList_toArray, Option.isSome_some, Option.map_some, Option.map_none, Nat.reduceBEq, isShift, kEq, fEq, binInt, binFloat, shiftInt, binStr])
    (refine (hsbw w24 i k (by omega) hk8 (hW23.bl hw24) hwok hpl (fun _ => hm)).mono ?_; rintro _ w25 ⟨x', y', c', rfl, hxy, hw25⟩)
    rw [hmasV] at hxy
    simp only [Value.tuple.injEq, Array.mk.injEq, List.cons.injEq, Value.float.injEq, Value.int.injEq, true_and, and_true] at hxy
    obtain ⟨rfl, rfl, rfl⟩ := hxy
    (try simp only [RS, RF, cond_true, cond_false, List.nil_append, List.cons_append, List.toList_toArray, Option.isSome_some, Option.map_some, Option.map_none, Nat.reduceBEq, isShift, kEq, fEq, binInt, binFloat, shiftInt, binStr])
    refine ⟨#[cx (plW i).1 (plW i).2, fl mu], by kernel_rfl, ?_⟩
    (try simp only [RS, RF, cond_true, cond_false, List.nil_append, List.cons_append, List.toList_toArray, Option.isSome_some, Option.map_some, Option.map_none, Nat.reduceBEq, isShift, kEq, fEq, binInt, binFloat, shiftInt, binStr])
    refine ⟨#[cx (plW k).1 (plW k).2, fl mv], by kernel_rfl, ?_⟩
    (try simp only [RS, RF, cond_true, cond_false, List.nil_append, List.cons_append, List.toList_toArray, Option.isSome_some, Option.map_some, Option.map_none, Nat.reduceBEq, isShift, kEq, fEq, binInt, binFloat, shiftInt, binStr])
    (have hr__ := bs2W w25 (plW i).1 (plW i).2 mu (plW k).1 (plW k).2 mv; refine ⟨_, _, hr__, ?_⟩; clear hr__)
    (try simp only [RS, RF, cond_true, cond_false, List.nil_append, List.cons_append, List.toList_toArray, Option.isSome_some, Option.map_some, Option.map_none, Nat.reduceBEq, isShift, kEq, fEq, binInt, binFloat, shiftInt, binStr])
    have hb25 := (hb23.trans hw24).trans hw25
    have hwt := wt2 w25 ((plW i).1, (plW i).2, mu) ((plW k).1, (plW k).2, mv)
    have hms : ([((plW i).1, (plW i).2, mu), ((plW k).1, (plW k).2, mv)] : List WV) = twoWs px py i k := by unfold twoWs; rw [hmu, hmv]
    have hpi := pl_plain (n := i) (by omega)
    have hpk := pl_plain (n := k) (by omega)
    have hbA : Bl w25 (w25.alloc (.cells #[cx (plW i).1 (plW i).2, fl mu, cx (plW k).1 (plW k).2, fl mv] 77)) := Bl.alloc _ _
    have hom : ∀ d ∈ ([((plW i).1, (plW i).2, mu), ((plW k).1, (plW k).2, mv)] : List WV), Wok d := by
      intro d hd
      rcases List.mem_cons.1 hd with rfl | hd
      · exact ⟨hpi.1, hpi.2, hU, u1.1.fin⟩
      · simp at hd
        subst hd
        exact ⟨hpk.1, hpk.2, hV, u2.1.fin⟩
    have hod1 := hod.pl
    have hod2 := hod.sq
    have hod3 := hod.le
    rw [← hms] at hod1 hod2 hod3
    have hcall := hlo (w25.alloc (.cells #[cx (plW i).1 (plW i).2, fl mu, cx (plW k).1 (plW k).2, fl mv] 77)) (.slice (some ⟨w25.heap.size, 0, none⟩) 2 2) [((plW i).1, (plW i).2, mu), ((plW k).1, (plW k).2, mv)] ((hW23.bl (hw24.trans hw25)).bl hbA) hwt hwok hom (by simp; omega) hpl hod1 hod2
    generalize (pullW (px, py) [((plW i).1, (plW i).2, mu), ((plW k).1, (plW k).2, mv)]).1 = gx at *
    generalize (pullW (px, py) [((plW i).1, (plW i).2, mu), ((plW k).1, (plW k).2, mv)]).2 = gy at *
    (refine (hcall).mono ?_; rintro _ w26 ⟨rfl, hw26⟩)
    have hb26 := (hb25.trans hbA).trans hw26
    have hB26 := hB18.bl hb26
    have hW26 := hW18.bl hb26
    have hbb26 := hbb18.trans hb26
    clear hcall hlo hod1 hod2 hwt hom hbA hb25 hw24 hw25 hw26 hb26 hW23 hb23 hw22 hw23 hb21 hw21 hb20 hw19 hB18 hW18 hbb18
    (try simp only [RS, RF, cond_true, cond_false, List.nil_append, List.cons_append, List.toList_toArray, Option.isSome_some, Option.map_some, Option.map_none, Nat.reduceBEq, isShift, kEq, fEq, binInt, binFloat, shiftInt, binStr, bne_self_eq_false])
    (generalize hE : upd _ _ _ = E; have hA : agrees E [(1, .slice a2 len2 cap2), (5, v), (11, fl (dotW px py px py)), (24, fl (fadd mu mv)), (30, fl mu), (31, fl mv), (32, .int .i64 0), (33, fl mu), (34, fl mv), (35, .int .i64 0), (36, fl (dotW gx gy gx gy)), (37, .int .i64 0)] := (by rw [← hE]; exact (agr_cons rfl (agr_cons rfl (agr_cons rfl (agr_cons rfl (agr_cons rfl (agr_cons rfl (agr_cons rfl (agr_cons rfl (agr_cons rfl (agr_cons rfl (agr_cons rfl (agr_cons rfl (agr_nil)))))))))))))); rw [← over_agrees hA]; clear hA hE; generalize E = e0__)
    (try simp only [RS, RF, cond_true, cond_false, List.nil_append, List.cons_append, List.toList_toArray, Option.isSome_some, Option.map_some, Option.map_none, Nat.reduceBEq, isShift, kEq, fEq, binInt, binFloat, shiftInt, binStr, forall_eq, bne_self_eq_false])
    (refine (SameNumber_ct w26 mu mu).mono ?_; rintro _ w27 ⟨e27, hw27⟩)
    rw [decide_eq_true rfl] at e27
    subst e27
    (try simp only [RS, RF, cond_true, cond_false, List.nil_append, List.cons_append, List.toList_toArray, Option.isSome_some, Option.map_some, Option.map_none, Nat.reduceBEq, isShift, kEq, fEq, binInt, binFloat, shiftInt, binStr])
    (refine (SameNumber_ct w27 mv mv).mono ?_; rintro _ w28 ⟨e28, hw28⟩)
    rw [decide_eq_true rfl] at e28
    subst e28
    (try simp only [RS, RF, cond_true, cond_false, List.nil_append, List.cons_append, List.toList_toArray, Option.isSome_some, Option.map_some, Option.map_none, Nat.reduceBEq, isShift, kEq, fEq, binInt, binFloat, shiftInt, binStr])
    intro r1 n1 hr1
    rw [Okf.word usum.1 hr1]
    (try simp only [RS, RF, cond_true, cond_false, List.nil_append, List.cons_append, List.toList_toArray, Option.isSome_some, Option.map_some, Option.map_none, Nat.reduceBEq, isShift, kEq, fEq, binInt, binFloat, shiftInt, binStr])
    (refine (SameNumber_ct (w28.drewN n1) (fadd mu mv) (fadd mu mv)).mono ?_; rintro _ w29 ⟨e29, hw29⟩)
    rw [decide_eq_true rfl] at e29
    subst e29
    (try simp only [RS, RF, cond_true, cond_false, List.nil_append, List.cons_append, List.toList_toArray, Option.isSome_some, Option.map_some, Option.map_none, Nat.reduceBEq, isShift, kEq, fEq, binInt, binFloat, shiftInt, binStr, forall_eq, bne_self_eq_false])
    intro r2 n2 hr2
    rw [Okf.word hod.q1 hr2]
    intro r3 n3 hr3
    rw [Okf.word hod.q2 hr3]
    (try simp only [RS, RF, cond_true, cond_false, List.nil_append, List.cons_append, List.toList_toArray, Option.isSome_some, Option.map_some, Option.map_none, Nat.reduceBEq, isShift, kEq, fEq, binInt, binFloat, shiftInt, binStr, forall_eq, hod3])
    have hb29 : Bl w26 ((w29.drewN n2).drewN n3) := (((hw27.trans hw28).trans (Bl.drewN _ _)).trans hw29).trans ((Bl.drewN _ _).trans (Bl.drewN _ _))
    have hbb29 := hbb26.trans hb29
    have hB29 := hB26.bl hb29
    have hW29 := hW26.bl hb29
    generalize (w29.drewN n2).drewN n3 = w30 at *
    clear hb29 hw27 hw28 hw29 hbb26 hB26 hW26
    (generalize hE : upd _ _ _ = E; have hA : agrees E [(1, .slice a2 len2 cap2), (5, v), (24, fl (fadd mu mv))] := (by rw [← hE]; exact (agr_cons rfl (agr_cons rfl (agr_cons rfl (agr_nil))))); rw [← over_agrees hA]; clear hA hE; generalize E = e0__)
    (try simp only [RS, RF, cond_true, cond_false, List.nil_append, List.cons_append, List.toList_toArray, Option.isSome_some, Option.map_some, Option.map_none, Nat.reduceBEq, isShift, kEq, fEq, binInt, binFloat, shiftInt, binStr])
    (refine (a2At_ct w30 (.slice a2 len2 cap2) 0 8 hB29 (by omega) (by omega)).mono ?_; rintro _ w31 ⟨xn, rfl, hn0, hn8, hw31⟩)
    (try simp only [RS, RF, cond_true, cond_false, List.nil_append, List.cons_append, List.toList_toArray, Option.isSome_some, Option.map_some, Option.map_none, Nat.reduceBEq, isShift, kEq, fEq, binInt, binFloat, shiftInt, binStr])
    (refine (a2At_ct w31 (.slice a2 len2 cap2) 1 8 (hB29.bl hw31) (by omega) (by omega)).mono ?_; rintro _ w32 ⟨xm, rfl, hm0, hm8, hw32⟩)
    have hb32 := hw31.trans hw32
    have hW32 := hW29.bl hb32
    have hbb32 := hbb29.trans hb32
    (try simp only [RS, RF, cond_true, cond_false, List.nil_append, List.cons_append, List.toList_toArray, Option.isSome_some, Option.map_some, Option.map_none, Nat.reduceBEq, isShift, kEq, fEq, binInt, binFloat, shiftInt, binStr])
    intro b5 hb5
    cases b5
    rotate_left
    · (try simp only [RS, RF, cond_true, cond_false, List.nil_append, List.cons_append, List.toList_toArray, Option.isSome_some, Option.map_some, Option.map_none, Nat.reduceBEq, isShift, kEq, fEq, binInt, binFloat, shiftInt, binStr])
      exact ⟨rfl, hbb32⟩
    have hne : xn ≠ xm := fun e => by rw [e, beq_self_eq_true] at hb5; cases hb5
    (try simp only [RS, RF, cond_true, cond_false, List.nil_append, List.cons_append, List.toList_toArray, Option.isSome_some, Option.map_some, Option.map_none, Nat.reduceBEq, isShift, kEq, fEq, binInt, binFloat, shiftInt, binStr])
    obtain ⟨p, q, hp, hq, hpq, hq8⟩ : ∃ p q : Nat, (if xm < xn then xm else xn) = (p : Int) ∧ (if xm > xn then xm else xn) = (q : Int) ∧ p < q ∧ q < 8 := by
      refine ⟨(if xm < xn then xm else xn).toNat, (if xm > xn then xm else xn).toNat, ?_, ?_, ?_, ?_⟩ <;> split <;> (try split) <;> omega
    rw [hp]
    (refine (sPlaceOf_ct w32 p (by omega)).mono ?_; rintro _ w33 ⟨rfl, hw33⟩)
    (try simp only [RS, RF, cond_true, cond_false, List.nil_append, List.cons_append, List.toList_toArray, Option.isSome_some, Option.map_some, Option.map_none, Nat.reduceBEq, isShift, kEq, fEq, binInt, binFloat, shiftInt, binStr])
    rw [hq]
    (refine (sPlaceOf_ct w33 q hq8).mono ?_; rintro _ w34 ⟨rfl, hw34⟩)
    (try simp only [RS, RF, cond_true, cond_false, List.nil_append, List.cons_append, List.toList_toArray, Option.isSome_some, Option.map_some, Option.map_none, Nat.reduceBEq, isShift, kEq, fEq, binInt, binFloat, shiftInt, binStr])
    have hb34 := hw33.trans hw34
    have hmpq : lineB p q = false → MasOK px py p q := hmas p q (by omega) hq8
    (refine (hbw w34 p q (by omega) hq8 (hW32.bl hb34) hwok hpl hmpq).mono ?_; rintro _ w35 ⟨e35, hw35⟩)
    have hbb35 := (hbb32.trans hb34).trans hw35
    rcases masV_cases px py p q hmpq with ⟨c, hV2, hc, _⟩ | ⟨x, y, hV2, hr2, hx, hy, hsum, hsb⟩
    · rw [hV2] at e35
      subst e35
      rcases hc with rfl | rfl
      · have e : ((4 : Int) != 0) = true := rfl
        (try simp only [RS, RF, cond_true, cond_false, List.nil_append, List.cons_append, List.toList_toArray, Option.isSome_some, Option.map_some, Option.map_none, Nat.reduceBEq, isShift, kEq, fEq, binInt, binFloat, shiftInt, binStr, forall_eq, beq_self_eq_true, e])
        exact ⟨rfl, hbb35⟩
      · have e : ((6 : Int) != 0) = true := rfl
        have e2 : ((6 : Int) == 4) = false := rfl
        (try simp only [RS, RF, cond_true, cond_false, List.nil_append, List.cons_append, List.toList_toArray, Option.isSome_some, Option.map_some, Option.map_none, Nat.reduceBEq, isShift, kEq, fEq, binInt, binFloat, shiftInt, binStr, forall_eq, beq_self_eq_true, e, e2])
        exact ⟨rfl, hbb35⟩
    · rw [hV2] at e35
      subst e35
      have hfin : fge .f32 (fadd x y) (fadd mu mv) = true := by
        rw [fge_val hsb.fin usum.2.fin]
        exact decide_eq_true (hleast p q x y ⟨by omega, hpq, hq8⟩ hr2)
      (try simp only [RS, RF, cond_true, cond_false, List.nil_append, List.cons_append, List.toList_toArray, Option.isSome_some, Option.map_some, Option.map_none, Nat.reduceBEq, isShift, kEq, fEq, binInt, binFloat, shiftInt, binStr, forall_eq, beq_self_eq_true, bne_self_eq_false])
      intro r4 n4 hr4
      rw [Okf.word hsum hr4]
      (try simp only [RS, RF, cond_true, cond_false, List.nil_append, List.cons_append, List.toList_toArray, Option.isSome_some, Option.map_some, Option.map_none, Nat.reduceBEq, isShift, kEq, fEq, binInt, binFloat, shiftInt, binStr, forall_eq, hfin])
      exact ⟨rfl, hbb35.trans (Bl.drewN _ _)⟩
end Go.Proofs.Ytjgpnbchnenbeaa
