/- FnPlays: bounds of play; bytes with one more ahead. -/
import Derived.Test.YtjgpnbchnenbeaaP5
namespace Go.Proofs.Ytjgpnbchnenbeaa
set_option linter.unusedSimpArgs false
set_option linter.unusedVariables false
open Go
open Go.RowKit (Below)

theorem bs2L (w : World) (g n c g' n' c' : Nat) : (Instr.buildSlice 184 2 ([(0, colV g n c), (1, colV g' n' c')] : List (Nat × Value)).toArray).run Try.prog w =
    .ok (.slice (some ⟨w.heap.size, 0, none⟩) 2 2) (w.alloc (.cells #[colV g n c, colV g' n' c'] 28)) := by kernel_rfl
theorem lists2 {w : World} {ps : List PairV} {g c g' c' : Nat} {pl ql : List Nat} (hg : PlAt w g pl) (hl : pl.length = ps.length) (hp : Parts pl) (hg' : PlAt w g' ql) (hl' : ql.length = ps.length) (hp' : Parts ql) (el : TypeId) :
    Lists (w.alloc (.cells #[colV g ps.length c, colV g' ps.length c'] el)) ps w.heap.size [(g, c, pl), (g', c', ql)] := by
  intro k g1 c1 pl1 hk
  match k, hk with
  | 0, hk =>
    simp only [List.getElem?_cons_zero, Option.some.injEq, Prod.mk.injEq] at hk
    obtain ⟨rfl, rfl, rfl⟩ := hk
    exact ⟨by rw [cell_blk (alloc_new w _)]; rfl, hg.bl (Bl.alloc _ _), hl, hp⟩
  | 1, hk =>
    simp only [List.getElem?_cons_succ, List.getElem?_cons_zero, Option.some.injEq, Prod.mk.injEq] at hk
    obtain ⟨rfl, rfl, rfl⟩ := hk
    exact ⟨by rw [cell_blk (alloc_new w _)]; rfl, hg'.bl (Bl.alloc _ _), hl', hp'⟩
  | k + 2, hk => simp at hk
set_option maxRecDepth 100000 in
theorem PlayBounds_ct (w : World) (b o cap : Nat) (ps : List PairV) (g c : Nat) (pl : List Nat) (g' c' : Nat) (ql : List Nat) (h : TrainAt w b o ps) (hg : PlAt w g pl) (hl : pl.length = ps.length) (hp : Parts pl) (hg' : PlAt w g' ql) (hl' : ql.length = ps.length) (hp' : Parts ql)
    (hle : ∀ j, pl.getD j 0 ≤ ql.getD j 0) :
    Ct Try.prog 44 #[trainV b o cap ps, colV g ps.length c, colV g' ps.length c'] w (Is (.tuple #[fl (endB ps pl), fl (endB ps ql), .int .i64 0]) w) := by
  have h1 := h.ge
  have h4 := h.le
  (refine fn_of_W Try.func44 rfl (by kernel_rfl) (by kernel_rfl) (Nat.le_of_ble_eq_true (by kernel_rfl)) ?_; (try simp only [RS, RF, cond_true, cond_false, List.nil_append, List.cons_append, List.toList_toArray, Option.isSome_some, Option.map_some, Option.map_none, Nat.reduceBEq, isShift, kEq, fEq, binInt, binFloat, shiftInt, binStr, Try.f44]))
  (have hr__ := bs2L w g ps.length c g' ps.length c'; refine ⟨_, _, hr__, ?_⟩; clear hr__)
  (try simp only [RS, RF, cond_true, cond_false, List.nil_append, List.cons_append, List.toList_toArray, Option.isSome_some, Option.map_some, Option.map_none, Nat.reduceBEq, isShift, kEq, fEq, binInt, binFloat, shiftInt, binStr])
  have hw0 : Bl w (w.alloc (.cells #[colV g ps.length c, colV g' ps.length c'] 28)) := Bl.alloc w _
  (refine (playCode_ct _ b o cap ps w.heap.size 2 [(g, c, pl), (g', c', ql)] (h.bl hw0) (lists2 hg hl hp hg' hl' hp' _) (by simp)).mono ?_; rintro _ w1 ⟨rfl, hw1⟩)
  (try simp only [RS, RF, cond_true, cond_false, List.nil_append, List.cons_append, List.toList_toArray, Option.isSome_some, Option.map_some, Option.map_none, Nat.reduceBEq, isShift, kEq, fEq, binInt, binFloat, shiftInt, binStr])
  intro b1 hb1
  have : b1 = false := by rw [hb1]; rfl
  subst this
  (try simp only [RS, RF, cond_true, cond_false, List.nil_append, List.cons_append, List.toList_toArray, Option.isSome_some, Option.map_some, Option.map_none, Nat.reduceBEq, isShift, kEq, fEq, binInt, binFloat, shiftInt, binStr])
  have hb1 := hw0.trans hw1
  refine loop_W (σ := Nat) (fun k => [(0, trainV b o cap ps), (1, colV g ps.length c), (2, colV g' ps.length c'), (20, colV g ps.length c), (21, .int .i64 ps.length), (22, .int .i64 k)]) (fun k w' => k ≤ ps.length ∧ Bl w w') (fun k => ps.length - k) 0 (agr_cons rfl (agr_cons rfl (agr_cons rfl (agr_cons rfl (agr_cons rfl (agr_cons rfl (agr_nil))))))) ⟨by omega, hb1⟩ ?_
  rintro k w2 e2 ⟨hk, hb2⟩
  (try simp only [RS, RF, cond_true, cond_false, List.nil_append, List.cons_append, List.toList_toArray, Option.isSome_some, Option.map_some, Option.map_none, Nat.reduceBEq, isShift, kEq, fEq, binInt, binFloat, shiftInt, binStr])
  intro b2 h2
  cases b2
  · (try simp only [RS, RF, cond_true, cond_false, List.nil_append, List.cons_append, List.toList_toArray, Option.isSome_some, Option.map_some, Option.map_none, Nat.reduceBEq, isShift, kEq, fEq, binInt, binFloat, shiftInt, binStr])
    (refine (atEnd_ct w2 b o cap ps g c pl (h.bl hb2) (hg.bl hb2) hl hp).mono ?_; rintro _ w3 ⟨rfl, hw3⟩)
    (try simp only [RS, RF, cond_true, cond_false, List.nil_append, List.cons_append, List.toList_toArray, Option.isSome_some, Option.map_some, Option.map_none, Nat.reduceBEq, isShift, kEq, fEq, binInt, binFloat, shiftInt, binStr])
    (refine (atEnd_ct w3 b o cap ps g' c' ql ((h.bl hb2).bl hw3) ((hg'.bl hb2).bl hw3) hl' hp').mono ?_; rintro _ w4 ⟨rfl, hw4⟩)
    (try simp only [RS, RF, cond_true, cond_false, List.nil_append, List.cons_append, List.toList_toArray, Option.isSome_some, Option.map_some, Option.map_none, Nat.reduceBEq, isShift, kEq, fEq, binInt, binFloat, shiftInt, binStr])
    exact ⟨rfl, (hb2.trans hw3).trans hw4⟩
  · have hlt : k < ps.length := by have := h2.symm; simp at this; omega
    obtain ⟨x, hx⟩ := ex_get (l := pl) (j := k) (by omega)
    obtain ⟨y, hy⟩ := ex_get (l := ql) (j := k) (by omega)
    have hxy := hle k
    rw [get_some hx, get_some hy] at hxy
    have hyp := hp' y (List.mem_of_getElem? hy)
    (try simp only [RS, RF, cond_true, cond_false, List.nil_append, List.cons_append, List.toList_toArray, Option.isSome_some, Option.map_some, Option.map_none, Nat.reduceBEq, isShift, kEq, fEq, binInt, binFloat, shiftInt, binStr, Int.toNat_natCast])
    refine ⟨by omega, _, ld1 (by kernel_rfl) ((hg.bl hb2) k x hx), ?_⟩
    (try simp only [RS, RF, cond_true, cond_false, List.nil_append, List.cons_append, List.toList_toArray, Option.isSome_some, Option.map_some, Option.map_none, Nat.reduceBEq, isShift, kEq, fEq, binInt, binFloat, shiftInt, binStr, Int.toNat_natCast])
    refine ⟨by omega, _, ld1 (by kernel_rfl) ((hg'.bl hb2) k y hy), ?_⟩
    (try simp only [RS, RF, cond_true, cond_false, List.nil_append, List.cons_append, List.toList_toArray, Option.isSome_some, Option.map_some, Option.map_none, Nat.reduceBEq, isShift, kEq, fEq, binInt, binFloat, shiftInt, binStr])
    intro b3 h3
    rw [fgt_pos (by omega) (by omega), decide_eq_false (by omega)] at h3
    subst h3
    (try simp only [RS, RF, cond_true, cond_false, List.nil_append, List.cons_append, List.toList_toArray, Option.isSome_some, Option.map_some, Option.map_none, Nat.reduceBEq, isShift, kEq, fEq, binInt, binFloat, shiftInt, binStr])
    rw [IntWalk.i64_in ((k : Int) + 1) (by omega)]
    exact ⟨k + 1, (agr_cons rfl (agr_cons rfl (agr_cons rfl (agr_cons rfl (agr_cons rfl (agr_cons rfl (agr_nil))))))), ⟨by omega, hb2⟩, by omega⟩
set_option maxRecDepth 100000 in
theorem sPlayBounds_ct (w : World) (b o cap : Nat) (ps : List PairV) (g c : Nat) (pl : List Nat) (g' c' : Nat) (ql : List Nat) (h : TrainAt w b o ps) (hg : PlAt w g pl) (hl : pl.length = ps.length) (hp : Parts pl) (hg' : PlAt w g' ql) (hl' : ql.length = ps.length) (hp' : Parts ql)
    (hle : ∀ j, pl.getD j 0 ≤ ql.getD j 0) :
    Ct Try.prog 45 #[trainV b o cap ps, colV g ps.length c, colV g' ps.length c'] w (Is (.tuple #[fl (endB ps pl), fl (endB ps ql), .int .i64 0]) w) := by
  have h1 := h.ge
  have h4 := h.le
  (refine fn_of_W Try.func45 rfl (by kernel_rfl) (by kernel_rfl) (Nat.le_of_ble_eq_true (by kernel_rfl)) ?_; (try simp only [RS, RF, cond_true, cond_false, List.nil_append, List.cons_append, List.toList_toArray, Option.isSome_some, Option.map_some, Option.map_none, Nat.reduceBEq, isShift, kEq, fEq, binInt, binFloat, shiftInt, binStr, Try.f45]))
  (refine (l06Asked_ct w b o cap ps g c pl h hg hl hp).mono ?_; rintro _ w1 ⟨rfl, hw1⟩)
  (try simp only [RS, RF, cond_true, cond_false, List.nil_append, List.cons_append, List.toList_toArray, Option.isSome_some, Option.map_some, Option.map_none, Nat.reduceBEq, isShift, kEq, fEq, binInt, binFloat, shiftInt, binStr])
  intro b1 hb1
  have : b1 = true := by rw [hb1]; rfl
  subst this
  (try simp only [RS, RF, cond_true, cond_false, List.nil_append, List.cons_append, List.toList_toArray, Option.isSome_some, Option.map_some, Option.map_none, Nat.reduceBEq, isShift, kEq, fEq, binInt, binFloat, shiftInt, binStr])
  (refine (l06Plays_ct w1 b o cap ps g' c' ql (h.bl hw1) (hg'.bl hw1) hl' hp').mono ?_; rintro _ w2 ⟨rfl, hw2⟩)
  (try simp only [RS, RF, cond_true, cond_false, List.nil_append, List.cons_append, List.toList_toArray, Option.isSome_some, Option.map_some, Option.map_none, Nat.reduceBEq, isShift, kEq, fEq, binInt, binFloat, shiftInt, binStr])
  intro b2 hb2
  have : b2 = false := by rw [hb2]; rfl
  subst this
  (try simp only [RS, RF, cond_true, cond_false, List.nil_append, List.cons_append, List.toList_toArray, Option.isSome_some, Option.map_some, Option.map_none, Nat.reduceBEq, isShift, kEq, fEq, binInt, binFloat, shiftInt, binStr])
  have hb2 := hw1.trans hw2
  refine loop_W (σ := Nat) (fun k => [(0, trainV b o cap ps), (1, colV g ps.length c), (2, colV g' ps.length c'), (10, .int .i64 k)]) (fun k w' => k ≤ ps.length ∧ Bl w w') (fun k => ps.length - k) 0 (agr_cons rfl (agr_cons rfl (agr_cons rfl (agr_cons rfl (agr_nil))))) ⟨by omega, hb2⟩ ?_
  rintro k w3 e3 ⟨hk, hb3⟩
  (try simp only [RS, RF, cond_true, cond_false, List.nil_append, List.cons_append, List.toList_toArray, Option.isSome_some, Option.map_some, Option.map_none, Nat.reduceBEq, isShift, kEq, fEq, binInt, binFloat, shiftInt, binStr])
  intro b3 h3
  cases b3
  · (try simp only [RS, RF, cond_true, cond_false, List.nil_append, List.cons_append, List.toList_toArray, Option.isSome_some, Option.map_some, Option.map_none, Nat.reduceBEq, isShift, kEq, fEq, binInt, binFloat, shiftInt, binStr])
    (refine (l06Last_ct w3 b o cap ps g c pl (h.bl hb3) (hg.bl hb3) hl hp).mono ?_; rintro _ w4 ⟨rfl, hw4⟩)
    (try simp only [RS, RF, cond_true, cond_false, List.nil_append, List.cons_append, List.toList_toArray, Option.isSome_some, Option.map_some, Option.map_none, Nat.reduceBEq, isShift, kEq, fEq, binInt, binFloat, shiftInt, binStr])
    (refine (l06Last_ct w4 b o cap ps g' c' ql ((h.bl hb3).bl hw4) ((hg'.bl hb3).bl hw4) hl' hp').mono ?_; rintro _ w5 ⟨rfl, hw5⟩)
    (try simp only [RS, RF, cond_true, cond_false, List.nil_append, List.cons_append, List.toList_toArray, Option.isSome_some, Option.map_some, Option.map_none, Nat.reduceBEq, isShift, kEq, fEq, binInt, binFloat, shiftInt, binStr])
    exact ⟨rfl, (hb3.trans hw4).trans hw5⟩
  · have hlt : k < ps.length := by have := h3.symm; simp at this; omega
    obtain ⟨x, hx⟩ := ex_get (l := pl) (j := k) (by omega)
    obtain ⟨y, hy⟩ := ex_get (l := ql) (j := k) (by omega)
    have hxy := hle k
    rw [get_some hx, get_some hy] at hxy
    have hyp := hp' y (List.mem_of_getElem? hy)
    (try simp only [RS, RF, cond_true, cond_false, List.nil_append, List.cons_append, List.toList_toArray, Option.isSome_some, Option.map_some, Option.map_none, Nat.reduceBEq, isShift, kEq, fEq, binInt, binFloat, shiftInt, binStr])
    refine draw_rule 8 (fun _ _ _ => False) mixed (by kernel_rfl) ?_
    (try simp only [RS, RF, cond_true, cond_false, List.nil_append, List.cons_append, List.toList_toArray, Option.isSome_some, Option.map_some, Option.map_none, Nat.reduceBEq, isShift, kEq, fEq, binInt, binFloat, shiftInt, binStr, Int.toNat_natCast])
    refine ⟨by omega, _, ldc (by kernel_rfl) ((hg.bl hb3) k x hx), by omega, _, ldc (by kernel_rfl) ((hg'.bl hb3) k y hy), ?_⟩
    (try simp only [RS, RF, cond_true, cond_false, List.nil_append, List.cons_append, List.toList_toArray, Option.isSome_some, Option.map_some, Option.map_none, Nat.reduceBEq, isShift, kEq, fEq, binInt, binFloat, shiftInt, binStr])
    intro w4 hw4
    (try simp only [RS, RF, cond_true, cond_false, List.nil_append, List.cons_append, List.toList_toArray, Option.isSome_some, Option.map_some, Option.map_none, Nat.reduceBEq, isShift, kEq, fEq, binInt, binFloat, shiftInt, binStr])
    intro b4 h4'
    rw [fgt_pos (by omega) (by omega), decide_eq_false (by omega)] at h4'
    subst h4'
    (try simp only [RS, RF, cond_true, cond_false, List.nil_append, List.cons_append, List.toList_toArray, Option.isSome_some, Option.map_some, Option.map_none, Nat.reduceBEq, isShift, kEq, fEq, binInt, binFloat, shiftInt, binStr])
    rw [IntWalk.i64_in ((k : Int) + 1) (by omega)]
    exact ⟨k + 1, (agr_cons rfl (agr_cons rfl (agr_cons rfl (agr_cons rfl (agr_nil))))), ⟨by omega, hb3.trans hw4⟩, by omega⟩

/-! ### Bytes with one more ahead -/
theorem Byt.list {w : World} {a : Option Addr} {len cap : Nat} (h : Byt w (.slice a len cap)) : ∃ ns : List Int, ns.length = len ∧ (∀ n ∈ ns, 0 ≤ n ∧ n ≤ 255) ∧
    (0 < len → ∃ bb o, a = some ⟨bb, o, none⟩ ∧ ∀ j n, ns[j]? = some n → w.cell? ⟨bb, o + j, none⟩ = some (.int .u8 n)) := by
  obtain ⟨a', len', cap', he, hc⟩ := h
  cases he
  have : ∀ k, k ≤ len → ∃ ns : List Int, ns.length = k ∧ (∀ n ∈ ns, 0 ≤ n ∧ n ≤ 255) ∧ (0 < len → ∃ bb o, a = some ⟨bb, o, none⟩ ∧ ∀ j n, ns[j]? = some n → w.cell? ⟨bb, o + j, none⟩ = some (.int .u8 n)) := by
    intro k
    induction k with
    | zero =>
      intro _
      refine ⟨[], rfl, (fun n h => by cases h), fun h0 => ?_⟩
      obtain ⟨bb, o, n, h1, _⟩ := hc 0 h0
      exact ⟨bb, o, h1, fun j n hj => by simp at hj⟩
    | succ k ih =>
      intro hk
      obtain ⟨ns, h1, h2, h3⟩ := ih (by omega)
      obtain ⟨bb, o, n, e1, e2, e3⟩ := hc k (by omega)
      refine ⟨ns ++ [n], by simp [h1], fun m hm => ?_, fun h0 => ?_⟩
      · rcases List.mem_append.1 hm with hm | hm
        · exact h2 m hm
        · simp at hm; subst hm; exact e3
      · obtain ⟨b2, o2, f1, f2⟩ := h3 h0
        rw [e1] at f1
        simp only [Option.some.injEq, Addr.mk.injEq, and_true] at f1
        obtain ⟨rfl, rfl⟩ := f1
        refine ⟨bb, o, e1, fun j m hj => ?_⟩
        rw [List.getElem?_append] at hj
        split at hj
        · exact f2 j m hj
        · rename_i hh
          have : j = k := by
            rcases Nat.lt_or_ge (j - ns.length) 1 with h | h
            · omega
            · rw [List.getElem?_eq_none (by simpa using h)] at hj; cases hj
          subst this
          rw [h1, Nat.sub_self] at hj
          simp only [List.getElem?_cons_zero, Option.some.injEq] at hj
          subst hj; exact e2
  exact this len (Nat.le_refl _)
theorem own1 (w : World) (B el sz : Nat) (hB : B ≤ w.heap.size) (v : Value) (hv : v.cells = #[v]) (hsz : sz = 1) : (w.alloc (.cells v.cells el)).ownsRow B el sz (.slice (some ⟨w.heap.size, 0, none⟩) 1 1) 1 [v] := by
  subst hsz
  rw [hv]
  exact World.ownsRow_lit w #[v] 1 hB (by unfold maxLen; omega) (by simp)
theorem app0c {P : Program} {t el sz bytes : Nat} (h : ST P t el sz bytes) {ty : TypeId} {w : World} {B : Nat} {s : Value} {n : Nat} {xs : List Value} {c : Nat} {K : Value → World → Prop} (hown : w.ownsRow B el sz s n xs) (hk : K s w) :
    runW P (Builtin.append_ [t, t].toArray ty [s, .slice none 0 c].toArray) w K := by
  obtain ⟨i, z, hi, hz, hs, hbb, hzs⟩ := h.ex
  refine ⟨s, w, ?_, hk⟩
  rcases hown.2 with ⟨rfl, rfl⟩ | ⟨g, cap, cur, rfl, _, _, hnc, _⟩
  · simp [Builtin.append_, run_underlying h.ht, sizeOf, typeInfo, hi, Builtin.lenOf, Builtin.firstCells]
  · simp [Builtin.append_, run_underlying h.ht, sizeOf, typeInfo, hi, Builtin.lenOf, Builtin.firstCells, hnc, storeCells]
/-- one byte ahead of bytes -/
theorem ahead {w : World} {a : Option Addr} {len cap : Nat} (h : Byt w (.slice a len cap)) (hl : len ≤ 100000) (n : Int) (hn : 0 ≤ n ∧ n ≤ 255) {K : Value → World → Prop}
    (hk : ∀ s w', Byt w' s → (∀ a' len' cap', s = .slice a' len' cap' → len' = len + 1) → Bl w w' → K s w') :
    runW Try.prog (Builtin.append_ [22, 22].toArray 22 [.slice (some ⟨w.heap.size, 0, none⟩) 1 1, .slice a len cap].toArray) (w.alloc (.cells (Value.int .u8 n).cells 5)) K := by
  have hw0 : Bl w (w.alloc (.cells (Value.int .u8 n).cells 5)) := Bl.alloc w _
  have hown := own1 w w.heap.size 5 1 (Nat.le_refl _) (.int .u8 n) rfl rfl
  obtain ⟨ns, h1, h2, h3⟩ := h.list
  have byt : ∀ (s : Value) (w' : World) (m : Nat) (zs : List Int), w'.ownsRow w.heap.size 5 1 s m (zs.map (Value.int .u8)) → (∀ z ∈ zs, 0 ≤ z ∧ z ≤ 255) → Byt w' s ∧ ∀ a' len' cap', s = .slice a' len' cap' → len' = m := by
    intro s w' m zs ho hz
    obtain ⟨hlen, a', cap', rfl, hc⟩ := Rd.of_own ho
    refine ⟨⟨a', m, cap', rfl, fun i hi => ?_⟩, fun _ _ _ e => by cases e; rfl⟩
    obtain ⟨bb, o, rfl, hcell⟩ := hc (by omega)
    have hzl : zs.length = m := by simpa using hlen
    obtain ⟨z, hzi⟩ := ex_get (l := zs) (j := i) (by omega)
    exact ⟨bb, o, z, rfl, hcell i _ (by rw [List.getElem?_map, hzi]; rfl), hz z (List.mem_of_getElem? hzi)⟩
  rcases Nat.eq_zero_or_pos len with h0 | h0
  · subst h0
    obtain rfl : ns = [] := List.eq_nil_of_length_eq_zero h1
    have fin := byt (.slice (some ⟨w.heap.size, 0, none⟩) 1 1) _ 1 [n] hown (by intro z hz; simp at hz; subst hz; exact hn)
    cases a with
    | none =>
      exact app0c st_22 hown (hk _ _ fin.1 fin.2 hw0)
    | some x =>
      refine appN (B := w.heap.size) (n := 1) (xs := [.int .u8 n]) (m := 0) (news := []) st_22 hown (by rw [alloc_size]; omega) (by simp) (fun j u hu => by simp at hu) (fun u hu => by cases hu) (by omega) (by decide) ?_
      intro s' w' ho hb hsz _
      have f2 := byt s' w' 1 [n] (by simpa using ho) (by intro z hz; simp at hz; subst hz; exact hn)
      exact hk s' w' f2.1 f2.2 (hw0.below' hb)
  · obtain ⟨bb, o, rfl, hcell⟩ := h3 h0
    refine appN (B := w.heap.size) (n := 1) (xs := [.int .u8 n]) (m := len) (news := ns.map (Value.int .u8)) st_22 hown (by rw [alloc_size]; omega) (by simp [h1]) ?_ ?_ (by omega) (by decide) ?_
    · intro j u hu
      rw [add_off]
      rw [List.getElem?_map] at hu
      cases hx : ns[j]? with
      | none => rw [hx] at hu; cases hu
      | some x =>
        rw [hx] at hu
        simp only [Option.map_some, Option.some.injEq] at hu
        subst hu
        exact hw0.cell (hcell j x hx)
    · intro u hu
      obtain ⟨x, _, rfl⟩ := List.mem_map.1 hu
      rfl
    · intro s' w' ho hb hsz _
      have f2 := byt s' w' (1 + len) (n :: ns) (by simpa using ho) (by
        intro z hz
        rcases List.mem_cons.1 hz with rfl | hz
        · exact hn
        · exact h2 z hz)
      exact hk s' w' f2.1 (fun a' l' c' e => by have := f2.2 a' l' c' e; omega) (hw0.below' hb)
end Go.Proofs.Ytjgpnbchnenbeaa
