/- More of memory: many elements at the end of a slice of the call's own; a store into an element of it. -/
import Derived.Test.YtjgpnbchnenbeaaDoorT
import Derived.Laws.OwnMore
namespace Go.Proofs.YtjgpnbchnenbeaaDoor
set_option linter.unusedSimpArgs false
set_option linter.unusedVariables false
open Go
open Go.RowKit (Below)

/-- elements that can be read, at the end of a slice of the call's own -/
theorem appN {P : Program} {t el sz bytes : Nat} (h : ST P t el sz bytes) {ty : TypeId} {w : World} {B : Nat} {s : Value} {n : Nat} {xs : List Value} {K : Value → World → Prop}
    (hown : w.ownsRow B el sz s n xs) (hB : B ≤ w.heap.size) {a : Addr} {m c : Nat} {news : List Value} (hl : news.length = m * sz) (hnews : ∀ j u, news[j]? = some u → w.cell? (a.add j) = some u) (h1 : ∀ u ∈ news, u.oneCell' = true)
    (hn : n + m ≤ 10000000) (hb : bytes ≤ 1000)
    (hk : ∀ s' w', w'.ownsRow B el sz s' (n + m) (xs ++ news) → Below B w w' → w.heap.size ≤ w'.heap.size →
      (∀ k, k < w.heap.size → s.ownBlock ≠ some k → w'.heap[k]? = w.heap[k]?) → K s' w') :
    runW P (Builtin.append_ [t, t].toArray ty [s, .slice (some a) m c].toArray) w K := by
  obtain ⟨i, z, hi, hz, hs, hbb, hzs⟩ := h.ex
  have hp := h.pos
  have hbytes : (n + m) * bytes ≤ 140737488355328 := by
    have : (n + m) * bytes ≤ 10000000 * 1000 := Nat.mul_le_mul hn hb
    omega
  have h63 : n + m ≤ maxLen := by unfold maxLen; omega
  obtain ⟨s', w', hr, ho', hg, hnil⟩ := run_append_own (P := P) w B t ty el i z sz bytes h.ht hi hz hs hbb hzs hp s n xs hown a m c news hl hnews h1 h63 hbytes hB
  refine ⟨s', w', hr, hk s' w' ho' ?_ hg.size ?_⟩
  · refine ⟨hg.os, hg.tape, hg.output, hg.size, fun k hkB => ?_⟩
    exact hg.block k (by omega) (fun e => by have := (hown.lt k e.symm).1; omega)
  · intro k hkl hne
    exact hg.block k hkl (fun e => hne e.symm)
/-- nothing, at the end of it -/
theorem app0 {P : Program} {t el sz bytes : Nat} (h : ST P t el sz bytes) {ty : TypeId} {w : World} {B : Nat} {s : Value} {n : Nat} {xs : List Value} {K : Value → World → Prop} (hown : w.ownsRow B el sz s n xs) (hk : K s w) :
    runW P (Builtin.append_ [t, t].toArray ty [s, .slice none 0 0].toArray) w K := by
  obtain ⟨i, z, hi, hz, hs, hbb, hzs⟩ := h.ex
  exact ⟨s, w, run_append_owned_none (P := P) w B t ty el i sz h.ht hi s n xs hown, hk⟩

theorem set_take {α : Type} (l : List α) (i n : Nat) (u : α) : (l.set i u).take n = (l.take n).set i u := by
  apply List.ext_getElem?
  intro k
  rw [List.getElem?_take, List.getElem?_set, List.getElem?_set, List.getElem?_take, List.length_take]
  by_cases hk : k < n
  · rw [if_pos hk]
    by_cases hi : i = k
    · subst hi
      rw [if_pos rfl, if_pos rfl]
      by_cases hl : i < l.length
      · rw [if_pos hl, if_pos (by omega)]
      · rw [if_neg hl, if_neg (by omega)]
    · rw [if_neg hi, if_neg hi, if_pos hk]
  · rw [if_neg hk]
    by_cases hi : i = k
    · subst hi; rw [if_pos rfl, if_neg (by omega)]
    · rw [if_neg hi, if_neg hk]

/-- a store into an element (of one cell) of a slice of the call's own -/
theorem own_set {P : Program} (t : Nat) {w : World} {B el n g m cap : Nat} {xs : List Value} (i : Nat) (u : Value) (h : w.ownsRow B el 1 (.slice (some ⟨g, 0, none⟩) m cap) n xs) (ht : szOf P t = 1) (hu : u.oneCell' = true) (hi : i < n) :
    ∃ w', (storeVar t ⟨g, i, none⟩ u).run P w = .ok () w' ∧ w'.ownsRow B el 1 (.slice (some ⟨g, 0, none⟩) m cap) n (xs.set i u) ∧ Bx g w w' ∧ w'.heap.size = w.heap.size := by
  obtain ⟨hlen, h2⟩ := h
  rcases h2 with ⟨h', _⟩ | ⟨g', cap', cur, h', hbg, hg, hnc, hcm, hcs, htake⟩
  · simp at h'
  · simp only [Value.slice.injEq, Option.some.injEq, Addr.mk.injEq, and_true, true_and] at h'
    obtain ⟨rfl, rfl, rfl⟩ := h'
    have hg' : w.heap[g]? = some (.cells cur.toList.toArray el (0, 0)) := by rw [Array.toArray_toList]; exact hg
    obtain ⟨w', hr, hb, hx, hsz⟩ := stp (P := P) t i u ht hu hg' (by rw [Array.length_toList, hcs]; omega)
    refine ⟨w', hr, ⟨by rw [List.length_set]; exact hlen, .inr ⟨g, cap, _, rfl, hbg, hb, hnc, hcm, ?_, ?_⟩⟩, hx, hsz⟩
    · simp [hcs]
    · rw [List.toList_toArray, set_take, htake]
end Go.Proofs.YtjgpnbchnenbeaaDoor
