/- Contracts for FnLines: a line is valid. -/
import Derived.Test.YtjgpnbchnenbeaaL1
namespace Go.Proofs.Ytjgpnbchnenbeaa
set_option linter.unusedSimpArgs false
set_option linter.unusedVariables false
open Go
open Go.RowKit (Below)

/-- a drawn line lies from a cell of a block onwards -/
structure LineAt (w : World) (b o : Nat) (ds : List (Nat × Nat)) : Prop where
  cells : ∀ k d, ds[k]? = some d → w.cell? ⟨b, o + k * 2, none⟩ = some (.float .f32 d.1) ∧ w.cell? ⟨b, o + k * 2 + 1, none⟩ = some (.float .f32 d.2)
  ge : 2 ≤ ds.length
  le : ds.length ≤ 5
  ok : ∀ d ∈ ds, DiscOK d
theorem LineAt.bl {w w' : World} {b o : Nat} {ds : List (Nat × Nat)} (h : LineAt w b o ds) (hb : Bl w w') : LineAt w' b o ds :=
  ⟨fun k d hk => ⟨hb.cell (h.cells k d hk).1, hb.cell (h.cells k d hk).2⟩, h.ge, h.le, h.ok⟩
theorem LineAt.lt {w : World} {b o : Nat} {ds : List (Nat × Nat)} (h : LineAt w b o ds) : b < w.heap.size := by
  have h0 := List.getElem?_eq_getElem (l := ds) (i := 0) (by have := h.ge; omega)
  exact World.block_lt_of_cell? w _ (h.cells 0 _ h0).1
theorem LineAt.of_own {w : World} {B : Nat} {v : Value} {ds : List (Nat × Nat)} {el : TypeId} (h : w.ownsRow B el 2 v ds.length (ds.flatMap dcells)) (h2 : 2 ≤ ds.length) (h5 : ds.length ≤ 5) (hok : ∀ d ∈ ds, DiscOK d) :
    ∃ b o cap, v = .slice (some ⟨b, o, none⟩) ds.length cap ∧ LineAt w b o ds := by
  obtain ⟨_, a, cap, rfl, hc⟩ := Rd.of_own h
  obtain ⟨b, o, rfl, hcell⟩ := hc (by omega)
  refine ⟨b, o, cap, rfl, fun k d hk => ⟨?_, ?_⟩, h2, h5, hok⟩
  · have := flat_get dcells_len ds k 0 d hk (by omega)
    exact hcell _ _ this
  · have := flat_get dcells_len ds k 1 d hk (by omega)
    exact hcell _ _ this
abbrev lineV (b o cap : Nat) (ds : List (Nat × Nat)) : Value := .slice (some ⟨b, o, none⟩) ds.length cap

def okB (lo hi : Nat) (x : Option Nat) : Bool := match x with | some r => fle .f32 lo r && fle .f32 r hi | none => false
def allOk (n : Nat) (ys : List Int) (lo hi : Nat) : Bool := (List.range n).all fun x => ys.all fun y => okB lo hi (FV .f32 .quo (fi (1 + (x : Int))) (fi y))
theorem allOk_1 : allOk 20 [1, 3, 4] 1015021568 1149239296 = true := by kernel_rfl
theorem allOk_2 : allOk 200 [1, 3, 8] 1015021568 1233125376 = true := by kernel_rfl
theorem allOk_spec {n : Nat} {ys : List Int} {lo hi : Nat} (h : allOk n ys lo hi = true) {x y : Int} (hx : 0 ≤ x) (hn : x < n) (hy : y ∈ ys) {r : Nat} (hr : cn .f32 r = FV .f32 .quo (fi (1 + x)) (fi y)) :
    fle .f32 lo r = true ∧ fle .f32 r hi = true := by
  unfold allOk at h
  rw [List.all_eq_true] at h
  have h1 := h x.toNat (List.mem_range.2 (by omega))
  rw [List.all_eq_true] at h1
  have h2 := h1 y hy
  rw [show ((x.toNat : Nat) : Int) = x by omega, ← hr] at h2
  rcases cn_cases r with ⟨h3, _⟩ | ⟨h3, _⟩
  · rw [h3] at h2; cases h2
  · rw [h3] at h2
    simpa [okB, Bool.and_eq_true] using h2
theorem DiscOK.fine {d : Nat × Nat} (h : DiscOK d) : (fle .f32 1015021568 d.1 = true ∧ fle .f32 d.1 1149239296 = true) ∧ fle .f32 1015021568 d.2 = true ∧ fle .f32 d.2 1233125376 = true := by
  obtain ⟨⟨x, y, h0, h1, hy, hr⟩, x', y', h0', h1', hy', hr'⟩ := h
  exact ⟨allOk_spec allOk_1 h0 h1 (by simpa using hy) hr, allOk_spec allOk_2 h0' h1' (by simpa using hy') hr'⟩

end Go.Proofs.Ytjgpnbchnenbeaa
