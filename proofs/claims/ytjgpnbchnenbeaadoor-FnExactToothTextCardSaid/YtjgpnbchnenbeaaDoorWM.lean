/- Memory: loads, stores, slices that are read, slices of the call's own that are appended to. -/
import Derived.Test.YtjgpnbchnenbeaaDoorWD
import Derived.Laws.CopyOwn
namespace Go.Proofs.YtjgpnbchnenbeaaDoor
set_option linter.unusedSimpArgs false
set_option linter.unusedVariables false
open Go
open Go.RowKit (Below)

/-! ### Worlds -/
theorem Bl.below {w w' : World} (h : Bl w w') {B : Nat} (hB : B ≤ w.heap.size) : Below B w w' := Below.mono h hB
theorem Bl.size {w w' : World} (h : Bl w w') : w.heap.size ≤ w'.heap.size := Below.size h
theorem Bl.of_drew {w w' : World} {n : Nat} (h : Bl w w') : Bl w (w'.drewN n) := h.trans (Bl.drewN _ _)
theorem Bl.drew {w w' : World} (h : Bl w w') : Bl w w'.drew := h.trans (Bl.drewN w' 1)
theorem Bl.and_alloc {w w' : World} (h : Bl w w') (o : Obj) : Bl w (w'.alloc o) := h.trans (Bl.alloc _ _)
theorem Bl.heap_lt {w w' : World} (h : Bl w w') {b : Nat} (hb : b < w.heap.size) : b < w'.heap.size := Nat.lt_of_lt_of_le hb h.size

theorem add_off (b o n : Nat) : (⟨b, o, none⟩ : Addr).add n = ⟨b, o + n, none⟩ := by unfold Addr.add; split <;> simp_all

/-! ### Loads -/
def one (P : Program) (t : TypeId) : Bool :=
  match P.underlying t with
  | some (.struct _) => false
  | some (.array _ _) => false
  | some _ => true
  | none => false
theorem isAgg_one {P : Program} {t : TypeId} (h : one P t = true) (w : World) : (isAgg t).run P w = .ok false w := by
  unfold one at h
  cases hu : P.underlying t with
  | none => rw [hu] at h; cases h
  | some d =>
    rw [hu] at h
    simp only [isAgg, Sem.run_bind, run_underlying hu, Result.andThen_ok]
    cases d <;> first | rfl | cases h
theorem ld1 {P : Program} {t : TypeId} {ad : Addr} {v : Value} {w : World} (h : one P t = true) (hc : w.cell? ad = some v) : (loadVar t ad).run P w = .ok v w := by
  simp only [loadVar, Sem.run_bind, isAgg_one h, Result.andThen_ok, Bool.false_eq_true, if_false, run_load, hc]
/-- a struct's or an array's cells -/
def aggN (P : Program) (t : TypeId) (n : Nat) : Bool :=
  (match P.underlying t with
  | some (.struct _) => true
  | some (.array _ _) => true
  | _ => false) && (P.info? t).any fun i => i.size == n
theorem ldn {P : Program} {t : TypeId} {ad : Addr} {cs : List Value} {w : World} (h : aggN P t cs.length = true) (hc : ∀ j u, cs[j]? = some u → w.cell? (ad.add j) = some u) :
    (loadVar t ad).run P w = .ok (.agg cs.toArray) w := by
  unfold aggN at h
  simp only [Bool.and_eq_true] at h
  have hagg : (isAgg t).run P w = .ok true w := by
    cases hu : P.underlying t with
    | none => rw [hu] at h; exact absurd h.1 (by simp)
    | some d =>
      rw [hu] at h
      simp only [isAgg, Sem.run_bind, run_underlying hu, Result.andThen_ok]
      cases d <;> first | rfl | exact absurd h.1 (by simp)
  cases hi : P.info? t with
  | none => rw [hi] at h; exact absurd h.2 (by simp)
  | some i =>
    rw [hi] at h
    have hs : i.size = cs.length := by simpa using h.2
    have hl := run_loadCells_list (P := P) w ad cs hc
    simp only [loadVar, Sem.run_bind, hagg, Result.andThen_ok, if_true, sizeOf, typeInfo, run_program, hi, Sem.run_pure, hs, hl]

theorem cell_blk {w : World} {b : Nat} {cs : Array Value} {t : TypeId} {fr : Nat × Nat} (h : w.heap[b]? = some (.cells cs t fr)) (o : Nat) : w.cell? ⟨b, o, none⟩ = cs[o]? := by
  simp [World.cell?, h]
/-- a load out of a block that is known -/
theorem ldb {P : Program} {t el b o : Nat} {cs : Array Value} {fr : Nat × Nat} {v : Value} {w : World} (h : one P t = true) (hb : w.heap[b]? = some (.cells cs el fr)) (hv : cs.toList[o]? = some v) : (loadVar t ⟨b, o, none⟩).run P w = .ok v w :=
  ld1 h (by rw [cell_blk hb]; simpa using hv)
/-- the same in every later world -/
theorem ldq {P : Program} {t el b o : Nat} {cs : Array Value} {fr : Nat × Nat} {v : Value} {w : World} (h : one P t = true) (hb : w.heap[b]? = some (.cells cs el fr)) (hv : cs.toList[o]? = some v) : ∀ w1, Bl w w1 → (loadVar t ⟨b, o, none⟩).run P w1 = .ok v w1 :=
  fun w1 hw => ld1 h (hw.cell (by rw [cell_blk hb]; simpa using hv))
theorem ldc {P : Program} {t : Nat} {ad : Addr} {v : Value} {w : World} (h : one P t = true) (hc : w.cell? ad = some v) : ∀ w1, Bl w w1 → (loadVar t ad).run P w1 = .ok v w1 :=
  fun w1 hw => ld1 h (hw.cell hc)

/-! ### Stores -/
theorem st1 {P : Program} {t : TypeId} {ad : Addr} {v old : Value} {w : World} (h : szOf P t = 1) (hv : v.oneCell' = true) (hc : w.cell? ad = some old) (hf : w.frozen? ad = false) :
    (storeVar t ad v).run P w = .ok () (w.setCell ad v) := by
  have hcells : v.cells = #[v] := by cases v <;> first | rfl | simp [Value.oneCell'] at hv
  unfold szOf at h
  cases hi : P.info? t with
  | none => rw [hi] at h; simp at h
  | some i =>
    rw [hi] at h
    have hs : i.size = 1 := by simpa using h
    simp only [storeVar, Sem.run_bind, sizeOf, typeInfo, run_program, Result.andThen_ok, hi, Sem.run_pure, hcells, hs, List.size_toArray, List.length_cons, List.length_nil, Nat.zero_add, ne_eq, not_true_eq_false, if_false, storeCells, Addr.add_zero', run_store P w ad v .plain hv, hc, hf, Bool.false_eq_true]

theorem frozen_blk {w : World} {b : Nat} {cs : Array Value} {t : TypeId} (h : w.heap[b]? = some (.cells cs t (0, 0))) (o : Nat) : w.frozen? ⟨b, o, none⟩ = false := by
  simp [World.frozen?, h]
theorem setCell_blk {w : World} {b : Nat} {cs : Array Value} {t : TypeId} {fr : Nat × Nat} (h : w.heap[b]? = some (.cells cs t fr)) (o : Nat) (v : Value) :
    (w.setCell ⟨b, o, none⟩ v).heap[b]? = some (.cells (cs.setIfInBounds o v) t fr) := by
  simp [World.setCell, Array.getElem?_modify, h]
theorem setCell_other (w : World) (b o k : Nat) (v : Value) (hk : k ≠ b) : (w.setCell ⟨b, o, none⟩ v).heap[k]? = w.heap[k]? :=
  RowKit.Below.heap_setCell w ⟨b, o, none⟩ v k hk
theorem stb {P : Program} {t el b o : Nat} {cs : Array Value} {v : Value} {w : World} (h : szOf P t = 1) (hv : v.oneCell' = true) (hb : w.heap[b]? = some (.cells cs el (0, 0))) (ho : o < cs.size) :
    (storeVar t ⟨b, o, none⟩ v).run P w = .ok () (w.setCell ⟨b, o, none⟩ v) :=
  st1 h hv (old := cs[o]) (by rw [cell_blk hb]; exact Array.getElem?_eq_getElem ho) (frozen_blk hb o)
theorem setCell_size (w : World) (a : Addr) (v : Value) : (w.setCell a v).heap.size = w.heap.size := by simp [World.setCell]
theorem alloc_new (w : World) (o : Obj) : (w.alloc o).heap[w.heap.size]? = some o := heap_alloc_new w o
theorem alloc_old (w : World) (o : Obj) {k : Nat} (h : k < w.heap.size) : (w.alloc o).heap[k]? = w.heap[k]? := RowKit.Below.heap_alloc w o k h
theorem alloc_size (w : World) (o : Obj) : (w.alloc o).heap.size = w.heap.size + 1 := Array.size_push ..
/-- all but one old block stays -/
structure Bx (b : Nat) (w w' : World) : Prop where
  os : w'.os = w.os
  tape : w'.tape = w.tape
  output : w'.output = w.output
  size : w.heap.size ≤ w'.heap.size
  block : ∀ k, k < w.heap.size → k ≠ b → w'.heap[k]? = w.heap[k]?
theorem Bx.refl (b : Nat) (w : World) : Bx b w w := ⟨rfl, rfl, rfl, Nat.le_refl _, fun _ _ _ => rfl⟩
theorem Bx.trans {b : Nat} {x y z : World} (h : Bx b x y) (k : Bx b y z) : Bx b x z :=
  ⟨k.os.trans h.os, k.tape.trans h.tape, k.output.trans h.output, Nat.le_trans h.size k.size, fun i hi hn => (k.block i (Nat.lt_of_lt_of_le hi h.size) hn).trans (h.block i hi hn)⟩
theorem Bx.of_bl {b : Nat} {w w' : World} (h : Bl w w') : Bx b w w' := ⟨h.os, h.tape, h.output, h.size, fun k hk _ => RowKit.Below.block h k hk⟩
theorem Bx.setCell (b o : Nat) (v : Value) (w : World) : Bx b w (w.setCell ⟨b, o, none⟩ v) :=
  ⟨rfl, rfl, rfl, by rw [setCell_size]; exact Nat.le_refl _, fun k _ hn => setCell_other w b o k v hn⟩
/-- the one block is new: then all old ones stay -/
theorem Bl.of_bx {b : Nat} {x y z : World} (h : Bl x y) (k : Bx b y z) (hb : x.heap.size ≤ b) : Bl x z :=
  ⟨k.os.trans h.os, k.tape.trans h.tape, k.output.trans h.output, Nat.le_trans h.size k.size, fun i hi => (k.block i (Nat.lt_of_lt_of_le hi h.size) (by omega)).trans (RowKit.Below.block h i hi)⟩
theorem Bx.cell {b : Nat} {w w' : World} (h : Bx b w w') {a : Addr} {v : Value} (hc : w.cell? a = some v) (hn : a.block ≠ b) : w'.cell? a = some v := by
  have hb : a.block < w.heap.size := World.block_lt_of_cell? w a hc
  have := h.block a.block hb hn
  simp only [World.cell?, this] at hc ⊢; exact hc
theorem Bx.blk {b k : Nat} {w w' : World} {o : Obj} (h : Bx b w w') (hc : w.heap[k]? = some o) (hn : k ≠ b) : w'.heap[k]? = some o := by
  rw [h.block k (Array.getElem?_eq_some_iff.1 hc).1 hn]; exact hc

/-- a store into a known block -/
theorem stp {P : Program} (t : Nat) {el b : Nat} (o : Nat) {l : List Value} (v : Value) {w : World} (h : szOf P t = 1) (hv : v.oneCell' = true) (hb : w.heap[b]? = some (.cells l.toArray el (0, 0))) (ho : o < l.length) :
    ∃ w', (storeVar t ⟨b, o, none⟩ v).run P w = .ok () w' ∧ w'.heap[b]? = some (.cells (l.set o v).toArray el (0, 0)) ∧ Bx b w w' ∧ w'.heap.size = w.heap.size := by
  refine ⟨_, stb h hv hb (by simpa using ho), ?_, Bx.setCell b o v w, setCell_size _ _ _⟩
  have := setCell_blk hb o v
  simpa using this

theorem setRow_bx (w : World) (b : Nat) (cs : Array Value) : Bx b w (w.setRow b cs) :=
  ⟨rfl, rfl, rfl, by simp, fun k _ hn => setRow_other w b k cs hn⟩
/-- a store of several cells into a known block -/
theorem stn {P : Program} (t : Nat) {el b : Nat} (o : Nat) {l vs : List Value} {w : World} (h : szOf P t = vs.length) (h0 : 0 < vs.length) (hv : ∀ v ∈ vs, v.oneCell' = true) (hb : w.heap[b]? = some (.cells l.toArray el (0, 0))) (ho : o + vs.length ≤ l.length) :
    ∃ w', (storeVar t ⟨b, o, none⟩ (.agg vs.toArray)).run P w = .ok () w' ∧ w'.heap[b]? = some (.cells (l.take o ++ vs ++ l.drop (o + vs.length)).toArray el (0, 0)) ∧ Bx b w w' ∧ w'.heap.size = w.heap.size := by
  have hr := run_storeCells_at P b o el vs 0 l.toArray w hb (by simpa using ho) hv
  refine ⟨_, ?_, setRow_heap w b _ _ el _ hb, setRow_bx w b _, by simp⟩
  unfold szOf at h
  cases hi : P.info? t with
  | none =>
    rw [hi] at h
    simp at h
    omega
  | some i =>
    rw [hi] at h
    have hs : i.size = vs.length := by simpa using h
    simp only [storeVar, Sem.run_bind, sizeOf, typeInfo, run_program, Result.andThen_ok, hi, Sem.run_pure, Value.cells, hs, List.size_toArray, ne_eq, not_true_eq_false, if_false]
    simpa using hr
theorem own_bx {w w' : World} {B b el sz n : Nat} {v : Value} {xs : List Value} (h : w.ownsRow B el sz v n xs) (hx : Bx b w w') (hb : b < B) : w'.ownsRow B el sz v n xs := by
  obtain ⟨h1, h2⟩ := h
  refine ⟨h1, ?_⟩
  rcases h2 with hn | ⟨g, cap, cur, rfl, hbg, hg, rest⟩
  · exact .inl hn
  · exact .inr ⟨g, cap, cur, rfl, hbg, by rw [hx.block g (Array.getElem?_eq_some_iff.1 hg).1 (by omega)]; exact hg, rest⟩

theorem Bx.new {b g : Nat} {w x y : World} (h : Bx b w x) (k : Bx g x y) (hg : w.heap.size ≤ g) : Bx b w y :=
  ⟨k.os.trans h.os, k.tape.trans h.tape, k.output.trans h.output, Nat.le_trans h.size k.size, fun i hi hn => (k.block i (Nat.lt_of_lt_of_le hi h.size) (by omega)).trans (h.block i hi hn)⟩
theorem Bx.bl {b : Nat} {w x y : World} (h : Bx b w x) (k : Bl x y) : Bx b w y := h.trans (Bx.of_bl k)
theorem Bx.below {b : Nat} {w x y : World} (h : Bx b w x) (k : Below w.heap.size x y) : Bx b w y :=
  ⟨k.os.trans h.os, k.tape.trans h.tape, k.output.trans h.output, Nat.le_trans h.size k.size, fun i hi hn => (k.block i hi).trans (h.block i hi hn)⟩
theorem Bl.new {g : Nat} {w x y : World} (h : Bl w x) (k : Bx g x y) (hg : w.heap.size ≤ g) : Bl w y := Bl.of_bx h k hg
theorem Bl.below' {w x y : World} (h : Bl w x) (k : Below w.heap.size x y) : Bl w y :=
  ⟨k.os.trans h.os, k.tape.trans h.tape, k.output.trans h.output, Nat.le_trans h.size k.size, fun i hi => (Below.block k i hi).trans (Below.block h i hi)⟩

/-! ### Slices that are read -/
/-- v is a slice of n elements, of sz cells each, that reads as xs -/
def Rd (w : World) (v : Value) (n sz : Nat) (xs : List Value) : Prop :=
  xs.length = n * sz ∧ ∃ a cap, v = .slice a n cap ∧ (0 < n → ∃ b o, a = some ⟨b, o, none⟩ ∧ ∀ j u, xs[j]? = some u → w.cell? ⟨b, o + j, none⟩ = some u)
theorem Rd.mono {w w' : World} (h : ∀ a v, w.cell? a = some v → w'.cell? a = some v) {v : Value} {n sz : Nat} {xs : List Value} (hr : Rd w v n sz xs) : Rd w' v n sz xs := by
  obtain ⟨hl, a, cap, rfl, hc⟩ := hr
  refine ⟨hl, a, cap, rfl, fun hn => ?_⟩
  obtain ⟨b, o, rfl, hcell⟩ := hc hn
  exact ⟨b, o, rfl, fun j u hu => h _ _ (hcell j u hu)⟩
theorem Rd.bl {w w' : World} (h : Bl w w') {v : Value} {n sz : Nat} {xs : List Value} (hr : Rd w v n sz xs) : Rd w' v n sz xs := hr.mono fun _ _ hc => h.cell hc
theorem Rd.of_own {w : World} {B el sz n : Nat} {v : Value} {xs : List Value} (h : w.ownsRow B el sz v n xs) : Rd w v n sz xs := by
  refine ⟨h.1, ?_⟩
  rcases h.2 with ⟨rfl, rfl⟩ | ⟨g, cap, cur, rfl, hB, hg, hnc, hcm, hcs, htake⟩
  · exact ⟨none, 0, rfl, fun h0 => absurd h0 (Nat.lt_irrefl 0)⟩
  · refine ⟨_, cap, rfl, fun _ => ⟨g, 0, rfl, fun j u hu => ?_⟩⟩
    have := h.cells (g := g) rfl j u hu
    rw [add_off] at this
    exact this

theorem flat_len {α : Type} {f : α → List Value} {sz : Nat} (hf : ∀ d, (f d).length = sz) : ∀ (ds : List α), (ds.flatMap f).length = ds.length * sz
  | [] => by simp
  | d :: ds => by rw [List.flatMap_cons, List.length_append, hf, flat_len hf ds, List.length_cons, Nat.succ_mul, Nat.add_comm]
theorem flat_get {α : Type} {f : α → List Value} {sz : Nat} (hf : ∀ d, (f d).length = sz) : ∀ (ds : List α) (k r : Nat) (d : α), ds[k]? = some d → r < sz → (ds.flatMap f)[k * sz + r]? = (f d)[r]?
  | [], k, r, d, h, _ => by simp at h
  | x :: ds, 0, r, d, h, hr => by
    simp only [List.getElem?_cons_zero, Option.some.injEq] at h
    subst h
    rw [List.flatMap_cons, Nat.zero_mul, Nat.zero_add, List.getElem?_append_left (by rw [hf]; exact hr)]
  | x :: ds, k + 1, r, d, h, hr => by
    simp only [List.getElem?_cons_succ] at h
    have ih := flat_get hf ds k r d h hr
    rw [List.flatMap_cons, List.getElem?_append_right (by rw [hf, Nat.succ_mul]; omega), hf, ← ih]
    congr 1; rw [Nat.succ_mul]; omega

/-! ### Slices of the call's own -/
structure ST (P : Program) (t el sz bytes : Nat) : Prop where
  ht : P.underlying t = some (.slice el)
  ex : ∃ i z, P.info? el = some i ∧ i.zero = some z ∧ i.size = sz ∧ i.bytes = bytes ∧ z.cells.size = sz
  pos : 0 < sz
theorem st_mk {P : Program} {t el sz bytes : Nat} (ht : P.underlying t = some (.slice el)) (h : (P.info? el).map (fun i => (i.zero.map (·.cells.size), i.size, i.bytes)) = some (some sz, sz, bytes)) (hp : 0 < sz) : ST P t el sz bytes := by
  refine ⟨ht, ?_, hp⟩
  cases hi : P.info? el with
  | none => rw [hi] at h; cases h
  | some i =>
    rw [hi] at h
    simp only [Option.map_some, Option.some.injEq, Prod.mk.injEq, Option.map_eq_some_iff] at h
    obtain ⟨⟨z, hz, hzs⟩, hs, hb⟩ := h
    exact ⟨i, z, rfl, hz, hs, hb, hzs⟩

/-- an empty slice written out -/
theorem bs0 {P : Program} {t el sz bytes : Nat} (h : ST P t el sz bytes) (w : World) :
    (Instr.buildSlice t 0 ([] : List (Nat × Value)).toArray).run P w = .ok (.slice (some ⟨w.heap.size, 0, none⟩) 0 0) (w.alloc (.cells #[] el)) := by
  obtain ⟨i, z, hi, hz, hs, hb, hzs⟩ := h.ex
  simp only [Instr.buildSlice, Sem.run_bind, run_underlying h.ht, Result.andThen_ok, sizeOf, typeInfo, run_program, hi, Sem.run_pure, Nat.zero_mul, if_true, if_neg (show ¬ 0 > 2 ^ 24 by omega), pure_bind, Instr.fill, newRow, run_newObj, show Array.range 0 = #[] from by simp, Array.map_empty]
  rfl
theorem own0 (w : World) (B el sz : Nat) (hB : B ≤ w.heap.size) : (w.alloc (.cells #[] el)).ownsRow B el sz (.slice (some ⟨w.heap.size, 0, none⟩) 0 0) 0 [] :=
  World.ownsRow_made w #[] 0 hB (Nat.zero_le _) (by simp)

theorem arr1 {a : Array Value} (h : a.size = 1) : ∃ x, a = #[x] := by
  obtain ⟨l⟩ := a; match l, h with | [x], _ => exact ⟨x, rfl⟩
theorem arr2 {a : Array Value} (h : a.size = 2) : ∃ x y, a = #[x, y] := by
  obtain ⟨l⟩ := a; match l, h with | [x, y], _ => exact ⟨x, y, rfl⟩
theorem arr3 {a : Array Value} (h : a.size = 3) : ∃ x y z, a = #[x, y, z] := by
  obtain ⟨l⟩ := a; match l, h with | [x, y, z], _ => exact ⟨x, y, z, rfl⟩
theorem arr4 {a : Array Value} (h : a.size = 4) : ∃ x y z u, a = #[x, y, z, u] := by
  obtain ⟨l⟩ := a; match l, h with | [x, y, z, u], _ => exact ⟨x, y, z, u, rfl⟩
theorem fill_all (sz : Nat) (cells : Array Value) (v : Value) (hv : v.cells.size = sz) (hc : cells.size = sz) (hsm : 1 ≤ sz ∧ sz ≤ 4) :
    Instr.fill (fun i => some (i * sz, sz)) cells [(0, v)] = some v.cells := by
  have hs : sz = 1 ∨ sz = 2 ∨ sz = 3 ∨ sz = 4 := by omega
  rcases hs with rfl | rfl | rfl | rfl
  · obtain ⟨a, ha⟩ := arr1 hv
    obtain ⟨b, rfl⟩ := arr1 hc
    simp [Instr.fill, ha]
  · obtain ⟨a, a2, ha⟩ := arr2 hv
    obtain ⟨b, b2, rfl⟩ := arr2 hc
    simp [Instr.fill, ha]
  · obtain ⟨a, a2, a3, ha⟩ := arr3 hv
    obtain ⟨b, b2, b3, rfl⟩ := arr3 hc
    simp [Instr.fill, ha]
  · obtain ⟨a, a2, a3, a4, ha⟩ := arr4 hv
    obtain ⟨b, b2, b3, b4, rfl⟩ := arr4 hc
    simp [Instr.fill, ha]

/-- one element written out -/
theorem bs1 {P : Program} {t el sz bytes : Nat} (h : ST P t el sz bytes) (w : World) (v : Value) (hv : v.cells.size = sz) (hsm : sz ≤ 4) :
    (Instr.buildSlice t 1 [(0, v)].toArray).run P w = .ok (.slice (some ⟨w.heap.size, 0, none⟩) 1 1) (w.alloc (.cells v.cells el)) := by
  obtain ⟨i, z, hi, hz, hs, hb, hzs⟩ := h.ex
  have hp := h.pos
  have h1 : ¬ sz > 2 ^ 24 := by omega
  have h2 : ¬ sz = 0 := by omega
  have hf := fill_all sz ((Array.range sz).map (z.cells[· % z.cells.size]!)) v hv (by simp) ⟨hp, hsm⟩
  simp only [Instr.buildSlice, Sem.run_bind, run_underlying h.ht, Result.andThen_ok, sizeOf, typeInfo, run_program, hi, Sem.run_pure, Nat.one_mul, hs, if_neg h1, if_neg h2, zeroValue, hz, pure_bind, hf, newRow, run_newObj]
  rfl

/-- one more element at the end of a slice of the call's own -/
theorem app1 {P : Program} {t el sz bytes : Nat} (h : ST P t el sz bytes) {ty : TypeId} {w : World} {B : Nat} {s : Value} {n : Nat} {xs : List Value} {v : Value} {K : Value → World → Prop}
    (hown : w.ownsRow B el sz s n xs) (hB : B ≤ w.heap.size) (hv : v.cells.size = sz) (h1 : ∀ u ∈ v.cells.toList, u.oneCell' = true) (hn : n + 1 ≤ 10000000) (hb : bytes ≤ 1000)
    (hk : ∀ s' w', w'.ownsRow B el sz s' (n + 1) (xs ++ v.cells.toList) → Below B w w' → w.heap.size ≤ w'.heap.size →
      (∀ k, k < w.heap.size → s.ownBlock ≠ some k → w'.heap[k]? = w.heap[k]?) → (s'.ownBlock = s.ownBlock ∨ ∀ k, s'.ownBlock = some k → w.heap.size ≤ k) → K s' w') :
    runW P (Builtin.append_ [t, t].toArray ty [s, .slice (some ⟨w.heap.size, 0, none⟩) 1 1].toArray) (w.alloc (.cells v.cells el)) K := by
  obtain ⟨i, z, hi, hz, hs, hbb, hzs⟩ := h.ex
  have hp := h.pos
  have hown' := hown.alloc (.cells v.cells el)
  have hnews : ∀ j u, v.cells.toList[j]? = some u → (w.alloc (.cells v.cells el)).cell? ((⟨w.heap.size, 0, none⟩ : Addr).add j) = some u := by
    intro j u hu
    rw [add_off, cell_blk (alloc_new w _), Nat.zero_add]
    simpa using hu
  have hlen : v.cells.toList.length = 1 * sz := by simp [hv]
  have hbytes : (n + 1) * bytes ≤ 140737488355328 := by
    have : (n + 1) * bytes ≤ 10000000 * 1000 := Nat.mul_le_mul hn hb
    omega
  have h63 : n + 1 ≤ maxLen := by unfold maxLen; omega
  have hBa : B ≤ (w.alloc (.cells v.cells el)).heap.size := by rw [alloc_size]; omega
  obtain ⟨s', w', hr, ho', hg, hnil⟩ := run_append_own (P := P) (w.alloc (.cells v.cells el)) B t ty el i z sz bytes h.ht hi hz hs hbb hzs hp s n xs hown' ⟨w.heap.size, 0, none⟩ 1 1 v.cells.toList hlen hnews h1 h63 hbytes hBa
  refine ⟨s', w', hr, hk s' w' ho' ?_ ?_ ?_ ?_⟩
  · refine ⟨hg.os, hg.tape, hg.output, ?_, fun k hkB => ?_⟩
    · have := hg.size; rw [alloc_size] at this; omega
    · rw [hg.block k (by rw [alloc_size]; omega) (fun e => by have := (hown.lt k e.symm).1; omega), alloc_old _ _ (by omega)]
  · have := hg.size; rw [alloc_size] at this; omega
  · intro k hkl hne
    rw [hg.block k (by rw [alloc_size]; omega) (fun e => hne e.symm), alloc_old _ _ hkl]
  · -- where the new slice lies
    have hmm : n + 1 ≤ 9223372036854775807 := by omega
    rcases hown'.2 with ⟨rfl, rfl⟩ | ⟨g, cap, cur, rfl, hbg, hgg, hnc, hcm, hcs, htake⟩
    · have hx : xs = [] := List.eq_nil_of_length_eq_zero (by simpa using hown.1)
      have hr2 := run_append_nil (P := P) (w.alloc (.cells v.cells el)) t ty el i z h.ht hi hz ⟨w.heap.size, 0, none⟩ 1 1 v.cells.toList (by rw [hs]; exact hlen) hnews (by omega) (by omega) (by rw [hbb]; omega)
      have := hr.symm.trans hr2
      simp only [Result.ok.injEq] at this
      rw [this.1]
      right
      intro k hk
      simp only [Value.ownBlock, Option.some.injEq, alloc_size] at hk
      omega
    · by_cases hroom : n + 1 ≤ cap
      · have hfit : n * i.size + v.cells.toList.length ≤ cur.size := by rw [hlen, hs, hcs, ← Nat.add_mul]; exact Nat.mul_le_mul_right _ hroom
        have hr2 := run_append_room (P := P) (w.alloc (.cells v.cells el)) t ty el i h.ht hi g n cap cur hgg ⟨w.heap.size, 0, none⟩ 1 1 v.cells.toList (by rw [hs]; exact hlen) hnews h1 hroom hfit
        have := hr.symm.trans hr2
        simp only [Result.ok.injEq] at this
        rw [this.1]
        left; rfl
      · have holds : ∀ j u, xs[j]? = some u → (w.alloc (.cells v.cells el)).cell? ((⟨g, 0, none⟩ : Addr).add j) = some u := hown'.cells (g := g) rfl
        have hr2 := run_append_grow (P := P) (w.alloc (.cells v.cells el)) t ty el i z h.ht hi hz ⟨g, 0, none⟩ n cap xs (by rw [hs]; exact hown.1) holds ⟨w.heap.size, 0, none⟩ 1 1 v.cells.toList (by rw [hs]; exact hlen) hnews (by omega) (by omega)
          (growslice_fits (by omega) (by rw [hbb]; exact hbytes))
        have := hr.symm.trans hr2
        simp only [Result.ok.injEq] at this
        rw [this.1]
        right
        intro k hk
        simp only [Value.ownBlock, Option.some.injEq, alloc_size] at hk
        omega

/-- an own row stays where its block stays -/
theorem own_keep {w w' : World} {B el sz n : Nat} {v : Value} {xs : List Value} (h : w.ownsRow B el sz v n xs) (hk : ∀ k, v.ownBlock = some k → w'.heap[k]? = w.heap[k]?) : w'.ownsRow B el sz v n xs := by
  refine ⟨h.1, ?_⟩
  rcases h.2 with hn | ⟨g, cap, cur, rfl, hb, hg, rest⟩
  · exact .inl hn
  · exact .inr ⟨g, cap, cur, rfl, hb, by rw [hk g rfl]; exact hg, rest⟩
theorem own_bl {w w' : World} {B el sz n : Nat} {v : Value} {xs : List Value} (h : w.ownsRow B el sz v n xs) (hb : Bl w w') : w'.ownsRow B el sz v n xs :=
  own_keep h fun k hk => RowKit.Below.block hb k (h.lt k hk).2
theorem own_base {w : World} {B B' el sz n : Nat} {v : Value} {xs : List Value} (h : w.ownsRow B el sz v n xs) (hB : B' ≤ B) : w.ownsRow B' el sz v n xs := by
  refine ⟨h.1, ?_⟩
  rcases h.2 with hn | ⟨g, cap, cur, rfl, hb, rest⟩
  · exact .inl hn
  · exact .inr ⟨g, cap, cur, rfl, Nat.le_trans hB hb, rest⟩
/-- its value, written out -/
theorem own_form {w : World} {B el sz n : Nat} {v : Value} {xs : List Value} (h : w.ownsRow B el sz v n xs) : ∃ a cap, v = .slice a n cap := by
  rcases h.2 with ⟨rfl, rfl⟩ | ⟨g, cap, cur, rfl, _⟩
  · exact ⟨_, _, rfl⟩
  · exact ⟨_, _, rfl⟩
end Go.Proofs.YtjgpnbchnenbeaaDoor
