/- Teeth: the reference's; texts. -/
import Derived.Test.YtjgpnbchnenbeaaDoorY2
namespace Go.Proofs.YtjgpnbchnenbeaaDoor
set_option linter.unusedSimpArgs false
set_option linter.unusedVariables false
open Go
open Go.RowKit (Below)

theorem bs_add (s t : ByteArray) : bs (s ++ t) = bs s ++ bs t := by
  show (s ++ t).data.toList = _
  rw [ByteArray.data_append, Array.toList_append]
set_option maxRecDepth 100000 in
theorem l06Ok_ct (w : World) (h a b : Nat) (s : Int) (hs : -128 ≤ s ∧ s ≤ 127) : Ct Tryd.prog 72 #[thV h a b s] w (Is (.bool (okT h a b s)) w) := by
  (refine fn_of_W Tryd.func72 rfl (by kernel_rfl) (by kernel_rfl) (Nat.le_of_ble_eq_true (by kernel_rfl)) ?_; (try simp only [RS, RF, cond_true, cond_false, List.nil_append, List.cons_append, List.toList_toArray, Option.isSome_some, Option.map_some, Option.map_none, Nat.reduceBEq, isShift, kEq, fEq, binInt, binFloat, shiftInt, binStr, Tryd.f72]))
  have hb := alloc_new w (.cells [fl h, fl a, fl b, .int .i8 s].toArray 39)
  have hw0 : Bl w (w.alloc (.cells [fl h, fl a, fl b, .int .i8 s].toArray 39)) := Bl.alloc w _
  have e0 : (w.alloc (.cells #[fl h, fl a, fl b, .int .i8 s] 39)) = (w.alloc (.cells [fl h, fl a, fl b, .int .i8 s].toArray 39)) := rfl
  rw [e0]
  generalize w.alloc (.cells [fl h, fl a, fl b, .int .i8 s].toArray 39) = w0 at *
  refine ⟨_, ldb (by kernel_rfl) hb rfl, ?_⟩
  (try simp only [RS, RF, cond_true, cond_false, List.nil_append, List.cons_append, List.toList_toArray, Option.isSome_some, Option.map_some, Option.map_none, Nat.reduceBEq, isShift, kEq, fEq, binInt, binFloat, shiftInt, binStr])
  have hh : hardB h = (fge .f32 h 1065353216 && fle .f32 h 1199570944) := by rw [fge_swap]; rfl
  unfold okT
  rw [hh]
  intro b1 hb1
  rw [← hb1]
  cases b1
  · (try simp only [RS, RF, cond_true, cond_false, List.nil_append, List.cons_append, List.toList_toArray, Option.isSome_some, Option.map_some, Option.map_none, Nat.reduceBEq, isShift, kEq, fEq, binInt, binFloat, shiftInt, binStr])
    exact ⟨rfl, hw0⟩
  (try simp only [RS, RF, cond_true, cond_false, List.nil_append, List.cons_append, List.toList_toArray, Option.isSome_some, Option.map_some, Option.map_none, Nat.reduceBEq, isShift, kEq, fEq, binInt, binFloat, shiftInt, binStr])
  refine ⟨_, ldb (by kernel_rfl) hb rfl, ?_⟩
  (try simp only [RS, RF, cond_true, cond_false, List.nil_append, List.cons_append, List.toList_toArray, Option.isSome_some, Option.map_some, Option.map_none, Nat.reduceBEq, isShift, kEq, fEq, binInt, binFloat, shiftInt, binStr])
  intro b2 hb2
  rw [← hb2]
  cases b2
  · (try simp only [RS, RF, cond_true, cond_false, List.nil_append, List.cons_append, List.toList_toArray, Option.isSome_some, Option.map_some, Option.map_none, Nat.reduceBEq, isShift, kEq, fEq, binInt, binFloat, shiftInt, binStr])
    exact ⟨rfl, hw0⟩
  (try simp only [RS, RF, cond_true, cond_false, List.nil_append, List.cons_append, List.toList_toArray, Option.isSome_some, Option.map_some, Option.map_none, Nat.reduceBEq, isShift, kEq, fEq, binInt, binFloat, shiftInt, binStr])
  refine ⟨by simp, _, ldb (by kernel_rfl) hb rfl, ?_⟩
  (try simp only [RS, RF, cond_true, cond_false, List.nil_append, List.cons_append, List.toList_toArray, Option.isSome_some, Option.map_some, Option.map_none, Nat.reduceBEq, isShift, kEq, fEq, binInt, binFloat, shiftInt, binStr])
  (refine (l01Part_ct w0 a).mono ?_; rintro _ w2 ⟨rfl, hw2⟩)
  have hB2 := hw0.trans hw2
  cases partB a
  · (try simp only [RS, RF, cond_true, cond_false, List.nil_append, List.cons_append, List.toList_toArray, Option.isSome_some, Option.map_some, Option.map_none, Nat.reduceBEq, isShift, kEq, fEq, binInt, binFloat, shiftInt, binStr])
    exact ⟨rfl, hB2⟩
  (try simp only [RS, RF, cond_true, cond_false, List.nil_append, List.cons_append, List.toList_toArray, Option.isSome_some, Option.map_some, Option.map_none, Nat.reduceBEq, isShift, kEq, fEq, binInt, binFloat, shiftInt, binStr])
  refine ⟨by simp, _, ldb (by kernel_rfl) (hw2.block hb) rfl, ?_⟩
  (try simp only [RS, RF, cond_true, cond_false, List.nil_append, List.cons_append, List.toList_toArray, Option.isSome_some, Option.map_some, Option.map_none, Nat.reduceBEq, isShift, kEq, fEq, binInt, binFloat, shiftInt, binStr])
  (refine (l01Part_ct w2 b).mono ?_; rintro _ w3 ⟨rfl, hw3⟩)
  have hB3 := hB2.trans hw3
  cases partB b
  · (try simp only [RS, RF, cond_true, cond_false, List.nil_append, List.cons_append, List.toList_toArray, Option.isSome_some, Option.map_some, Option.map_none, Nat.reduceBEq, isShift, kEq, fEq, binInt, binFloat, shiftInt, binStr])
    exact ⟨rfl, hB3⟩
  (try simp only [RS, RF, cond_true, cond_false, List.nil_append, List.cons_append, List.toList_toArray, Option.isSome_some, Option.map_some, Option.map_none, Nat.reduceBEq, isShift, kEq, fEq, binInt, binFloat, shiftInt, binStr])
  refine ⟨_, ldb (by kernel_rfl) ((hw2.trans hw3).block hb) rfl, ?_⟩
  (try simp only [RS, RF, cond_true, cond_false, List.nil_append, List.cons_append, List.toList_toArray, Option.isSome_some, Option.map_some, Option.map_none, Nat.reduceBEq, isShift, kEq, fEq, binInt, binFloat, shiftInt, binStr])
  rw [IntWalk.i64_in s (by omega)]
  (refine (in_ct w3 s 0 1).mono ?_; rintro _ w4 ⟨rfl, hw4⟩)
  (try simp only [RS, RF, cond_true, cond_false, List.nil_append, List.cons_append, List.toList_toArray, Option.isSome_some, Option.map_some, Option.map_none, Nat.reduceBEq, isShift, kEq, fEq, binInt, binFloat, shiftInt, binStr])
  exact ⟨rfl, hB3.trans hw4⟩

def comma : ByteArray := { data := #[44] }
/-- a tooth's text -/
def thS (h a b : Nat) (s : Int) : ByteArray := txt h ++ comma ++ txt a ++ comma ++ txt b ++ comma ++ dcs s.toNat
def CRt (_ : FuncId) (args : List Value) (u : Value) : Prop := match args with
  | [.float _ x] => u = str (txt x)
  | [.int _ n] => u = str (dcs n.toNat)
  | _ => False
theorem txt_size (a : Nat) : (txt a).size = 8 := by
  have h : (bs (txt a)).length = 8 := by rw [show bs (txt a) = hexs 8 (canon a) from bs_mk _, hexs_len]
  rw [← h, bs_len]
set_option maxRecDepth 100000 in
theorem l06Text_ct (w : World) (h a b : Nat) (s : Int) (hs : 0 ≤ s ∧ s ≤ 1) (h1 : h < 4294967296) (h2 : a < 4294967296) (h3 : b < 4294967296) : Ct Tryd.prog 73 #[thV h a b s] w (Is (str (thS h a b s)) w) := by
  (refine fn_of_W Tryd.func73 rfl (by kernel_rfl) (by kernel_rfl) (Nat.le_of_ble_eq_true (by kernel_rfl)) ?_; (try simp only [RS, RF, cond_true, cond_false, List.nil_append, List.cons_append, List.toList_toArray, Option.isSome_some, Option.map_some, Option.map_none, Nat.reduceBEq, isShift, kEq, fEq, binInt, binFloat, shiftInt, binStr, Tryd.f73]))
  have hb := alloc_new w (.cells [fl h, fl a, fl b, .int .i8 s].toArray 39)
  have hw0 : Bl w (w.alloc (.cells [fl h, fl a, fl b, .int .i8 s].toArray 39)) := Bl.alloc w _
  have e0 : (w.alloc (.cells #[fl h, fl a, fl b, .int .i8 s] 39)) = (w.alloc (.cells [fl h, fl a, fl b, .int .i8 s].toArray 39)) := rfl
  rw [e0]
  generalize w.alloc (.cells [fl h, fl a, fl b, .int .i8 s].toArray 39) = w0 at *
  have t1 := txt_size h
  have t2 := txt_size a
  have t3 := txt_size b
  have tc : comma.size = 1 := rfl
  have t4 : (dcs s.toNat).size ≤ s.toNat + 1 := dec_len s.toNat
  have hex : ∀ x, x < 4294967296 → ∀ w1, Bl w0 w1 → Ct Tryd.prog 124 #[fl x] w1 fun u w' => u = str (txt x) ∧ Bl w0 w' := fun x hx w1 hw1 => (l01Hex_ct w1 x hx).mono fun v w' hv => ⟨hv.1, hw1.trans hv.2⟩
  have sz : ∀ x y : ByteArray, (x ++ y).size = x.size + y.size := fun x y => ByteArray.size_append
  have tc' : (ByteArray.mk #[44]).size = 1 := rfl
  refine draw_rule 20 CRt mixed (by kernel_rfl) ?_
  (try simp only [RS, RF, cond_true, cond_false, List.nil_append, List.cons_append, List.toList_toArray, Option.isSome_some, Option.map_some, Option.map_none, Nat.reduceBEq, isShift, kEq, fEq, binInt, binFloat, shiftInt, binStr])
  refine ⟨_, ldq (by kernel_rfl) hb rfl, hex h h1, ?_⟩
  intro u hu
  obtain rfl : u = str (txt h) := hu
  (try simp only [RS, RF, cond_true, cond_false, List.nil_append, List.cons_append, List.toList_toArray, Option.isSome_some, Option.map_some, Option.map_none, Nat.reduceBEq, isShift, kEq, fEq, binInt, binFloat, shiftInt, binStr])
  refine ⟨by omega, ?_⟩
  refine ⟨by simp, _, ldq (by kernel_rfl) hb rfl, hex a h2, ?_⟩
  intro u hu
  obtain rfl : u = str (txt a) := hu
  (try simp only [RS, RF, cond_true, cond_false, List.nil_append, List.cons_append, List.toList_toArray, Option.isSome_some, Option.map_some, Option.map_none, Nat.reduceBEq, isShift, kEq, fEq, binInt, binFloat, shiftInt, binStr])
  refine ⟨by simp only [sz]; omega, by simp only [sz]; omega, ?_⟩
  refine ⟨by simp, _, ldq (by kernel_rfl) hb rfl, hex b h3, ?_⟩
  intro u hu
  obtain rfl : u = str (txt b) := hu
  (try simp only [RS, RF, cond_true, cond_false, List.nil_append, List.cons_append, List.toList_toArray, Option.isSome_some, Option.map_some, Option.map_none, Nat.reduceBEq, isShift, kEq, fEq, binInt, binFloat, shiftInt, binStr])
  refine ⟨by simp only [sz]; omega, by simp only [sz]; omega, ?_⟩
  refine ⟨_, ldq (by kernel_rfl) hb rfl, ?_⟩
  (try simp only [RS, RF, cond_true, cond_false, List.nil_append, List.cons_append, List.toList_toArray, Option.isSome_some, Option.map_some, Option.map_none, Nat.reduceBEq, isShift, kEq, fEq, binInt, binFloat, shiftInt, binStr])
  rw [IntWalk.i64_in s (by omega)]
  refine ⟨fun w1 hw1 => ?_, ?_⟩
  · rw [show s = (s.toNat : Int) by omega]
    exact (Decimal_ct 2 s.toNat (by omega) (by omega) w1).mono fun v w' hv => ⟨hv.1, hw1.trans hv.2⟩
  intro u hu
  obtain rfl : u = str (dcs s.toNat) := hu
  (try simp only [RS, RF, cond_true, cond_false, List.nil_append, List.cons_append, List.toList_toArray, Option.isSome_some, Option.map_some, Option.map_none, Nat.reduceBEq, isShift, kEq, fEq, binInt, binFloat, shiftInt, binStr])
  intro w2 hw2
  (try simp only [RS, RF, cond_true, cond_false, List.nil_append, List.cons_append, List.toList_toArray, Option.isSome_some, Option.map_some, Option.map_none, Nat.reduceBEq, isShift, kEq, fEq, binInt, binFloat, shiftInt, binStr])
  refine ⟨by simp only [sz]; omega, rfl, hw0.trans hw2⟩
theorem bs3W (w : World) (x y z : Nat) : (Instr.buildSlice 89 3 ([(0, fl x), (1, fl y), (2, fl z)] : List (Nat × Value)).toArray).run Tryd.prog w = .ok (.slice (some ⟨w.heap.size, 0, none⟩) 3 3) (w.alloc (.cells #[fl x, fl y, fl z] 33)) := by kernel_rfl
def thJ (h a b : Nat) : ByteArray := ⟨(Lib.join (txtL [h, a, b]) (bs comma)).toArray⟩
theorem thJ_size (h a b : Nat) : (thJ h a b).size ≤ 27 := txts_len [h, a, b] (bs comma) (by decide)
theorem thJ_eq (h a b : Nat) (s : Int) : thJ h a b ++ comma ++ dcs s.toNat = thS h a b s := by
  apply bs_inj
  unfold thS
  simp only [bs_add]
  have e : bs (thJ h a b) = bs (txt h) ++ bs comma ++ bs (txt a) ++ bs comma ++ bs (txt b) := by
    have e1 : ∀ x, bs (txt x) = hexs 8 (canon x) := fun x => bs_mk _
    rw [e1, e1, e1]
    show (Lib.join (txtL [h, a, b]) (bs comma)) = _
    simp [Lib.join, txtL, List.intercalate, List.intersperse, List.append_assoc]
  rw [e]
/-- what the places of the text's region hold -/
def FT (g : Nat) (h a b : Nat) (s : Int) (k : Nat) (v : Value) (w : World) : Prop :=
  match k with
  | 6 => v = .pointer (some ⟨g, 0, none⟩)
  | 7 => v = fl h
  | 8 => v = .pointer (some ⟨g, 1, none⟩)
  | 9 => v = .pointer (some ⟨g, 1, none⟩)
  | 10 => v = fl a
  | 11 => v = .pointer (some ⟨g, 1, none⟩)
  | 12 => v = .pointer (some ⟨g, 2, none⟩)
  | 13 => v = fl b
  | 14 => ∃ q, v = .slice (some ⟨q, 0, none⟩) 3 3 ∧ w.heap[q]? = some (.cells [fl h, fl a, fl b].toArray 33 (0, 0))
  | 15 => v = str (thJ h a b)
  | 16 => v = str (thJ h a b ++ comma)
  | 17 => v = .pointer (some ⟨g, 3, none⟩)
  | 18 => v = .int .i8 s
  | 19 => v = .int .i64 s
  | 20 => v = str (dcs s.toNat)
  | _ => True
theorem FT_stay (g h a b : Nat) (s : Int) : ∀ d v w1 w2, FT g h a b s d v w1 → Bl w1 w2 → FT g h a b s d v w2 := by
  intro d v w1 w2 hf hb
  unfold FT at hf ⊢
  split at hf <;> first
    | exact hf
    | (obtain ⟨q, h1, h2⟩ := hf; exact ⟨q, h1, hb.block h2⟩)
    | trivial
set_option maxRecDepth 100000 in
theorem ToothText_ct (w : World) (h a b : Nat) (s : Int) (hs : -128 ≤ s ∧ s ≤ 127) (h1 : h < 4294967296) (h2 : a < 4294967296) (h3 : b < 4294967296) (ht : Tab w) : Ct Tryd.prog 19 #[thV h a b s] w (Is (str (if okT h a b s = true then thS h a b s else ⟨#[]⟩)) w) := by
  (refine fn_of_W Tryd.func19 rfl (by kernel_rfl) (by kernel_rfl) (Nat.le_of_ble_eq_true (by kernel_rfl)) ?_; (try simp only [RS, RF, cond_true, cond_false, List.nil_append, List.cons_append, List.toList_toArray, Option.isSome_some, Option.map_some, Option.map_none, Nat.reduceBEq, isShift, kEq, fEq, binInt, binFloat, shiftInt, binStr, Tryd.f19]))
  have hb := alloc_new w (.cells [fl h, fl a, fl b, .int .i8 s].toArray 39)
  have hw0 : Bl w (w.alloc (.cells [fl h, fl a, fl b, .int .i8 s].toArray 39)) := Bl.alloc w _
  have e0 : (w.alloc (.cells #[fl h, fl a, fl b, .int .i8 s] 39)) = (w.alloc (.cells [fl h, fl a, fl b, .int .i8 s].toArray 39)) := rfl
  rw [e0]
  generalize w.alloc (.cells [fl h, fl a, fl b, .int .i8 s].toArray 39) = w0 at *
  refine ⟨_, ldn (cs := [fl h, fl a, fl b, .int .i8 s]) (by kernel_rfl) (fun j u hu => by rw [add_off, Nat.zero_add, cell_blk hb]; simpa using hu), ?_⟩
  (refine (ValidTooth_ct w0 h a b s hs).mono ?_; rintro _ w1 ⟨rfl, hw1⟩)
  have hb1 := hw1.block hb
  have hB1 := hw0.trans hw1
  cases hok : okT h a b s
  · (try simp only [RS, RF, cond_true, cond_false, List.nil_append, List.cons_append, List.toList_toArray, Option.isSome_some, Option.map_some, Option.map_none, Nat.reduceBEq, isShift, kEq, fEq, binInt, binFloat, shiftInt, binStr])
    exact ⟨rfl, hB1⟩
  · have hsd : 0 ≤ s ∧ s ≤ 1 := by
      unfold okT sideB at hok
      simp only [Bool.and_eq_true, decide_eq_true_eq] at hok
      exact hok.2.2.2
    have sz : ∀ x y : ByteArray, (x ++ y).size = x.size + y.size := fun x y => ByteArray.size_append
    have tc' : comma.size = 1 := rfl
    have tJ := thJ_size h a b
    have t4 : (dcs s.toNat).size ≤ s.toNat + 1 := dec_len s.toNat
    (try simp only [RS, RF, cond_true, cond_false, List.nil_append, List.cons_append, List.toList_toArray, Option.isSome_some, Option.map_some, Option.map_none, Nat.reduceBEq, isShift, kEq, fEq, binInt, binFloat, shiftInt, binStr])
    refine draw_any 15 (FT w.heap.size h a b s) mixed (by kernel_rfl) (FT_stay w.heap.size h a b s) ?_ ?_
    · (try simp only [RS, RF, cond_true, cond_false, List.nil_append, List.cons_append, List.toList_toArray, Option.isSome_some, Option.map_some, Option.map_none, Nat.reduceBEq, isShift, kEq, fEq, binInt, binFloat, shiftInt, binStr, a_ok0, a_ok1, a_fe0, a_fe1, a_fes, a_fen, a_fo, a_fl0, a_fl1, a_da0, a_das, a_ds0, a_ds1, a_ov0, a_ov1, FT])
      refine ⟨fun e1 w2 _ _ => ⟨Bl.refl _, trivial⟩, ?_, fun e1 w2 _ _ => ⟨Bl.refl _, trivial⟩, ?_, ?_, fun e1 w2 _ _ => ⟨Bl.refl _, trivial⟩, ?_, ?_, ?_, ?_, ?_, fun e1 w2 _ _ => ⟨Bl.refl _, trivial⟩, ?_, ?_, ?_, trivial⟩
      · rintro e1 w2 hw2 ⟨h6, _⟩
        rw [h6]
        exact ⟨_, ldb (by kernel_rfl) (hw2.block hb1) rfl, Bl.refl _, rfl⟩
      · rintro e1 w2 hw2 ⟨h8, _⟩
        rw [h8]
        exact ⟨by simp, Bl.refl _, by rw [add_off]; rfl⟩
      · rintro e1 w2 hw2 ⟨h9, _⟩
        rw [h9]
        exact ⟨_, ldb (by kernel_rfl) (hw2.block hb1) rfl, Bl.refl _, rfl⟩
      · rintro e1 w2 hw2 ⟨h8, _⟩
        rw [h8]
        exact ⟨by simp, Bl.refl _, by rw [add_off]; rfl⟩
      · rintro e1 w2 hw2 ⟨h9, _⟩
        rw [h9]
        exact ⟨_, ldb (by kernel_rfl) (hw2.block hb1) rfl, Bl.refl _, rfl⟩
      · rintro e1 w2 hw2 ⟨h7, h10, h13, _⟩
        rw [h7, h10, h13]
        exact ⟨_, _, bs3W w2 h a b, Bl.alloc _ _, _, rfl, alloc_new w2 _⟩
      · rintro e1 w2 hw2 ⟨⟨q, h14, hq⟩, _⟩
        rw [h14]
        have hx := texts_ct w2 comma (by decide) q 3 [h, a, b] (fun k x hk => by
          rw [cell_blk hq]
          match k, hk with
          | 0, hk => simp at hk; subst hk; rfl
          | 1, hk => simp at hk; subst hk; rfl
          | 2, hk => simp at hk; subst hk; rfl) (fun x hx => by
          simp only [List.mem_cons, List.not_mem_nil, or_false] at hx
          rcases hx with rfl | rfl | rfl <;> assumption) (by simp) (by simp)
        exact hx.mono fun v w3 hv => ⟨hv.2, hv.1⟩
      · rintro e1 w2 hw2 ⟨h15, _⟩
        rw [h15]
        (try simp only [RS, RF, cond_true, cond_false, List.nil_append, List.cons_append, List.toList_toArray, Option.isSome_some, Option.map_some, Option.map_none, Nat.reduceBEq, isShift, kEq, fEq, binInt, binFloat, shiftInt, binStr])
        have tc2 : (ByteArray.mk #[44]).size = 1 := rfl
        exact ⟨by omega, Bl.refl _, rfl⟩
      · rintro e1 w2 hw2 ⟨h17, _⟩
        rw [h17]
        exact ⟨_, ldb (by kernel_rfl) (hw2.block hb1) rfl, Bl.refl _, rfl⟩
      · rintro e1 w2 hw2 ⟨h18, _⟩
        rw [h18]
        (try simp only [RS, RF, cond_true, cond_false, List.nil_append, List.cons_append, List.toList_toArray, Option.isSome_some, Option.map_some, Option.map_none, Nat.reduceBEq, isShift, kEq, fEq, binInt, binFloat, shiftInt, binStr])
        rw [IntWalk.i64_in s (by omega)]
        exact ⟨Bl.refl _, rfl⟩
      · rintro e1 w2 hw2 ⟨h19, _⟩
        rw [h19, show (Value.int IntKind.i64 s) = Value.int IntKind.i64 (s.toNat : Int) by rw [Int.toNat_of_nonneg hsd.1]]
        exact (decimal_ct w2 s.toNat (by omega) (ht.bl (hB1.trans hw2))).mono fun v w3 hv => ⟨hv.2, hv.1⟩
    · (try simp only [RS, RF, cond_true, cond_false, List.nil_append, List.cons_append, List.toList_toArray, Option.isSome_some, Option.map_some, Option.map_none, Nat.reduceBEq, isShift, kEq, fEq, binInt, binFloat, shiftInt, binStr, a_ok0, a_ok1, a_fe0, a_fe1, a_fes, a_fen, a_fo, a_fl0, a_fl1, a_da0, a_das, a_ds0, a_ds1, a_ov0, a_ov1, FT])
      rintro e1 w2 hw2 ⟨_, _, _, _, _, _, _, _, _, _, h16, _, _, _, h20, _⟩
      rw [h16, h20]
      (try simp only [RS, RF, cond_true, cond_false, List.nil_append, List.cons_append, List.toList_toArray, Option.isSome_some, Option.map_some, Option.map_none, Nat.reduceBEq, isShift, kEq, fEq, binInt, binFloat, shiftInt, binStr])
      refine ⟨by simp only [sz]; omega, ?_, hB1.trans hw2⟩
      rw [if_pos trivial, thJ_eq]
set_option maxRecDepth 100000 in
theorem SToothText_ct (w : World) (h a b : Nat) (s : Int) (hs : -128 ≤ s ∧ s ≤ 127) (h1 : h < 4294967296) (h2 : a < 4294967296) (h3 : b < 4294967296) : Ct Tryd.prog 17 #[thV h a b s] w (Is (str (if okT h a b s = true then thS h a b s else ⟨#[]⟩)) w) := by
  (refine fn_of_W Tryd.func17 rfl (by kernel_rfl) (by kernel_rfl) (Nat.le_of_ble_eq_true (by kernel_rfl)) ?_; (try simp only [RS, RF, cond_true, cond_false, List.nil_append, List.cons_append, List.toList_toArray, Option.isSome_some, Option.map_some, Option.map_none, Nat.reduceBEq, isShift, kEq, fEq, binInt, binFloat, shiftInt, binStr, Tryd.f17]))
  have hb := alloc_new w (.cells [fl h, fl a, fl b, .int .i8 s].toArray 39)
  have hw0 : Bl w (w.alloc (.cells [fl h, fl a, fl b, .int .i8 s].toArray 39)) := Bl.alloc w _
  have e0 : (w.alloc (.cells #[fl h, fl a, fl b, .int .i8 s] 39)) = (w.alloc (.cells [fl h, fl a, fl b, .int .i8 s].toArray 39)) := rfl
  rw [e0]
  generalize w.alloc (.cells [fl h, fl a, fl b, .int .i8 s].toArray 39) = w0 at *
  have ld : ∀ w1, Bl w0 w1 → (loadVar 39 ⟨w.heap.size, 0, none⟩).run Tryd.prog w1 = .ok (thV h a b s) w1 := fun w1 hw1 => ldn (cs := [fl h, fl a, fl b, .int .i8 s]) (by kernel_rfl) (fun j u hu => by rw [add_off, Nat.zero_add, cell_blk (hw1.block hb)]; simpa using hu)
  refine ⟨_, ld w0 (Bl.refl _), ?_⟩
  (refine (l06Ok_ct w0 h a b s hs).mono ?_; rintro _ w1 ⟨rfl, hw1⟩)
  have hB1 := hw0.trans hw1
  cases hok : okT h a b s
  · (try simp only [RS, RF, cond_true, cond_false, List.nil_append, List.cons_append, List.toList_toArray, Option.isSome_some, Option.map_some, Option.map_none, Nat.reduceBEq, isShift, kEq, fEq, binInt, binFloat, shiftInt, binStr])
    exact ⟨rfl, hB1⟩
  · have hsd : 0 ≤ s ∧ s ≤ 1 := by
      unfold okT sideB at hok
      simp only [Bool.and_eq_true, decide_eq_true_eq] at hok
      exact hok.2.2.2
    (try simp only [RS, RF, cond_true, cond_false, List.nil_append, List.cons_append, List.toList_toArray, Option.isSome_some, Option.map_some, Option.map_none, Nat.reduceBEq, isShift, kEq, fEq, binInt, binFloat, shiftInt, binStr])
    refine ⟨_, ld w1 hw1, ?_⟩
    (refine (l06Text_ct w1 h a b s hsd h1 h2 h3).mono ?_; rintro _ w2 ⟨rfl, hw2⟩)
    (try simp only [RS, RF, cond_true, cond_false, List.nil_append, List.cons_append, List.toList_toArray, Option.isSome_some, Option.map_some, Option.map_none, Nat.reduceBEq, isShift, kEq, fEq, binInt, binFloat, shiftInt, binStr])
    refine ⟨?_, hB1.trans hw2⟩
    first | rfl | rw [if_pos trivial]
set_option maxRecDepth 100000 in
theorem FnExactToothText_ct (w : World) (h a b : Nat) (s : Int) (hs : -128 ≤ s ∧ s ≤ 127) (h1 : h < 4294967296) (h2 : a < 4294967296) (h3 : b < 4294967296) (ht : Tab w) : Ct Tryd.prog 5 #[thV h a b s] w (Is (.bool true) w) := by
  (refine fn_of_W Tryd.func5 rfl (by kernel_rfl) (by kernel_rfl) (Nat.le_of_ble_eq_true (by kernel_rfl)) ?_; (try simp only [RS, RF, cond_true, cond_false, List.nil_append, List.cons_append, List.toList_toArray, Option.isSome_some, Option.map_some, Option.map_none, Nat.reduceBEq, isShift, kEq, fEq, binInt, binFloat, shiftInt, binStr, Tryd.f5]))
  have hb := alloc_new w (.cells [fl h, fl a, fl b, .int .i8 s].toArray 37)
  have hw0 : Bl w (w.alloc (.cells [fl h, fl a, fl b, .int .i8 s].toArray 37)) := Bl.alloc w _
  have e0 : (w.alloc (.cells #[fl h, fl a, fl b, .int .i8 s] 37)) = (w.alloc (.cells [fl h, fl a, fl b, .int .i8 s].toArray 37)) := rfl
  rw [e0]
  generalize w.alloc (.cells [fl h, fl a, fl b, .int .i8 s].toArray 37) = w0 at *
  have ld : ∀ w1, Bl w0 w1 → (loadVar 37 ⟨w.heap.size, 0, none⟩).run Tryd.prog w1 = .ok (thV h a b s) w1 := fun w1 hw1 => ldn (cs := [fl h, fl a, fl b, .int .i8 s]) (by kernel_rfl) (fun j u hu => by rw [add_off, Nat.zero_add, cell_blk (hw1.block hb)]; simpa using hu)
  refine ⟨_, ld w0 (Bl.refl _), ?_⟩
  (refine (toTooth_ct w0 h a b s).mono ?_; rintro _ w1 ⟨rfl, hw1⟩)
  (try simp only [RS, RF, cond_true, cond_false, List.nil_append, List.cons_append, List.toList_toArray, Option.isSome_some, Option.map_some, Option.map_none, Nat.reduceBEq, isShift, kEq, fEq, binInt, binFloat, shiftInt, binStr])
  (refine (SToothText_ct w1 h a b s hs h1 h2 h3).mono ?_; rintro _ w2 ⟨rfl, hw2⟩)
  (try simp only [RS, RF, cond_true, cond_false, List.nil_append, List.cons_append, List.toList_toArray, Option.isSome_some, Option.map_some, Option.map_none, Nat.reduceBEq, isShift, kEq, fEq, binInt, binFloat, shiftInt, binStr])
  have hb2 := hw1.trans hw2
  refine ⟨_, ld w2 hb2, ?_⟩
  (refine (toTooth_ct w2 h a b s).mono ?_; rintro _ w3 ⟨rfl, hw3⟩)
  (try simp only [RS, RF, cond_true, cond_false, List.nil_append, List.cons_append, List.toList_toArray, Option.isSome_some, Option.map_some, Option.map_none, Nat.reduceBEq, isShift, kEq, fEq, binInt, binFloat, shiftInt, binStr])
  have hB3 := (hw0.trans hb2).trans hw3
  (refine (ToothText_ct w3 h a b s hs h1 h2 h3 (ht.bl hB3)).mono ?_; rintro _ w4 ⟨rfl, hw4⟩)
  (try simp only [RS, RF, cond_true, cond_false, List.nil_append, List.cons_append, List.toList_toArray, Option.isSome_some, Option.map_some, Option.map_none, Nat.reduceBEq, isShift, kEq, fEq, binInt, binFloat, shiftInt, binStr])
  intro b1 hb1
  have : b1 = false := by rw [hb1]; simp
  subst this
  (try simp only [RS, RF, cond_true, cond_false, List.nil_append, List.cons_append, List.toList_toArray, Option.isSome_some, Option.map_some, Option.map_none, Nat.reduceBEq, isShift, kEq, fEq, binInt, binFloat, shiftInt, binStr])
  exact ⟨rfl, hB3.trans hw4⟩
end Go.Proofs.YtjgpnbchnenbeaaDoor
