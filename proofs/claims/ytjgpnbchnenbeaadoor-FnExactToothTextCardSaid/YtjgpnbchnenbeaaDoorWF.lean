/- Regions that draw their order and allocate: each operation under the facts of those that it waits for. -/
import Derived.Test.YtjgpnbchnenbeaaDoorWD
namespace Go.Proofs.YtjgpnbchnenbeaaDoor
set_option linter.unusedSimpArgs false
set_option linter.unusedVariables false
open Go

/-! ### Any order, by facts that stay -/
def dstAt : List Oper → Nat → Option Nat
  | [], _ => none
  | o :: _, 0 => o.dst
  | _ :: r, k + 1 => dstAt r k
theorem dstAt_get : ∀ (l : List Oper) (k : Nat) (o : Oper), l[k]? = some o → dstAt l k = o.dst
  | [], _, _, h => by simp at h
  | x :: l, 0, o, h => by
    simp only [List.getElem?_cons_zero, Option.some.injEq] at h
    subst h; rfl
  | x :: l, k + 1, o, h => by
    simp only [List.getElem?_cons_succ] at h
    exact dstAt_get l k o h
def dsts (l : List Oper) : List Nat := l.filterMap (·.dst)
def nodupB : List Nat → Bool
  | [] => true
  | x :: r => !r.contains x && nodupB r
theorem nodupB_sound : ∀ (l : List Nat), nodupB l = true → l.Nodup
  | [], _ => List.nodup_nil
  | x :: r, h => by
    simp only [nodupB, Bool.and_eq_true, Bool.not_eq_true'] at h
    refine List.nodup_cons.2 ⟨fun hm => ?_, nodupB_sound r h.2⟩
    have : r.contains x = true := by simpa using hm
    rw [h.1] at this; cases this
/-- the facts of what an operation waits for -/
def factE (F : Nat → Value → World → Prop) (l : List Oper) (e : Env) (w : World) : List Edge → Prop
  | [] => True
  | ed :: r => (match dstAt l ed.on with | some d => F d (e d) w | none => True) ∧ factE F l e w r
def factE1 (F : Nat → Value → World → Prop) (d : Option Nat) (e : Env) (w : World) : Prop := match d with | some d => F d (e d) w | none => True
def factO (d : Option Nat) (F : Nat → Value → World → Prop) (v : Value) (w : World) : Prop := match d with | some d => F d v w | none => False
def ovr (D : List Nat) (e1 e : Env) : Env := over (D.map fun d => (d, e1 d)) e
theorem ovr_at (e1 e : Env) (s : Nat) : ∀ D : List Nat, ovr D e1 e s = if D.contains s then e1 s else e s
  | [] => rfl
  | d :: D => by
    show upd (ovr D e1 e) d (e1 d) s = _
    rw [upd_app]
    cases h : s == d
    · have h2 : (d :: D).contains s = D.contains s := by
        rw [List.contains_cons, h, Bool.false_or]
      rw [h2]; exact ovr_at e1 e s D
    · have h2 : (d :: D).contains s = true := by
        rw [List.contains_cons, h, Bool.true_or]
      rw [h2, beq_iff_eq.1 h]; rfl
theorem ovr_ext {e1 e : Env} {D : List Nat} (h : ∀ s, D.contains s = false → e1 s = e s) : ovr D e1 e = e1 := by
  funext s
  rw [ovr_at]
  cases hc : D.contains s
  · rw [h s hc]; rfl
  · rfl
def anyOK (P : Program) (F : Nat → Value → World → Prop) (l : List Oper) (D : List Nat) (e : Env) (w : World) : List Oper → Prop
  | [] => True
  | o :: r => (∀ e1 w1, Bl w w1 → factE F l e1 w1 o.after.toList → opW P (ovr D e1 e) o.op o.type w1 fun v w2 => Bl w1 w2 ∧ factO o.dst F v w2) ∧ anyOK P F l D e w r
def factL (F : Nat → Value → World → Prop) (e : Env) (w : World) : List Oper → Prop
  | [] => True
  | o :: r => factO o.dst F (match o.dst with | some d => e d | none => undef) w ∧ factL F e w r
def anyB (md : Region.Mode) (l : List Oper) (n : Nat) : Bool :=
  decide (n < l.length) && Region.sinkB md l.toArray n && Region.chainB md l.toArray n &&
  Region.seqB md l.toArray (l.length - n) n (List.replicate n true ++ List.replicate (l.length - n) false).toArray &&
  (l.take n).all (fun o => o.guard.isNone && o.dst.isSome) && nodupB (dsts (l.take n)) &&
  (List.range n).all fun i => match l[i]? with | some o => o.after.toList.all fun ed => Region.binds md ed && Nat.blt ed.on i | none => false

theorem anyOK_get {P : Program} {F : Nat → Value → World → Prop} {l : List Oper} {D : List Nat} {e : Env} {w : World} : ∀ {r : List Oper}, anyOK P F l D e w r → ∀ (i : Nat) (o : Oper), r[i]? = some o →
    ∀ e1 w1, Bl w w1 → (∀ s, D.contains s = false → e1 s = e s) → factE F l e1 w1 o.after.toList → opW P e1 o.op o.type w1 fun v w2 => Bl w1 w2 ∧ factO o.dst F v w2
  | [], _, i, o, h => by simp at h
  | x :: r, hk, 0, o, h => by
    simp only [List.getElem?_cons_zero, Option.some.injEq] at h
    subst h
    intro e1 w1 h1 h2 h3
    have := hk.1 e1 w1 h1 h3
    rw [ovr_ext h2] at this
    exact this
  | x :: r, hk, i + 1, o, h => by
    simp only [List.getElem?_cons_succ] at h
    exact anyOK_get hk.2 i o h
theorem factL_of {F : Nat → Value → World → Prop} {e : Env} {w : World} : ∀ {r : List Oper}, (∀ o ∈ r, ∃ d, o.dst = some d ∧ F d (e d) w) → factL F e w r
  | [], _ => trivial
  | o :: r, h => by
    obtain ⟨d, hd, hf⟩ := h o (by simp)
    refine ⟨?_, factL_of fun o ho => h o (List.mem_cons_of_mem _ ho)⟩
    rw [hd]; exact hf
theorem factE_of {F : Nat → Value → World → Prop} {l : List Oper} {e : Env} {w : World} : ∀ {r : List Edge}, (∀ ed ∈ r, ∀ o d, l[ed.on]? = some o → o.dst = some d → F d (e d) w) → factE F l e w r
  | [], _ => trivial
  | ed :: r, h => by
    refine ⟨?_, factE_of fun x hx => h x (List.mem_cons_of_mem _ hx)⟩
    split
    · rename_i d hd
      cases ho : l[ed.on]? with
      | none =>
        exfalso
        have : ∀ (l : List Oper) (k : Nat), l[k]? = none → dstAt l k = none := by
          intro l
          induction l with
          | nil => intro k _; rfl
          | cons x l ih =>
            intro k hk
            cases k with
            | zero => simp at hk
            | succ k => exact ih k (by simpa using hk)
        rw [this l _ ho] at hd; cases hd
      | some o =>
        rw [dstAt_get l _ o ho] at hd
        exact h ed (by simp) o d ho hd
    · trivial
section
variable {P : Program} {md : Region.Mode} {F : Nat → Value → World → Prop} {l : List Oper} {n m : Nat} {e : Env} {w : World} {Q' : Exit → Act → World → Prop} {K : Env → World → Prop}
structure AInv (F : Nat → Value → World → Prop) (l : List Oper) (n : Nat) (e : Env) (w : World) (listed : Array Bool) (U : List Nat) (e1 : Env) (w1 : World) : Prop where
  nd : U.Nodup
  mem : ∀ j, j < n → (listed.getD j true = false ↔ j ∈ U)
  le : ∀ j ∈ U, j < n
  bl : Bl w w1
  frame : ∀ s, (dsts (l.take n)).contains s = false → e1 s = e s
  facts : ∀ j, j < n → j ∉ U → ∀ o d, l[j]? = some o → o.dst = some d → F d (e1 d) w1
theorem take_get {i : Nat} {o : Oper} (h : l[i]? = some o) (hi : i < n) : (l.take n)[i]? = some o := by
  rw [List.getElem?_take, if_pos hi]; exact h
theorem dst_apart : ∀ {r : List Oper}, (dsts r).Nodup → ∀ (i j : Nat) (o o' : Oper) (d : Nat), r[i]? = some o → r[j]? = some o' → o.dst = some d → o'.dst = some d → i = j
  | [], _, i, j, o, o', d, h, _, _, _ => by simp at h
  | x :: r, hn, i, j, o, o', d, hi, hj, h1, h2 => by
    have hmem : ∀ (k : Nat) (y : Oper), r[k]? = some y → y.dst = some d → d ∈ dsts r := fun k y hk hy => List.mem_filterMap.2 ⟨y, List.mem_of_getElem? hk, hy⟩
    cases i with
    | zero =>
      simp only [List.getElem?_cons_zero, Option.some.injEq] at hi
      subst hi
      cases j with
      | zero => rfl
      | succ j =>
        simp only [List.getElem?_cons_succ] at hj
        simp only [dsts, List.filterMap_cons, h1] at hn
        exact absurd (hmem j o' hj h2) (List.nodup_cons.1 hn).1
    | succ i =>
      simp only [List.getElem?_cons_succ] at hi
      cases j with
      | zero =>
        simp only [List.getElem?_cons_zero, Option.some.injEq] at hj
        subst hj
        simp only [dsts, List.filterMap_cons, h2] at hn
        exact absurd (hmem i o hi h1) (List.nodup_cons.1 hn).1
      | succ j =>
        simp only [List.getElem?_cons_succ] at hj
        have hn' : (dsts r).Nodup := by
          simp only [dsts, List.filterMap_cons] at hn
          cases hx : x.dst with
          | none => rw [hx] at hn; exact hn
          | some y => rw [hx] at hn; exact (List.nodup_cons.1 hn).2
        rw [dst_apart hn' i j o o' d hi hj h1 h2]

theorem upd_at (e : Env) (d : Nat) (v : Value) : upd e d v d = v := by rw [upd_app, beq_self_eq_true]; rfl
theorem upd_off (e : Env) {d s : Nat} (v : Value) (h : s ≠ d) : upd e d v s = e s := by
  rw [upd_app, beq_eq_false_iff_ne.2 h]; rfl
theorem wpAny_facts (hall : (l.all (dstIn m)) = true) (hB : anyB md l n = true) (hst : ∀ d v w1 w2, F d v w1 → Bl w1 w2 → F d v w2) (hok : anyOK P F l (dsts (l.take n)) e w (l.take n))
    (hq : ∀ e a w, Rep m e a → K e w → Q' .normal a w)
    (fin : ∀ e1 w1, Bl w w1 → (∀ s, (dsts (l.take n)).contains s = false → e1 s = e s) → factL F e1 w1 (l.take n) → WL P l (l.drop n) K e1 w1) :
    ∀ (f : Nat) (U : List Nat) (listed : Array Bool) (a : Act) (e1 : Env) (w1 : World), U.length = f → HeadInv md l.toArray n listed → Rep m e1 a → AInv F l n e w listed U e1 w1 →
      wpAny P md l.toArray Q' (f + (l.length - n)) listed a w1 := by
  simp only [anyB, Bool.and_eq_true, decide_eq_true_eq, List.all_eq_true, Option.isNone_iff_eq_none] at hB
  obtain ⟨⟨⟨⟨⟨⟨hn, hsk⟩, hch⟩, hseq⟩, hgd⟩, hnd⟩, hed⟩ := hB
  have hnd := nodupB_sound _ hnd
  intro f
  induction f with
  | zero =>
    intro U listed a e1 w1 hU inv hr ai
    have hU0 : U = [] := List.eq_nil_of_length_eq_zero hU
    subst hU0
    have hlisted : listed = (List.replicate n true ++ List.replicate (l.length - n) false).toArray := by
      apply Array.ext_getElem?
      intro j
      have hsz : listed.size = l.length := by have := inv.size; simpa using this
      have hr2 : ((List.replicate n true ++ List.replicate (l.length - n) false).toArray)[j]? = (List.replicate n true ++ List.replicate (l.length - n) false)[j]? := List.getElem?_toArray
      rw [hr2]
      by_cases hj : j < n
      · have h1 : listed.getD j true ≠ false := fun h => by
          have := (ai.mem j hj).1 h
          cases this
        have hjl : j < listed.size := by omega
        rw [List.getElem?_append_left (by simpa using hj), List.getElem?_replicate, if_pos hj, Array.getElem?_eq_getElem hjl]
        have h2 : listed.getD j true = listed[j] := by simp [Array.getD_eq_getD_getElem?, Array.getElem?_eq_getElem hjl]
        rw [h2] at h1
        cases h3 : listed[j]
        · exact absurd h3 h1
        · rfl
      · rw [List.getElem?_append_right (by simp; omega), List.length_replicate, List.getElem?_replicate]
        by_cases hjl : j < l.length
        · have h1 := inv.tail j (by omega) (by simpa using hjl)
          have hjs : j < listed.size := by omega
          rw [if_pos (by omega), Array.getElem?_eq_getElem hjs]
          have h2 : listed.getD j true = listed[j] := by simp [Array.getD_eq_getD_getElem?, Array.getElem?_eq_getElem hjs]
          rw [← h2, h1]
        · rw [if_neg (by omega), Array.getElem?_eq_none (by omega)]
    subst hlisted
    have hfl : factL F e1 w1 (l.take n) := factL_of fun o ho => by
      obtain ⟨j, hj, hjo⟩ := List.mem_iff_getElem.1 ho
      have hjn : j < n := by simp at hj; omega
      have h1 : (l.take n)[j]? = some o := by rw [List.getElem?_eq_getElem hj, hjo]
      have h2 : l[j]? = some o := by rw [List.getElem?_take, if_pos hjn] at h1; exact h1
      have hg := hgd o ho
      obtain ⟨d, hd⟩ := Option.isSome_iff_exists.1 hg.2
      exact ⟨d, hd, ai.facts j hjn (by simp) o d h2 hd⟩
    have hWL := fin e1 w1 ai.bl ai.frame hfl
    have hdl : (l.drop n).length = l.length - n := by simp
    have := wpAny_of_seq (P := P) (md := md) (ops := l.toArray) (Q' := Q') (l.drop n) n _ a w1 (fun j => by simp [List.getElem?_drop]) (by rw [hdl]; exact hseq)
      (WL_sound hall hq (l.drop n) (by rw [List.all_eq_true] at *; exact fun x hx => hall x (List.mem_of_mem_drop hx)) e1 a w1 hr hWL)
    rw [hdl] at this
    rw [Nat.zero_add]
    exact this
  | succ f ih =>
    intro U listed a e1 w1 hU inv hr ai
    have hsz : listed.size = l.length := by have := inv.size; simpa using this
    have hne : U ≠ [] := fun h => by rw [h] at hU; cases hU
    obtain ⟨x, hx⟩ := List.exists_mem_of_ne_nil U hne
    have hun : listed.getD x true = false := (ai.mem x (ai.le x hx)).2 hx
    have hwait := tail_waits hsk hch (by simpa using hn) inv (n - x) x rfl (ai.le x hx) hun
    -- the least that is not listed may come
    have hready : ∃ i, i ∈ Region.ready md l.toArray listed := by
      have : ∀ b i, i < b → i ∈ U → ∃ k, k ∈ Region.ready md l.toArray listed := by
        intro b
        induction b with
        | zero => intro i hi; omega
        | succ b ihb =>
          intro i hi hiU
          have hin := ai.le i hiU
          obtain ⟨o, ho⟩ : ∃ o, l[i]? = some o := ⟨_, List.getElem?_eq_getElem (by omega)⟩
          by_cases hall2 : ∀ ed ∈ o.after, Region.binds md ed = true → listed.getD ed.on false = true
          · exact ⟨i, mem_ready.2 ⟨(ai.mem i hin).2 hiU, o, by rw [List.getElem?_toArray]; exact ho, hall2⟩⟩
          · obtain ⟨ed, hedm, hbn⟩ : ∃ ed, ed ∈ o.after ∧ ¬ listed.getD ed.on false = true := by
              apply Classical.byContradiction
              intro hno
              exact hall2 fun ed hm _ => Classical.byContradiction fun hc => hno ⟨ed, hm, hc⟩
            have h1 := hed i (List.mem_range.2 hin)
            rw [ho] at h1
            simp only [List.all_eq_true, Bool.and_eq_true, Nat.blt_eq] at h1
            have h2 := h1 ed (by simpa using hedm)
            have hlt : ed.on < n := by omega
            have h3 : listed.getD ed.on true = false := getD_in (by omega) (by simpa using hbn)
            exact ihb ed.on (by omega) ((ai.mem ed.on hlt).1 h3)
      exact this (x + 1) x (by omega) hx
    rw [show f + 1 + (l.length - n) = (f + (l.length - n)) + 1 by omega]
    refine ⟨fun h0 => (by obtain ⟨i, hi⟩ := hready; rw [h0] at hi; cases hi), fun i hi => ?_⟩
    have hin : i < n := by
      rcases Nat.lt_or_ge i n with h | h
      · exact h
      · exact absurd hi (hwait i h)
    obtain ⟨hiun, o, ho, haf⟩ := mem_ready.1 hi
    have ho' : l[i]? = some o := by rw [List.getElem?_toArray] at ho; exact ho
    have hiU : i ∈ U := (ai.mem i hin).1 hiun
    have hot : o ∈ l.take n := List.mem_of_getElem? (take_get ho' hin)
    have hg := hgd o hot
    obtain ⟨d, hd⟩ := Option.isSome_iff_exists.1 hg.2
    unfold wpOp
    simp only [ho]
    rw [if_pos (by simp [Region.wanted, hg.1])]
    left
    have hstep := anyOK_get hok i o (take_get ho' hin) e1 w1 ai.bl ai.frame (factE_of fun ed hedm o2 d2 ho2 hd2 => by
      have h1 := hed i (List.mem_range.2 hin)
      rw [ho'] at h1
      simp only [List.all_eq_true, Bool.and_eq_true, Nat.blt_eq] at h1
      have h2 := h1 ed hedm
      have hlt : ed.on < n := by omega
      have hli := haf ed (by simpa using hedm) h2.1
      refine ai.facts ed.on hlt (fun hm => ?_) o2 d2 ho2 hd2
      have := (ai.mem ed.on hlt).2 hm
      have hjs : ed.on < listed.size := by omega
      rw [show listed.getD ed.on true = listed.getD ed.on false by simp [Array.getD_eq_getD_getElem?, Array.getElem?_eq_getElem hjs], hli] at this
      cases this)
    refine opUpon hr (fun v w2 hv => ?_) hstep
    have hdin : (match o.dst with | some d => Nat.blt d m | none => true) = true := by
      have := List.all_eq_true.1 hall o (List.mem_of_getElem? ho')
      exact this
    refine ih (U.erase i) (listed.setIfInBounds i true) (a.put o.dst v) (putE e1 o.dst v) w2 (by rw [List.length_erase_of_mem hiU, hU]; rfl) (inv.set hi hin) (hr.put o.dst v hdin) ?_
    rw [hd] at hv ⊢
    refine ⟨ai.nd.erase i, fun j hj => ?_, fun j hj => ai.le j (List.mem_of_mem_erase hj), ai.bl.trans hv.1, fun s hs => ?_, fun j hj hjU o2 d2 ho2 hd2 => ?_⟩
    · rw [ai.nd.mem_erase_iff]
      by_cases hij : i = j
      · subst hij
        have hil : i < listed.size := by omega
        simp [hil]
      · rw [getD_set_ne true hij, ai.mem j hj]
        exact ⟨fun h => ⟨Ne.symm hij, h⟩, fun h => h.2⟩
    · show upd e1 d v s = e s
      have hne2 : s ≠ d := fun h => by
        subst h
        have : (dsts (l.take n)).contains s = true := List.contains_iff_mem.2 (List.mem_filterMap.2 ⟨o, hot, hd⟩)
        rw [hs] at this; cases this
      rw [upd_off e1 v hne2]; exact ai.frame s hs
    · show F d2 (upd e1 d v d2) w2
      by_cases hdd : d2 = d
      · subst hdd
        rw [upd_at]; exact hv.2
      · rw [upd_off e1 v hdd]
        have hji : j ≠ i := fun h => by
          subst h
          rw [ho'] at ho2
          cases ho2
          rw [hd] at hd2
          cases hd2
          exact hdd rfl
        refine hst _ _ _ _ (ai.facts j hj (fun hm => hjU (ai.nd.mem_erase_iff.2 ⟨hji, hm⟩)) o2 d2 ho2 hd2) hv.1
end
theorem draw_any {P : Program} (n : Nat) (F : Nat → Value → World → Prop) {id : Nat} {l : List Oper} {Q : Exit → Env → World → Prop} {e : Env} {w : World}
    (hm : P.follows .mixedOrders = true) (hB : anyB .any l n = true) (hst : ∀ d v w1 w2, F d v w1 → Bl w1 w2 → F d v w2) (hok : anyOK P F l (dsts (l.take n)) e w (l.take n))
    (fin : ∀ e1 w1, Bl w w1 → factL F e1 w1 (l.take n) → WL P l (l.drop n) (Q .normal) (ovr (dsts (l.take n)) e1 e) w1) : DrawW P id l.toArray Q e w := by
  intro m a Q' hf hr hq
  refine wp_region_any hm ?_
  have hn : n < l.length := by
    simp only [anyB, Bool.and_eq_true, decide_eq_true_eq] at hB
    exact hB.1.1.1.1.1.1
  have inv0 : HeadInv .any l.toArray n (Array.replicate l.toArray.size false) :=
    ⟨by simp, fun j oj _ hl => (by rw [getD_replicate_false] at hl; cases hl), fun t _ ht => getD_in (by simpa using ht) (getD_replicate_false _ _)⟩
  have H := wpAny_facts (md := .any) (Q' := Q') (K := Q .normal) (by simpa using hf) hB hst hok (fun e a w hr hk => hq _ _ _ _ hr hk) (fun e1 w1 h1 h2 h3 => by have := fin e1 w1 h1 h3; rwa [ovr_ext h2] at this) n (List.range n) _ a e { w with drawn := w.drawn + 1 } (by simp) inv0 hr
    ⟨List.nodup_range, fun j hj => ⟨fun _ => List.mem_range.2 hj, fun _ => getD_in (by simp; omega) (getD_replicate_false _ _)⟩, fun j hj => List.mem_range.1 hj, Bl.drewN w 1, fun _ _ => rfl, fun j hj hjU => absurd (List.mem_range.2 hj) hjU⟩
  rw [show n + (l.length - n) = l.toArray.size by simp; omega] at H
  exact H

/-! ### Rules -/
section
variable {P : Program} {F : Nat → Value → World → Prop} {l r : List Oper} {D : List Nat} {e e1 : Env} {w : World}
theorem a_ok0 : anyOK P F l D e w [] = True := (rfl)
theorem a_ok1 (d : Option Nat) (op : Op) (ty : Nat) (pos : String) (af : List Edge) : anyOK P F l D e w (⟨d, op, ty, pos, af.toArray, none⟩ :: r) =
    ((∀ e1 w1, Bl w w1 → factE F l e1 w1 af → opW P (ovr D e1 e) op ty w1 fun v w2 => Bl w1 w2 ∧ factO d F v w2) ∧ anyOK P F l D e w r) := (rfl)
theorem a_fe0 : factE F l e w [] = True := (rfl)
theorem a_fe1 (j : Nat) (g : Ground) (r : List Edge) : factE F l e w (⟨j, g⟩ :: r) = (factE1 F (dstAt l j) e w ∧ factE F l e w r) := by cases h : dstAt l j <;> simp [factE, factE1, h]
theorem a_fes (d : Nat) : factE1 F (some d) e w = F d (e d) w := (rfl)
theorem a_fen : factE1 F none e w = True := (rfl)
theorem a_fo (d : Nat) (v : Value) : factO (some d) F v w = F d v w := (rfl)
theorem a_fl0 : factL F e w [] = True := (rfl)
theorem a_fl1 (d : Nat) (op : Op) (ty : Nat) (pos : String) (af : Array Edge) : factL F e w (⟨some d, op, ty, pos, af, none⟩ :: r) = (F d (e d) w ∧ factL F e w r) := (rfl)
theorem a_da0 (o : Oper) : dstAt (o :: l) 0 = o.dst := (rfl)
theorem a_das (o : Oper) (k : Nat) : dstAt (o :: l) (k + 1) = dstAt l k := (rfl)
theorem a_ds0 : dsts [] = [] := (rfl)
theorem a_ds1 (d : Nat) (op : Op) (ty : Nat) (pos : String) (af : Array Edge) (g : Option (Nat × Bool)) : dsts (⟨some d, op, ty, pos, af, g⟩ :: l) = d :: dsts l := (rfl)
theorem a_ov0 : ovr [] e1 e = e := (rfl)
theorem a_ov1 (d : Nat) : ovr (d :: D) e1 e = upd (ovr D e1 e) d (e1 d) := (rfl)
end
end Go.Proofs.YtjgpnbchnenbeaaDoor
