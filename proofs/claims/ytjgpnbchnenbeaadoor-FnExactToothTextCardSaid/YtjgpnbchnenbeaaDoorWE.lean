/- Regions that draw their order, more widely: first what is pure (the same in every world, and turning none), then what may come in any order, then a forced tail; each by a list of places. -/
import Derived.Test.YtjgpnbchnenbeaaDoorWD
namespace Go.Proofs.YtjgpnbchnenbeaaDoor
set_option linter.unusedSimpArgs false
set_option linter.unusedVariables false
open Go

/-! ### Pure operations -/
def pureQ (P : Program) (e : Env) (o : Op) (V : Value → Prop) : Prop :=
  match o with
  | .move x => V (ev e x)
  | .assign x => V (ev e x)
  | .nilCheck x => nilW (ev e x) dw (ign V)
  | .binOp op _ x y _ => match ev e x, ev e y with
    | .int k a, .int k' b => binInts (isShift op) (kEq k k') op k a b dw (ign V)
    | _, _ => False
  | .fieldAddr s x f => faddrW (fOff P s f) (ev e x) dw (ign V)
  | .indexAddr t x ix => ixW (shp P t) (ev e x) (ev e ix) dw (ign V)
  | _ => False

theorem nilW_val {x : Value} {V : Value → Prop} (h : nilW x dw (ign V)) : ∃ v, V v ∧ ∀ w (K : Value → World → Prop), K v w → nilW x w K := by
  unfold nilW at *; split at h
  · exact ⟨_, h, fun w K hk => hk⟩
  · exact h.elim
theorem faddrW_val {o : Option Nat} {x : Value} {V : Value → Prop} (h : faddrW o x dw (ign V)) : ∃ v, V v ∧ ∀ w (K : Value → World → Prop), K v w → faddrW o x w K := by
  unfold faddrW at *; split at h
  · exact ⟨_, h, fun w K hk => hk⟩
  · exact h.elim
theorem ixW_val {s : Shape} {x ix : Value} {V : Value → Prop} (h : ixW s x ix dw (ign V)) : ∃ v, V v ∧ ∀ w (K : Value → World → Prop), K v w → ixW s x ix w K := by
  unfold ixW at *; split at h
  · exact ⟨_, h.2, fun w K hk => ⟨h.1, hk⟩⟩
  · exact ⟨_, h.2, fun w K hk => ⟨h.1, hk⟩⟩
  · exact h.elim
theorem binInt_val {op : BinOp} {k : IntKind} {x y : Int} {V : Value → Prop} (h : binInt op k x y dw (ign V)) : ∃ v, V v ∧ ∀ w (K : Value → World → Prop), K v w → binInt op k x y w K := by
  unfold binInt at *
  split at h <;> first
    | exact h.elim
    | exact ⟨_, h.2, fun w K hk => ⟨h.1, hk⟩⟩
    | exact ⟨_, h _ rfl, fun w K hk b hb => by subst hb; exact hk⟩
    | exact ⟨_, h, fun w K hk => hk⟩
theorem shiftInt_val {op : BinOp} {k : IntKind} {x y : Int} {V : Value → Prop} (h : shiftInt op k x y dw (ign V)) : ∃ v, V v ∧ ∀ w (K : Value → World → Prop), K v w → shiftInt op k x y w K := by
  unfold shiftInt at *
  split at h
  · exact ⟨_, h.2, fun w K hk => ⟨h.1, hk⟩⟩
  · exact ⟨_, h.2, fun w K hk => ⟨h.1, hk⟩⟩
  · exact h.elim
theorem binInts_val {sh ke : Bool} {op : BinOp} {k : IntKind} {x y : Int} {V : Value → Prop} (h : binInts sh ke op k x y dw (ign V)) : ∃ v, V v ∧ ∀ w (K : Value → World → Prop), K v w → binInts sh ke op k x y w K := by
  unfold binInts at *
  split at h
  · exact shiftInt_val h
  · exact binInt_val h
  · exact h.elim

theorem pureQ_sound {P : Program} {e : Env} {o : Oper} {V : Value → Prop} (h : pureQ P e o.op V) : ∃ v, (∀ w, (execOp (ev e) o).run P w = .ok (.value v) w) ∧ V v := by
  have val : ∀ {s : Sem Value} {v : Value} {w : World}, runW P s w (fun v' w' => v' = v ∧ w' = w) → (do pure (Next.value (← s)) : Sem Next).run P w = .ok (.value v) w := by
    rintro s v w ⟨v', w', hr, rfl, rfl⟩
    simp only [Sem.run_bind, hr, Result.andThen_ok, Sem.run_pure]
  unfold pureQ at h
  unfold execOp
  split at h
  · rename_i x ho; exact ⟨_, fun w => by simp only [ho]; rfl, h⟩
  · rename_i x ho; exact ⟨_, fun w => by simp only [ho]; rfl, h⟩
  · rename_i x ho
    simp only [ho]
    unfold nilW at h
    split at h
    · rename_i ad ha; exact ⟨_, fun w => by simp only [ha]; rfl, h⟩
    · exact h.elim
  · rename_i op t x y yt ho
    simp only [ho]
    split at h
    · rename_i k a k' b hx hy
      obtain ⟨v, hv, hw⟩ := binInts_val h
      refine ⟨v, fun w => val (binW_sound ?_), hv⟩
      unfold binW
      simp only [hx, hy]
      exact hw w _ ⟨rfl, rfl⟩
    · exact h.elim
  · rename_i s x f ho
    simp only [ho]
    unfold faddrW at h
    split at h
    · rename_i off ad hoff ha
      refine ⟨_, fun w => ?_, h⟩
      refine val ⟨_, w, ?_, rfl, rfl⟩
      rw [ha]; exact fOff_sound hoff ad w
    · exact h.elim
  · rename_i t x ix ho
    simp only [ho]
    obtain ⟨v, hv, hw⟩ := ixW_val h
    exact ⟨v, fun w => val (ixW_sound (hw w _ ⟨rfl, rfl⟩)), hv⟩
  · exact h.elim

/-! ### The three phases -/
def nth : List Oper → Nat → Oper
  | [], _ => ⟨none, .move (.const undef), 0, "", #[], none⟩
  | o :: _, 0 => o
  | _ :: r, k + 1 => nth r k
def sel (ops : List Oper) : List Nat → List Oper
  | [] => []
  | i :: l => nth ops i :: sel ops l
theorem nth_get : ∀ (l : List Oper) (i : Nat), i < l.length → l[i]? = some (nth l i)
  | [], i, h => absurd h (Nat.not_lt_zero _)
  | o :: r, 0, _ => rfl
  | o :: r, k + 1, h => by
    rw [List.getElem?_cons_succ]
    exact nth_get r k (by simpa using h)

section
variable {P : Program} {C : World → Prop} {CR : FuncId → List Value → Value → Prop} {ops : Array Oper} {md : Region.Mode}

/-- each of these waits, through others, until the first of the tail -/
def sinkL (md : Region.Mode) (ops : Array Oper) (t0 : Nat) : List Nat → Bool
  | [] => true
  | i :: l => (l ++ [t0]).any (fun j => Region.waitsFor md ops j i) && sinkL md ops t0 l
def chainL (md : Region.Mode) (ops : Array Oper) : List Nat → Bool
  | t :: u :: l => Region.waitsFor md ops u t && chainL md ops (u :: l)
  | _ => true
def stepsB (md : Region.Mode) (ops : Array Oper) (k : Array Bool → Bool) : List Nat → Array Bool → Bool
  | [], listed => k listed
  | i :: l, listed => (Region.ready md ops listed).contains i && Region.free md ops listed i && stepsB md ops k l (listed.setIfInBounds i true)
def seqL (md : Region.Mode) (ops : Array Oper) : List Nat → Array Bool → Bool
  | [], listed => (Region.ready md ops listed).isEmpty
  | t :: l, listed => decide (Region.ready md ops listed = [t]) && seqL md ops l (listed.setIfInBounds t true)
def wideB (md : Region.Mode) (ops : Array Oper) (ps hs : List Nat) (t0 : Nat) (ts : List Nat) : Bool :=
  Region.noSelect ops && ((List.range ops.size).all fun i => ps.contains i || hs.contains i || (t0 :: ts).contains i) &&
  (ps.all fun i => !(t0 :: ts).contains i) && (hs.all fun i => !(t0 :: ts).contains i && !ps.contains i) && ((ps ++ hs ++ t0 :: ts).all fun i => decide (i < ops.size)) &&
  decide (ps.length + hs.length + ts.length + 1 = ops.size) && sinkL md ops t0 hs && chainL md ops (t0 :: ts) &&
  stepsB md ops (fun listed => stepsB md ops (seqL md ops (t0 :: ts)) hs listed) ps (Array.replicate ops.size false)

structure WInv (md : Region.Mode) (ops : Array Oper) (ts : List Nat) (listed : Array Bool) : Prop where
  size : listed.size = ops.size
  closed : ∀ j oj, ops[j]? = some oj → listed.getD j false = true → ∀ e ∈ oj.after, Region.binds md e = true → listed.getD e.on false = true
  tail : ∀ t ∈ ts, t < ops.size → listed.getD t true = false
theorem WInv.set {ts : List Nat} {i : Nat} {listed : Array Bool} (inv : WInv md ops ts listed) (hi : i ∈ Region.ready md ops listed) (hin : i ∉ ts) : WInv md ops ts (listed.setIfInBounds i true) := by
  obtain ⟨_, oi, hoi, hall⟩ := mem_ready.1 hi
  refine ⟨by simp [inv.size], fun j oj hj hl e he hb => ?_, fun t ht ht' => by rw [getD_set_ne true (fun h : i = t => hin (by rw [h]; exact ht))]; exact inv.tail t ht ht'⟩
  by_cases hij : i = j
  · subst hij
    have : oj = oi := Option.some.inj (hj.symm.trans hoi)
    subst this
    exact getD_set_true (hall e he hb)
  · rw [getD_set_ne false hij] at hl
    exact getD_set_true (inv.closed j oj hj hl e he hb)

theorem head_waits {ts : List Nat} {t0 : Nat} {listed : Array Bool} (inv : WInv md ops ts listed) : ∀ (hs : List Nat), sinkL md ops t0 hs = true → ∀ i ∈ hs, listed.getD i true = false → t0 ∉ Region.ready md ops listed
  | [], _, i, hi, _ => by cases hi
  | h :: l, hs, i, hi, hun => by
    simp only [sinkL, Bool.and_eq_true] at hs
    rcases List.mem_cons.1 hi with rfl | hi
    · obtain ⟨j, hj, hw⟩ := List.any_eq_true.1 hs.1
      obtain ⟨oj, hoj, e, he, hb, hon⟩ := Region.waitsFor_spec hw
      intro hr
      rcases List.mem_append.1 hj with hj | hj
      · cases hl : listed.getD j false with
        | true =>
          have h2 := inv.closed j oj hoj hl e he hb
          rw [hon, getD_both hun] at h2; cases h2
        | false =>
          have hjs : j < listed.size := by rw [inv.size]; exact (Array.getElem?_eq_some_iff.1 hoj).1
          exact head_waits inv l hs.2 j hj (getD_in hjs hl) hr
      · have hj0 : j = t0 := by simpa using hj
        subst hj0
        obtain ⟨_, ot, hot, hall⟩ := mem_ready.1 hr
        have : oj = ot := Option.some.inj (hoj.symm.trans hot)
        subst this
        have h2 := hall e he hb
        rw [hon, getD_both hun] at h2; cases h2
    · exact head_waits inv l hs.2 i hi hun
theorem chain_waits {ts : List Nat} {listed : Array Bool} (inv : WInv md ops ts listed) : ∀ (t0 : Nat) (l : List Nat), chainL md ops (t0 :: l) = true → (∀ t ∈ t0 :: l, t ∈ ts ∧ t < ops.size) → ∀ t ∈ l, t ∉ Region.ready md ops listed
  | t0, [], _, _, t, ht => by cases ht
  | t0, u :: l, hc, hm, t, ht => by
    simp only [chainL, Bool.and_eq_true] at hc
    rcases List.mem_cons.1 ht with rfl | ht
    · obtain ⟨oj, hoj, e, he, hb, hon⟩ := Region.waitsFor_spec hc.1
      intro hr
      obtain ⟨_, ot, hot, hall⟩ := mem_ready.1 hr
      have : oj = ot := Option.some.inj (hoj.symm.trans hot)
      subst this
      have h2 := hall e he hb
      have h3 := hm t0 (by simp)
      rw [hon, getD_both (inv.tail t0 h3.1 h3.2)] at h2; cases h2
    · exact chain_waits inv u l hc.2 (fun t h => hm t (List.mem_cons_of_mem _ h)) t ht

section
variable (P : Program) (C : World → Prop) (CR : FuncId → List Value → Value → Prop) (md : Region.Mode) (ops : Array Oper) (hs : List Nat) (L : Array Bool → Act → Prop)
def wpH : Nat → Array Bool → Act → Prop
  | 0, listed, a => L listed a
  | f + 1, listed, a => Region.ready md ops listed ≠ [] ∧ ∀ i ∈ Region.ready md ops listed, i ∈ hs ∧ qOp P C CR ops i (wpH f (listed.setIfInBounds i true)) a
end

theorem wpH_first (hC : ∃ w, C w) {hs ts : List Nat} {t0 : Nat} {L : Array Bool → Act → Prop} {i : Nat} {oi : Oper} (hi : ops[i]? = some oi) (hsel : ∀ (j : Nat) (o : Oper) cs b, ops[j]? = some o → o.op ≠ .select cs b)
    (hsk : sinkL md ops t0 hs = true) (hch : chainL md ops (t0 :: ts) = true) (hts : ∀ t ∈ t0 :: ts, t < ops.size) (hin : i ∈ hs) (hdis : ∀ i ∈ hs, i ∉ t0 :: ts)
    (hdone : ∀ listed a, L listed a → ∀ j ∈ Region.ready md ops listed, j ∉ hs) :
    ∀ (f : Nat) (listed : Array Bool) (a : Act), WInv md ops (t0 :: ts) listed → (∀ j, j < ops.size → listed.getD j true = false → j ∈ hs ∨ j ∈ t0 :: ts) →
      (∀ j oj, ops[j]? = some oj → j ≠ i → listed.getD j true = false → (∀ e ∈ oj.after, Region.binds md e = true → e.on ≠ i) → oi.apart ops oj = true) →
      i ∈ Region.ready md ops listed →
      qOp P C CR ops i (wpH P C CR md ops hs L f (listed.setIfInBounds i true)) a → wpH P C CR md ops hs L (f + 1) listed a := by
  intro f
  have inhs : ∀ (listed : Array Bool), WInv md ops (t0 :: ts) listed → (∀ j, j < ops.size → listed.getD j true = false → j ∈ hs ∨ j ∈ t0 :: ts) → listed.getD i true = false → ∀ j ∈ Region.ready md ops listed, j ∈ hs := by
    intro listed inv hcov hun j hj
    obtain ⟨hjun, oj, hoj, _⟩ := mem_ready.1 hj
    rcases hcov j (Array.getElem?_eq_some_iff.1 hoj).1 hjun with h | h
    · exact h
    · rcases List.mem_cons.1 h with rfl | h
      · exact absurd hj (head_waits inv hs hsk i hin hun)
      · exact absurd hj (chain_waits inv t0 ts hch (fun t ht => ⟨ht, hts t ht⟩) j h)
  induction f with
  | zero =>
    intro listed a inv hcov _ hr H
    refine ⟨fun h => (by rw [h] at hr; cases hr), fun j hj => ?_⟩
    have hjh := inhs listed inv hcov (mem_ready.1 hr).1 j hj
    refine ⟨hjh, ?_⟩
    by_cases hji : j = i
    · subst hji; exact H
    · exfalso
      have hex : ∃ a', L (listed.setIfInBounds i true) a' := by
        rw [qOp_some hi] at H
        split at H
        · obtain ⟨w0, hw0⟩ := hC
          obtain ⟨u, hu⟩ := qS_ne (H w0 hw0).1
          exact ⟨_, (H w0 hw0).2 u hu⟩
        · exact ⟨_, H⟩
      obtain ⟨a', ha'⟩ := hex
      exact hdone _ _ ha' j (ready_mono hj hji) hjh
  | succ f ih =>
    intro listed a inv hcov hfree hr H
    have hun := (mem_ready.1 hr).1
    refine ⟨fun h => (by rw [h] at hr; cases hr), fun j hj => ?_⟩
    have hjh := inhs listed inv hcov hun j hj
    refine ⟨hjh, ?_⟩
    by_cases hji : j = i
    · subst hji; exact H
    · obtain ⟨hjun, oj, hoj, hall⟩ := mem_ready.1 hj
      have hnot : ∀ e ∈ oj.after, Region.binds md e = true → e.on ≠ i := fun e he hb heq => by
        have h1 := hall e he hb
        rw [heq, getD_both hun] at h1
        cases h1
      have h1 : qOp P C CR ops i (fun a' => qOp P C CR ops j (wpH P C CR md ops hs L f ((listed.setIfInBounds i true).setIfInBounds j true)) a') a :=
        qOp_mono' (fun a' ha' => (ha'.2 j (ready_mono hj hji)).2) H
      have h2 := qOp_swap hC hi hoj (hfree j oj hoj hji hjun hnot) (fun cs b => hsel i oi cs b hi) (fun cs b => hsel j oj cs b hoj) h1
      have hfree' : ∀ k ok, ops[k]? = some ok → k ≠ i → (listed.setIfInBounds j true).getD k true = false →
          (∀ e ∈ ok.after, Region.binds md e = true → e.on ≠ i) → oi.apart ops ok = true := fun k ok hk hki hun hno => by
        refine hfree k ok hk hki ?_ hno
        by_cases hjk : j = k
        · subst hjk; exact hjun
        · rw [getD_set_ne true hjk] at hun; exact hun
      have hcov' : ∀ k, k < ops.size → (listed.setIfInBounds j true).getD k true = false → k ∈ hs ∨ k ∈ t0 :: ts := fun k hk hkun => by
        refine hcov k hk ?_
        by_cases hjk : j = k
        · subst hjk; exact hjun
        · rw [getD_set_ne true hjk] at hkun; exact hkun
      refine qOp_mono' (fun a' h3 => ih (listed.setIfInBounds j true) a' (inv.set hj (hdis j hjh)) hcov' hfree' (ready_mono hr (Ne.symm hji)) ?_) h2
      rw [Array.setIfInBounds_comm _ _ hji]
      exact h3

theorem seqL_ready {t0 : Nat} {ts : List Nat} {listed : Array Bool} (h : seqL md ops (t0 :: ts) listed = true) : ∀ j ∈ Region.ready md ops listed, j = t0 := by
  intro j hj
  simp only [seqL, Bool.and_eq_true, decide_eq_true_eq] at h
  rw [h.1] at hj
  simpa using hj
theorem wpH_lex (hC : ∃ w, C w) {hs ts : List Nat} {t0 : Nat} {Lq : Act → Prop} {l : List Oper} (hl : l.toArray = ops) (hsel : Region.noSelect ops = true)
    (hsk : sinkL md ops t0 hs = true) (hch : chainL md ops (t0 :: ts) = true) (hts : ∀ t ∈ t0 :: ts, t < ops.size) (hdis : ∀ i ∈ hs, i ∉ t0 :: ts) (hlt : ∀ i ∈ hs, i < ops.size) :
    ∀ (h : List Nat) (listed : Array Bool) (a : Act), (∀ i ∈ h, i ∈ hs) → WInv md ops (t0 :: ts) listed → (∀ j, j < ops.size → listed.getD j true = false → j ∈ hs ∨ j ∈ t0 :: ts) →
    stepsB md ops (seqL md ops (t0 :: ts)) h listed = true → qLex P C CR ops Lq (sel l h) a →
    wpH P C CR md ops hs (fun listed' a' => seqL md ops (t0 :: ts) listed' = true ∧ Lq a') h.length listed a
  | [], listed, a, _, inv, _, hB, hq => ⟨hB, hq⟩
  | i :: h, listed, a, hm, inv, hcov, hB, hq => by
    simp only [stepsB, Bool.and_eq_true] at hB
    obtain ⟨⟨hr, hf⟩, hB'⟩ := hB
    have hr' : i ∈ Region.ready md ops listed := by simpa using hr
    have hih : i ∈ hs := hm i (by simp)
    have hi : ops[i]? = some (nth l i) := by
      subst hl
      rw [List.getElem?_toArray]
      exact nth_get l i (by simpa using hlt i hih)
    have hst : qOp P C CR ops i (qLex P C CR ops Lq (sel l h)) a := by rw [qOp_some hi]; exact hq
    have hcov' : ∀ k, k < ops.size → (listed.setIfInBounds i true).getD k true = false → k ∈ hs ∨ k ∈ t0 :: ts := fun k hk hkun => by
      refine hcov k hk ?_
      by_cases hik : i = k
      · subst hik; exact (mem_ready.1 hr').1
      · rw [getD_set_ne true hik] at hkun; exact hkun
    exact wpH_first hC hi (Region.noSelect_spec hsel) hsk hch hts hih hdis (fun listed' a' hL j hj hjh => hdis j hjh (by rw [seqL_ready hL.1 j hj]; simp)) h.length listed a inv hcov (Region.free_spec hi hf) hr'
      (qOp_mono' (fun a' ha' => wpH_lex hC hl hsel hsk hch hts hdis hlt h _ _ (fun j hj => hm j (List.mem_cons_of_mem _ hj)) (inv.set hr' (hdis i hih)) hcov' hB' ha') hst)

theorem wpAny_of_wpH {hs : List Nat} {L : Array Bool → Act → Prop} {g : Nat} {Q' : Exit → Act → World → Prop} (hL : ∀ listed a w, C w → L listed a → wpAny P md ops Q' g listed a w) :
    ∀ (f : Nat) (listed : Array Bool) (a : Act) (w : World), C w → wpH P C CR md ops hs L f listed a → wpAny P md ops Q' (f + g) listed a w
  | 0, listed, a, w, hw, h => by rw [Nat.zero_add]; exact hL _ _ _ hw h
  | f + 1, listed, a, w, hw, h => by
    rw [show f + 1 + g = (f + g) + 1 by omega]
    refine ⟨fun h0 => absurd h0 h.1, fun i hi => ?_⟩
    have h2 := (h.2 i hi).2
    unfold wpOp
    split
    · rename_i ho
      unfold qOp at h2; simp only [ho] at h2
      exact wpAny_of_wpH hL f _ _ _ hw h2
    · rename_i o ho
      rw [qOp_some ho] at h2
      split
      · rename_i hwt
        rw [if_pos hwt] at h2
        exact .inl (Oper.wp_of_qAt hw (fun u w' hw' hv => wpAny_of_wpH hL f _ _ _ hw' hv) h2)
      · rename_i hwt
        rw [if_neg hwt] at h2
        exact wpAny_of_wpH hL f _ _ _ hw h2

theorem wpAny_of_seqL {Q' : Exit → Act → World → Prop} {l : List Oper} (hl : l.toArray = ops) : ∀ (ts : List Nat) (listed : Array Bool) (a : Act) (w : World), (∀ t ∈ ts, t < ops.size) →
    seqL md ops ts listed = true → wpList P ops Q' (sel l ts) a w → wpAny P md ops Q' ts.length listed a w
  | [], _, _, _, _, hB, h => ⟨by simpa [seqL] using hB, h⟩
  | t :: ts, listed, a, w, hlt, hB, h => by
    have h0 : ops[t]? = some (nth l t) := by
      subst hl
      rw [List.getElem?_toArray]
      exact nth_get l t (by simpa using hlt t (by simp))
    simp only [seqL, Bool.and_eq_true, decide_eq_true_eq] at hB
    refine ⟨fun h1 => (by rw [hB.1] at h1; cases h1), fun i hi => ?_⟩
    rw [hB.1] at hi
    have hik : i = t := by simpa using hi
    subst hik
    have hw : wpOp P ops Q' i (wpList P ops Q' (sel l ts)) a w := by unfold wpOp; simp only [h0]; exact h
    exact wpOp_mono (fun a' w' h' => wpAny_of_seqL hl ts _ a' w' (fun t ht => hlt t (List.mem_cons_of_mem _ ht)) hB.2 h') hw

/-- the pure phase -/
def pLex (P : Program) (ops : Array Oper) (K : Act → Prop) : List Oper → Act → Prop
  | [], a => K a
  | o :: rest, a => ∃ v, Yields P ops o v a ∧ pLex P ops K rest (a.put o.dst v)
theorem wpAny_of_pLex {Q' : Exit → Act → World → Prop} (hQ : ∀ c a w, ¬ Q' (.panic c) a w) {l : List Oper} (hl : l.toArray = ops) (hsel : Region.noSelect ops = true) {k : Array Bool → Bool} {K : Act → Prop} {g : Nat} {w : World} {ts : List Nat} {R : List Nat}
    (hK : ∀ listed a, WInv md ops ts listed → (∀ j, j < ops.size → listed.getD j true = false → j ∈ R) → k listed = true → K a → wpAny P md ops Q' g listed a w) :
    ∀ (ps : List Nat) (listed : Array Bool) (a : Act), (∀ i ∈ ps, i < ops.size ∧ i ∉ ts) → WInv md ops ts listed → (∀ j, j < ops.size → listed.getD j true = false → j ∈ ps ∨ j ∈ R) →
      stepsB md ops k ps listed = true → pLex P ops K (sel l ps) a → wpAny P md ops Q' (ps.length + g) listed a w
  | [], listed, a, _, inv, hcov, hB, h => by
    rw [List.length_nil, Nat.zero_add]
    exact hK _ _ inv (fun j hj hun => (hcov j hj hun).resolve_left (by simp)) hB h
  | i :: ps, listed, a, hlt, inv, hcov, hB, h => by
    simp only [stepsB, Bool.and_eq_true] at hB
    obtain ⟨⟨hr, hf⟩, hB'⟩ := hB
    obtain ⟨v, hy, hrest⟩ := h
    have hr' : i ∈ Region.ready md ops listed := by simpa using hr
    have hi : ops[i]? = some (nth l i) := by
      have := (hlt i (by simp)).1
      subst hl
      rw [List.getElem?_toArray]
      exact nth_get l i (by simpa using this)
    have hcov' : ∀ j, j < ops.size → (listed.setIfInBounds i true).getD j true = false → j ∈ ps ∨ j ∈ R := fun j hj hun => by
      have hij : i ≠ j := fun e => by
        subst e
        have : i < listed.size := by rw [inv.size]; exact hj
        simp [this] at hun
      rw [getD_set_ne true hij] at hun
      rcases hcov j hj hun with h | h
      · rcases List.mem_cons.1 h with rfl | h
        · exact absurd rfl hij
        · exact .inl h
      · exact .inr h
    have ih := wpAny_of_pLex hQ hl hsel hK ps (listed.setIfInBounds i true) (a.put (nth l i).dst v) (fun j hj => hlt j (List.mem_cons_of_mem _ hj)) (inv.set hr' (hlt i (by simp)).2) hcov' hB' hrest
    rw [List.length_cons, show ps.length + 1 + g = (ps.length + g) + 1 by omega]
    exact wpAny_take hi hsel hf hr (fun c a w h => absurd h (hQ _ _ _)) hy ih
end

theorem wp_region_wide {P : Program} {C : World → Prop} {CR : FuncId → List Value → Value → Prop} {id : Nat} {Q : Exit → Act → World → Prop} {a : Act} {w : World} {l : List Oper} (ps hs : List Nat) (t0 : Nat) (ts : List Nat)
    (hm : P.follows .mixedOrders = true) (hB : wideB .any l.toArray ps hs t0 ts = true) (hC : C { w with drawn := w.drawn + 1 })
    (h : pLex P l.toArray (fun a => qLex P C CR l.toArray (fun a' => ∀ w', C w' → wpList P l.toArray (fun x a w => match x with | .panic _ => False | x => Q x a w) (sel l (t0 :: ts)) a' w') (sel l hs) a) (sel l ps) a) : (Code.region id l.toArray true).wp P Q a w := by
  simp only [wideB, Bool.and_eq_true, decide_eq_true_eq, List.all_eq_true] at hB
  obtain ⟨⟨⟨⟨⟨⟨⟨⟨hsel, hcov⟩, hps⟩, hhs⟩, hlt⟩, hlen⟩, hsk⟩, hch⟩, hst⟩ := hB
  have hlt' : ∀ i, i ∈ ps ∨ i ∈ hs ∨ i ∈ t0 :: ts → i < l.toArray.size := fun i hi => hlt i (by
    rcases hi with h | h | h
    · exact List.mem_append_left _ (List.mem_append_left _ h)
    · exact List.mem_append_left _ (List.mem_append_right _ h)
    · exact List.mem_append_right _ h)
  have inv0 : WInv .any l.toArray (t0 :: ts) (Array.replicate l.toArray.size false) :=
    ⟨by simp, fun j oj _ hl => (by rw [getD_replicate_false] at hl; cases hl), fun t _ ht => getD_in (by simpa using ht) (getD_replicate_false _ _)⟩
  have hdis : ∀ i ∈ hs, i ∉ t0 :: ts := fun i hi => by
    have := hhs i hi
    simp only [Bool.and_eq_true, Bool.not_eq_true'] at this
    intro hm
    have h1 : (t0 :: ts).contains i = true := by simpa using hm
    rw [this.1] at h1; cases h1
  have hdis2 : ∀ i ∈ ps, i ∉ t0 :: ts := fun i hi => by
    have := hps i hi
    simp only [Bool.not_eq_true'] at this
    intro hm
    have h1 : (t0 :: ts).contains i = true := by simpa using hm
    rw [this] at h1; cases h1
  refine Code.wp_mono (Q := fun x a w => match x with | .panic _ => False | x => Q x a w) (fun x a w hx => by cases x <;> first | exact hx | exact hx.elim) ?_
  refine wp_region_any hm ?_
  have H := wpAny_of_pLex (P := P) (md := .any) (ops := l.toArray) (Q' := fun x a w => match x with | .panic _ => False | x => Q x a w) (fun c a w h => h) rfl hsel (ts := t0 :: ts) (R := hs ++ t0 :: ts) (g := hs.length + (t0 :: ts).length) (w := { w with drawn := w.drawn + 1 })
    (k := fun listed => stepsB .any l.toArray (seqL .any l.toArray (t0 :: ts)) hs listed)
    (fun listed a inv hc hB hq => wpAny_of_wpH (C := C) (CR := CR) (hs := hs) (fun listed' a' w' hw' hL => wpAny_of_seqL rfl (t0 :: ts) listed' a' w' (fun t ht => hlt' t (.inr (.inr ht))) hL.1 (hL.2 w' hw')) hs.length listed a _ hC
      (wpH_lex ⟨_, hC⟩ rfl hsel hsk hch (fun t ht => hlt' t (.inr (.inr ht))) hdis (fun i hi => hlt' i (.inr (.inl hi))) hs listed a (fun i hi => hi) inv (fun j hj hun => List.mem_append.1 (hc j hj hun)) hB hq))
    ps _ a (fun i hi => ⟨hlt' i (.inl hi), hdis2 i hi⟩) inv0 (fun j hj _ => by
      have := hcov j (List.mem_range.2 hj)
      simp only [Bool.or_eq_true] at this
      rcases this with (h | h) | h
      · exact .inl (by simpa using h)
      · exact .inr (List.mem_append_left _ (by simpa using h))
      · exact .inr (List.mem_append_right _ (by simpa using h))) hst h
  rw [show ps.length + (hs.length + (t0 :: ts).length) = l.toArray.size by rw [List.length_cons]; omega] at H
  exact H

/-! ### The same over frames as functions -/
def PL (P : Program) (ops : List Oper) : List Oper → (Env → Prop) → Env → Prop
  | [], K, e => K e
  | o :: rest, K, e => match o.guard with
    | none => pureQ P e o.op fun v => PL P ops rest K (putE e o.dst v)
    | some (j, want) => match asB (yv ops j e) == some want with
      | true => pureQ P e o.op fun v => PL P ops rest K (putE e o.dst v)
      | false => PL P ops rest K (putE e o.dst undef)
def PLk (P : Program) (ops rest : List Oper) (K : Env → Prop) (e : Env) (d : Option Nat) (v : Value) : Prop := PL P ops rest K (putE e d v)
def gdP (g : Value) (want : Bool) (P : Program) (ops : List Oper) (op : Op) (rest : List Oper) (K : Env → Prop) (e : Env) (d : Option Nat) : Prop :=
  match asB g == some want with
  | true => pureQ P e op (PLk P ops rest K e d)
  | false => PL P ops rest K (putE e d undef)

theorem PL_sound {P : Program} {n : Nat} {ops : List Oper} (hall : (ops.all (dstIn n)) = true) {K : Env → Prop} :
    ∀ (l : List Oper), (l.all (dstIn n)) = true → ∀ (e : Env) (a : Act), Rep n e a → PL P ops l K e → pLex P ops.toArray (fun a => ∃ e, Rep n e a ∧ K e) l a
  | [], _, e, a, hr, h => ⟨e, hr, h⟩
  | o :: rest, hl, e, a, hr, h => by
    simp only [List.all_cons, Bool.and_eq_true] at hl
    have ih := PL_sound (P := P) (K := K) hall rest hl.2
    have hput : ∀ v, Rep n (putE e o.dst v) (a.put o.dst v) := fun v => hr.put o.dst v (by have := hl.1; unfold dstIn at this; exact this)
    have hop : ∀ {V : Value → Prop}, pureQ P e o.op V → ∃ v, (∀ w, (execOp a.eval o).run P w = .ok (.value v) w) ∧ V v := fun hh => by rw [hr.eval]; exact pureQ_sound hh
    unfold PL at h
    unfold pLex
    split at h
    · rename_i hg
      obtain ⟨v, hv, hK⟩ := hop h
      exact ⟨v, .inl ⟨by simp [Region.wanted, hg], hv⟩, ih _ _ (hput v) hK⟩
    · rename_i j want hg
      have hy := yielded_yv hr ops hall j
      split at h
      · rename_i hw
        obtain ⟨v, hv, hK⟩ := hop h
        exact ⟨v, .inl ⟨by simp only [Region.wanted, hg, hy]; exact hw, hv⟩, ih _ _ (hput v) hK⟩
      · rename_i hw
        exact ⟨undef, .inr ⟨by simp only [Region.wanted, hg, hy, hw], rfl⟩, ih _ _ (hput undef) h⟩

theorem sel_all {n : Nat} {l : List Oper} (hl : (l.all (dstIn n)) = true) : ∀ (is : List Nat), (∀ i ∈ is, i < l.length) → ((sel l is).all (dstIn n)) = true
  | [], _ => rfl
  | i :: is, h => by
    have h1 := nth_get l i (h i (by simp))
    have h2 := List.all_eq_true.1 hl (nth l i) (List.mem_of_getElem? h1)
    show (dstIn n (nth l i) && (sel l is).all (dstIn n)) = true
    rw [h2, sel_all hl is (fun j hj => h j (List.mem_cons_of_mem _ hj))]; rfl

/-- the rule: the pure operations ps; then hs, for whatever values they may yield; then the tail, in whatever later world -/
theorem draw_wide {P : Program} (ps hs : List Nat) (t0 : Nat) (ts : List Nat) (CR : FuncId → List Value → Value → Prop) {id : Nat} {l : List Oper} {Q : Exit → Env → World → Prop} {e : Env} {w : World}
    (hm : P.follows .mixedOrders = true) (hB : wideB .any l.toArray ps hs t0 ts = true)
    (h : PL P l (sel l ps) (fun e1 => QL P (Bl w) CR l (sel l hs) (fun e' => ∀ w', Bl w w' → WL P l (sel l (t0 :: ts)) (Q .normal) e' w') e1) e) : DrawW P id l.toArray Q e w := by
  intro m a Q' hf hr hq
  have hf' : (l.all (dstIn m)) = true := by simpa using hf
  have hCd : ∀ (w1 : World) (n : Nat), Bl w w1 → Bl w (w1.drewN n) := fun w1 n h => h.trans (Bl.drewN w1 n)
  have hlt : ∀ i, i ∈ ps ++ hs ++ t0 :: ts → i < l.length := by
    have hB' := hB
    simp only [wideB, Bool.and_eq_true, decide_eq_true_eq, List.all_eq_true] at hB'
    intro i hi
    have := hB'.1.1.1.1.2 i hi
    simpa using this
  refine wp_region_wide (C := Bl w) (CR := CR) ps hs t0 ts hm hB (Bl.drewN w 1) ?_
  have monoQ : ∀ (Lq Lq' : Act → Prop), (∀ a, Lq a → Lq' a) → ∀ (l' : List Oper) (a : Act), qLex P (Bl w) CR l.toArray Lq l' a → qLex P (Bl w) CR l.toArray Lq' l' a := by
    intro Lq Lq' hL l'
    induction l' with
    | nil => exact fun a h => hL a h
    | cons o rest ih =>
      intro a h
      unfold qLex at h ⊢
      split
      · rename_i hw; rw [if_pos hw] at h; exact qAt_mono h fun u hu => ih _ hu
      · rename_i hw; rw [if_neg hw] at h; exact ih _ h
  have monoP : ∀ (K K' : Act → Prop), (∀ a, K a → K' a) → ∀ (l' : List Oper) (a : Act), pLex P l.toArray K l' a → pLex P l.toArray K' l' a := by
    intro K K' hL l'
    induction l' with
    | nil => exact fun a h => hL a h
    | cons o rest ih =>
      rintro a ⟨v, hy, h⟩
      exact ⟨v, hy, ih _ h⟩
  refine monoP _ _ ?_ _ _ (PL_sound hf' (sel l ps) (sel_all hf' ps fun i hi => hlt i (by simp [hi])) e a hr h)
  rintro a1 ⟨e1, hr1, hK1⟩
  refine monoQ _ _ ?_ _ _ (QL_sound (C := Bl w) (CR := CR) hCd hf' (sel l hs) (sel_all hf' hs fun i hi => hlt i (by simp [hi])) e1 a1 hr1 hK1)
  rintro a' ⟨e', hr', hK⟩ w' hw'
  exact WL_sound (Q := fun x a w => match x with | .panic _ => False | x => Q' x a w) hf' (fun e a w hr hk => hq .normal e w a hr hk) (sel l (t0 :: ts)) (sel_all hf' (t0 :: ts) fun i hi => hlt i (List.mem_append_right _ hi)) e' a' w' hr' (hK w' hw')

section rules
variable (P : Program) (K : Env → Prop) (V : Value → Prop) (e : Env) (ops rest : List Oper)
theorem q_pnil : PL P ops [] K e = K e := (rfl)
theorem q_pcons (d : Option Nat) (op : Op) (ty : Nat) (pos : String) (af : Array Edge) : PL P ops (⟨d, op, ty, pos, af, none⟩ :: rest) K e = pureQ P e op (PLk P ops rest K e d) := (rfl)
theorem q_pconsg (d : Option Nat) (op : Op) (ty : Nat) (pos : String) (af : Array Edge) (j : Nat) (want : Bool) : PL P ops (⟨d, op, ty, pos, af, some (j, want)⟩ :: rest) K e = gdP (yv ops j e) want P ops op rest K e d := (rfl)
theorem q_pk (d : Nat) (v : Value) : PLk P ops rest K e (some d) v = PL P ops rest K (upd e d v) := (rfl)
theorem q_pk0 (v : Value) : PLk P ops rest K e none v = PL P ops rest K e := (rfl)
theorem q_pgtt (op : Op) (d : Option Nat) : gdP (.bool true) true P ops op rest K e d = pureQ P e op (PLk P ops rest K e d) := (rfl)
theorem q_pgff (op : Op) (d : Option Nat) : gdP (.bool false) false P ops op rest K e d = pureQ P e op (PLk P ops rest K e d) := (rfl)
theorem q_pgtf (op : Op) (d : Nat) : gdP (.bool true) false P ops op rest K e (some d) = PL P ops rest K (upd e d undef) := (rfl)
theorem q_pgft (op : Op) (d : Nat) : gdP (.bool false) true P ops op rest K e (some d) = PL P ops rest K (upd e d undef) := (rfl)
theorem q_pmove (x : Operand) : pureQ P e (.move x) V = V (ev e x) := (rfl)
theorem q_passign (x : Operand) : pureQ P e (.assign x) V = V (ev e x) := (rfl)
theorem q_pnilc (x : Operand) : pureQ P e (.nilCheck x) V = nilW (ev e x) dw (ign V) := (rfl)
def pbin (op : BinOp) (x y : Value) (V : Value → Prop) : Prop := match x, y with
  | .int k a, .int k' b => binInts (isShift op) (kEq k k') op k a b dw (ign V)
  | _, _ => False
theorem q_pbin (t ty2 : Nat) (op : BinOp) (x y : Operand) : pureQ P e (.binOp op t x y ty2) V = pbin op (ev e x) (ev e y) V := (rfl)
theorem q_pbini (op : BinOp) (k k' : IntKind) (a b : Int) : pbin op (.int k a) (.int k' b) V = binInts (isShift op) (kEq k k') op k a b dw (ign V) := (rfl)
theorem q_pfa (s f : Nat) (x : Operand) : pureQ P e (.fieldAddr s x f) V = faddrW (fOff P s f) (ev e x) dw (ign V) := (rfl)
theorem q_pixa (t : Nat) (x ix : Operand) : pureQ P e (.indexAddr t x ix) V = ixW (shp P t) (ev e x) (ev e ix) dw (ign V) := (rfl)
theorem q_nth0 (o : Oper) (l : List Oper) : nth (o :: l) 0 = o := (rfl)
theorem q_nths (o : Oper) (l : List Oper) (k : Nat) : nth (o :: l) (k + 1) = nth l k := (rfl)
theorem q_sel0 : sel ops [] = [] := (rfl)
theorem q_sels (i : Nat) (l : List Nat) : sel ops (i :: l) = nth ops i :: sel ops l := (rfl)
end rules
end Go.Proofs.YtjgpnbchnenbeaaDoor
