/- Regions that draw their order: what stands ahead of a forced tail may be walked in the text's order; the results of operations may be any of a set (so a NaN may have any bits). -/
import Derived.Test.YtjgpnbchnenbeaaDoorW
import Derived.StillTail
namespace Go.Proofs.YtjgpnbchnenbeaaDoor
set_option linter.unusedSimpArgs false
set_option linter.unusedVariables false
open Go

/-- below the old heap nothing turns -/
def Bl (w w' : World) : Prop := RowKit.Below w.heap.size w w'
theorem Bl.refl (w : World) : Bl w w := RowKit.Below.refl _ _
theorem Bl.trans {a b c : World} (h : Bl a b) (k : Bl b c) : Bl a c := RowKit.Below.trans h (RowKit.Below.mono k h.size)
theorem Bl.drewN (w : World) (n : Nat) : Bl w (w.drewN n) := ⟨rfl, rfl, rfl, Nat.le_refl _, fun _ _ => rfl⟩
theorem Bl.cell {w w' : World} (h : Bl w w') {a : Addr} {v : Value} (hc : w.cell? a = some v) : w'.cell? a = some v := by
  have hb : a.block < w.heap.size := World.block_lt_of_cell? w a hc
  rw [RowKit.Below.cell h hb]; exact hc
theorem Bl.block {w w' : World} (h : Bl w w') {b : Nat} {o : Obj} (hc : w.heap[b]? = some o) : w'.heap[b]? = some o := by
  have hb : b < w.heap.size := (Array.getElem?_eq_some_iff.1 hc).1
  rw [RowKit.Below.block h b hb]; exact hc
theorem Bl.alloc (w : World) (o : Obj) : Bl w (w.alloc o) := RowKit.Below.alloc (RowKit.Below.refl _ _) (Nat.le_refl _) o

section
variable (P : Program) (C : World → Prop) (CR : FuncId → List Value → Value → Prop)

/-- an operation's outcome keeps the class -/
def qA : Result Next → Prop
  | .ok (.value _) w' => C w'
  | .ok .skip w' => C w'
  | .ok (.enter f args) w' => C w' ∧ Calls P f args w' fun e w'' => ∃ u, e = .returned u ∧ CR f args.toList u ∧ C w''
  | _ => False
/-- the values that it may hand back -/
def qS : Result Next → Value → Prop
  | .ok (.value v) _, u => u = v
  | .ok .skip _, u => u = undef
  | .ok (.enter f args) _, u => CR f args.toList u
  | _, _ => False
def qU (r : Result Next) (V : Value → Prop) : Prop := qA P C CR r ∧ ∀ u, qS CR r u → V u
def qAt (o : Oper) (a : Act) (V : Value → Prop) : Prop := ∀ w, C w → qU P C CR ((execOp a.eval o).run P w) V
variable (ops : Array Oper)
def qOp (i : Nat) (K : Act → Prop) (a : Act) : Prop :=
  match ops[i]? with
  | none => K a
  | some o => if Region.wanted o (yielded ops a.tmps) then qAt P C CR o a fun u => K (a.put o.dst u) else K (a.put o.dst undef)
def qLex (Lq : Act → Prop) : List Oper → Act → Prop
  | [], a => Lq a
  | o :: rest, a => if Region.wanted o (yielded ops a.tmps) then qAt P C CR o a fun u => qLex Lq rest (a.put o.dst u) else qLex Lq rest (a.put o.dst undef)
variable (md : Region.Mode) (n : Nat) (L : Array Bool → Act → Prop)
def wpR : Nat → Array Bool → Act → Prop
  | 0, listed, a => L listed a
  | f + 1, listed, a => Region.ready md ops listed ≠ [] ∧ ∀ i ∈ Region.ready md ops listed, i < n ∧ qOp P C CR ops i (wpR f (listed.setIfInBounds i true)) a
end

section
variable {P : Program} {C : World → Prop} {CR : FuncId → List Value → Value → Prop} {ops : Array Oper} {md : Region.Mode} {n : Nat} {L : Array Bool → Act → Prop}

theorem qS_ne {r : Result Next} (h : qA P C CR r) : ∃ u, qS CR r u := by
  unfold qA at h
  split at h
  · exact ⟨_, rfl⟩
  · exact ⟨_, rfl⟩
  · obtain ⟨_, hc⟩ := h
    obtain ⟨e, w', fr, ⟨u, _, hu, _⟩, _⟩ := hc []
    exact ⟨u, hu⟩
  · exact h.elim

theorem qAt_mono {o : Oper} {a : Act} {V V' : Value → Prop} (h : qAt P C CR o a V) (hv : ∀ u, V u → V' u) : qAt P C CR o a V' :=
  fun w hw => ⟨(h w hw).1, fun u hu => hv u ((h w hw).2 u hu)⟩
theorem qOp_mono' {i : Nat} {K K' : Act → Prop} {a : Act} (hk : ∀ a, K a → K' a) (h : qOp P C CR ops i K a) : qOp P C CR ops i K' a := by
  unfold qOp at *
  split
  · rename_i ho; simp only [ho] at h; exact hk _ h
  · rename_i o ho
    simp only [ho] at h
    split
    · rename_i hw; rw [if_pos hw] at h; exact qAt_mono h fun u hu => hk _ hu
    · rename_i hw; rw [if_neg hw] at h; exact hk _ h

theorem qOp_some {i : Nat} {o : Oper} {K : Act → Prop} {a : Act} (ho : ops[i]? = some o) :
    qOp P C CR ops i K a = if Region.wanted o (yielded ops a.tmps) then qAt P C CR o a fun u => K (a.put o.dst u) else K (a.put o.dst undef) := by
  unfold qOp; simp only [ho]

/-- two operations that are apart change places -/
theorem qOp_swap (hC : ∃ w, C w) {i j : Nat} {oi oj : Oper} (hi : ops[i]? = some oi) (hj : ops[j]? = some oj) (hap : oi.apart ops oj = true)
    (hsi : ∀ cs b, oi.op ≠ .select cs b) (hsj : ∀ cs b, oj.op ≠ .select cs b) {K : Act → Prop} {a : Act}
    (h : qOp P C CR ops i (fun a' => qOp P C CR ops j K a') a) : qOp P C CR ops j (fun a' => qOp P C CR ops i K a') a := by
  obtain ⟨h1, h2, h3⟩ := Oper.apart_spec hap
  obtain ⟨w0, hw0⟩ := hC
  have ei : ∀ u, execOp (a.put oj.dst u).eval oi = execOp a.eval oi := fun u => execOp_put oi hsi a oj.dst u h3
  have ej : ∀ u, execOp (a.put oi.dst u).eval oj = execOp a.eval oj := fun u => execOp_put oj hsj a oi.dst u h1
  have wi : ∀ u, Region.wanted oi (yielded ops (a.put oj.dst u).tmps) = Region.wanted oi (yielded ops a.tmps) := fun u => wanted_put oi a oj.dst u h3
  have wj : ∀ u, Region.wanted oj (yielded ops (a.put oi.dst u).tmps) = Region.wanted oj (yielded ops a.tmps) := fun u => wanted_put oj a oi.dst u h1
  have cm : ∀ u v, (a.put oj.dst u).put oi.dst v = (a.put oi.dst v).put oj.dst u := fun u v => (Act.put_comm a v u h2).symm
  simp only [qOp_some hi, qOp_some hj, wi, wj] at h ⊢
  split at h
  · rename_i hwi
    simp only [hwi, if_true]
    split at h
    · rename_i hwj
      simp only [hwj, if_true]
      intro w2 hw2
      have hA : qA P C CR ((execOp a.eval oj).run P w2) := by
        obtain ⟨u, hu⟩ := qS_ne (h w0 hw0).1
        have := ((h w0 hw0).2 u hu w2 hw2).1
        rwa [ej] at this
      refine ⟨hA, fun uj huj w hw => ?_⟩
      refine ⟨by rw [ei]; exact (h w hw).1, fun ui hui => ?_⟩
      rw [ei] at hui
      have := ((h w hw).2 ui hui w2 hw2).2 uj (by rw [ej]; exact huj)
      rw [cm]; exact this
    · rename_i hwj
      rw [if_neg hwj]
      intro w hw
      rw [ei]
      refine ⟨(h w hw).1, fun ui hui => ?_⟩
      show K _
      rw [cm]; exact (h w hw).2 ui hui
  · rename_i hwi
    rw [if_neg hwi]
    split at h
    · rename_i hwj
      rw [if_pos hwj]
      intro w2 hw2
      rw [← ej undef]
      refine ⟨(h w2 hw2).1, fun uj huj => ?_⟩
      dsimp only
      rw [if_neg hwi, cm]; exact (h w2 hw2).2 uj huj
    · rename_i hwj
      rw [if_neg hwj, cm]; exact h

theorem wpR_first (hC : ∃ w, C w) {i : Nat} {oi : Oper} (hi : ops[i]? = some oi) (hsel : ∀ (j : Nat) (o : Oper) cs b, ops[j]? = some o → o.op ≠ .select cs b)
    (hs : Region.sinkB md ops n = true) (hc : Region.chainB md ops n = true) (hn : n < ops.size) (hin : i < n)
    (hdone : ∀ listed a, L listed a → ∀ j ∈ Region.ready md ops listed, n ≤ j)
    (hLd : ∀ (j : Nat) (V : Prop), V → V) :
    ∀ (f : Nat) (listed : Array Bool) (a : Act), HeadInv md ops n listed →
      (∀ j oj, ops[j]? = some oj → j ≠ i → listed.getD j true = false → (∀ e ∈ oj.after, Region.binds md e = true → e.on ≠ i) → oi.apart ops oj = true) →
      i ∈ Region.ready md ops listed →
      qOp P C CR ops i (wpR P C CR ops md n L f (listed.setIfInBounds i true)) a → wpR P C CR ops md n L (f + 1) listed a := by
  intro f
  induction f with
  | zero =>
    intro listed a inv _ hr H
    refine ⟨fun h => (by rw [h] at hr; cases hr), fun j hj => ?_⟩
    have hjn : j < n := by
      rcases Nat.lt_or_ge j n with h | h
      · exact h
      · exact absurd hj (tail_waits hs hc hn inv _ i rfl hin (mem_ready.1 hr).1 j h)
    refine ⟨hjn, ?_⟩
    by_cases hji : j = i
    · subst hji; exact H
    · exfalso
      have hex : ∃ a', L (listed.setIfInBounds i true) a' := by
        rw [qOp_some hi] at H
        split at H
        · obtain ⟨w0, hw0⟩ := hC
          obtain ⟨u, hu⟩ := qS_ne (H w0 hw0).1
          exact ⟨_, (H w0 hw0).2 u hu⟩
        · exact ⟨_, H⟩
      obtain ⟨a', ha'⟩ := hex
      have := hdone _ _ ha' j (ready_mono hj hji)
      omega
  | succ f ih =>
    intro listed a inv hfree hr H
    have hun := (mem_ready.1 hr).1
    refine ⟨fun h => (by rw [h] at hr; cases hr), fun j hj => ?_⟩
    have hjn : j < n := by
      rcases Nat.lt_or_ge j n with h | h
      · exact h
      · exact absurd hj (tail_waits hs hc hn inv _ i rfl hin hun j h)
    refine ⟨hjn, ?_⟩
    by_cases hji : j = i
    · subst hji; exact H
    · obtain ⟨hjun, oj, hoj, hall⟩ := mem_ready.1 hj
      have hnot : ∀ e ∈ oj.after, Region.binds md e = true → e.on ≠ i := fun e he hb heq => by
        have h1 := hall e he hb
        rw [heq, getD_both hun] at h1
        cases h1
      have h1 : qOp P C CR ops i (fun a' => qOp P C CR ops j (wpR P C CR ops md n L f ((listed.setIfInBounds i true).setIfInBounds j true)) a') a :=
        qOp_mono' (fun a' ha' => (ha'.2 j (ready_mono hj hji)).2) H
      have h2 := qOp_swap hC hi hoj (hfree j oj hoj hji hjun hnot) (fun cs b => hsel i oi cs b hi) (fun cs b => hsel j oj cs b hoj) h1
      have hfree' : ∀ k ok, ops[k]? = some ok → k ≠ i → (listed.setIfInBounds j true).getD k true = false →
          (∀ e ∈ ok.after, Region.binds md e = true → e.on ≠ i) → oi.apart ops ok = true := fun k ok hk hki hun hno => by
        refine hfree k ok hk hki ?_ hno
        by_cases hjk : j = k
        · subst hjk; exact hjun
        · rw [getD_set_ne true hjk] at hun; exact hun
      refine qOp_mono' (fun a' h3 => ih (listed.setIfInBounds j true) a' (inv.set hj hjn) hfree' (ready_mono hr (Ne.symm hji)) ?_) h2
      rw [Array.setIfInBounds_comm _ _ hji]
      exact h3

theorem wpR_lex (hC : ∃ w, C w) {g : Nat} {Lq : Act → Prop} (hsel : Region.noSelect ops = true) (hs : Region.sinkB md ops n = true) (hc : Region.chainB md ops n = true) (hn : n < ops.size) :
    ∀ (l : List Oper) (k : Nat) (listed : Array Bool) (a : Act), (∀ j, j < l.length → l[j]? = ops[k + j]?) → k + l.length = n → HeadInv md ops n listed →
    Region.lexHead md ops g l.length k listed = true → qLex P C CR ops Lq l a →
    wpR P C CR ops md n (fun listed' a' => Region.seqB md ops g n listed' = true ∧ Lq a') l.length listed a
  | [], k, listed, a, _, hk, _, hB, h => by
    have : k = n := by simpa using hk
    subst this
    exact ⟨by simpa [Region.lexHead] using hB, h⟩
  | o :: l, k, listed, a, hl, hk, inv, hB, h => by
    have h0 : ops[k]? = some o := by simpa using (hl 0 (by simp)).symm
    simp only [List.length_cons, Region.lexHead, Bool.and_eq_true] at hB
    obtain ⟨⟨hr, hf⟩, hB'⟩ := hB
    have hkn : k < n := by simp only [List.length_cons] at hk; omega
    have hr' : k ∈ Region.ready md ops listed := by simpa using hr
    have hst : qOp P C CR ops k (qLex P C CR ops Lq l) a := by rw [qOp_some h0]; exact h
    exact wpR_first hC h0 (Region.noSelect_spec hsel) hs hc hn hkn (fun listed' a' hL => seqB_ready hL.1) (fun _ _ h => h) l.length listed a inv (Region.free_spec h0 hf) hr'
      (qOp_mono' (fun a' ha' => wpR_lex hC hsel hs hc hn l (k + 1) _ _ (fun j hj => by have := hl (j + 1) (by simp; omega); simpa [Nat.add_assoc, Nat.add_comm 1 j] using this) (by simp only [List.length_cons] at hk; omega) (inv.set hr' hkn) hB' ha') hst)

theorem Oper.wp_of_qAt {o : Oper} {a : Act} {V : Value → Prop} {K' : Act → World → Prop} {Q' : Exit → Act → World → Prop} {w : World} (hw : C w)
    (hk : ∀ u w', C w' → V u → K' (a.put o.dst u) w') (h : qAt P C CR o a V) : o.wp P a w K' Q' := by
  obtain ⟨hA, hS⟩ := h w hw
  unfold Oper.wp
  generalize (execOp a.eval o).run P w = r at *
  unfold qA at hA
  split at hA
  · exact hk _ _ hA (hS _ rfl)
  · exact hk _ _ hA (hS _ rfl)
  · refine hA.2.mono ?_
    rintro e w'' ⟨u, rfl, hu, hw''⟩
    exact hk _ _ hw'' (hS u hu)
  · exact hA.elim

theorem wpAny_of_wpR {g : Nat} {Q' : Exit → Act → World → Prop} (hL : ∀ listed a w, C w → L listed a → wpAny P md ops Q' g listed a w) :
    ∀ (f : Nat) (listed : Array Bool) (a : Act) (w : World), C w → wpR P C CR ops md n L f listed a → wpAny P md ops Q' (f + g) listed a w
  | 0, listed, a, w, hw, h => by rw [Nat.zero_add]; exact hL _ _ _ hw h
  | f + 1, listed, a, w, hw, h => by
    rw [show f + 1 + g = (f + g) + 1 by omega]
    refine ⟨fun h0 => absurd h0 h.1, fun i hi => ?_⟩
    have h2 := (h.2 i hi).2
    unfold wpOp
    split
    · rename_i ho
      unfold qOp at h2; simp only [ho] at h2
      exact wpAny_of_wpR hL f _ _ _ hw h2
    · rename_i o ho
      rw [qOp_some ho] at h2
      split
      · rename_i hwt
        rw [if_pos hwt] at h2
        exact .inl (Oper.wp_of_qAt hw (fun u w' hw' hv => wpAny_of_wpR hL f _ _ _ hw' hv) h2)
      · rename_i hwt
        rw [if_neg hwt] at h2
        exact wpAny_of_wpR hL f _ _ _ hw h2

theorem wp_region_rel {id : Nat} {Q : Exit → Act → World → Prop} {a : Act} {w : World} {l : List Oper} (n : Nat) (hm : P.follows .mixedOrders = true) (hB : Region.lexTailB .any l.toArray n = true)
    (hC : C { w with drawn := w.drawn + 1 })
    (h : qLex P C CR l.toArray (fun a' => ∀ w', C w' → wpList P l.toArray Q (l.drop n) a' w') (l.take n) a) : (Code.region id l.toArray true).wp P Q a w := by
  simp only [Region.lexTailB, Bool.and_eq_true, decide_eq_true_eq] at hB
  obtain ⟨⟨⟨⟨hsel, hn⟩, hs⟩, hc⟩, hlex⟩ := hB
  have hn' : n < l.length := by simpa using hn
  have htl : (l.take n).length = n := by simp; omega
  have hdl : (l.drop n).length = l.toArray.size - n := by simp
  have inv0 : HeadInv .any l.toArray n (Array.replicate l.toArray.size false) :=
    ⟨by simp, fun j oj _ hl => (by rw [getD_replicate_false] at hl; cases hl), fun t _ ht => getD_in (by simpa using ht) (getD_replicate_false _ _)⟩
  have H := wpR_lex ⟨_, hC⟩ (md := .any) (g := l.toArray.size - n) hsel hs hc hn (l.take n) 0 _ a (fun j hj => by
    have hj' : j < n := by rw [htl] at hj; exact hj
    simp [hj']) (by simpa using htl) inv0 (by rw [htl]; exact hlex) h
  refine wp_region_any hm ?_
  have := wpAny_of_wpR (Q' := Q) (g := l.toArray.size - n) (fun listed a' w' hw' hL => by
    have := wpAny_of_seq (md := .any) (Q' := Q) (l.drop n) n listed a' w' (fun j => by simp [List.getElem?_drop]) (by rw [hdl]; exact hL.1) (hL.2 w' hw')
    rwa [hdl] at this) _ _ _ _ hC H
  rw [htl, show n + (l.toArray.size - n) = l.toArray.size by omega] at this
  exact this
end

/-! ### The same over frames as functions -/
/-- a transformer that forgets the world -/
def ign (V : Value → Prop) : Value → World → Prop := fun v _ => V v
def dw : World := default
def unQ (op : UnOp) (x : Value) (V : Value → Prop) : Prop :=
  match op, x with
  | .not, .bool b => V (.bool !b)
  | .neg, .float k b => V (.float k (Op.negFloat k b))
  | .neg, .int k n => V (.int k (k.wrap (0 - n)))
  | _, _ => False
def binQ (op : BinOp) (x y : Value) (V : Value → Prop) : Prop :=
  match x, y with
  | .int k a, .int k' b => binInts (isShift op) (kEq k k') op k a b dw (ign V)
  | .float k a, .float k' b => binFloats (fEq k k') op k a b dw (ign V)
  | .string a, .string b => binStr op a b dw (ign V)
  | _, _ => False
def cvQ (d : Option TypeDesc) (x : Value) (V : Value → Prop) : Prop :=
  match d, x with
  | some (.int k), .int _ n => V (.int k (k.wrap n))
  | some (.float k), .int _ n => V (.float k (k.nearest n))
  | _, _ => False
def cvQIf (b : Bool) (d : Option TypeDesc) (x : Value) (V : Value → Prop) : Prop :=
  match b with
  | true => cvQ d x V
  | false => False
def builtQ (P : Program) (b : Builtin) (ts : List TypeId) (args : List Value) (V : Value → Prop) : Prop :=
  match b, args with
  | .len, [x] => match ts with
    | tx :: _ => lenW (shp P tx) x dw (ign V)
    | [] => False
  | .real, [.complex k a _] => V (.float k a)
  | .imag, [.complex k _ b] => V (.float k b)
  | .complex, [.float k a, .float k' b] => cplxW (fEq k k') k a b dw (ign V)
  | .min, [a, b] => min2W a b dw (ign V)
  | .max, [a, b] => max2W a b dw (ign V)
  | _, _ => False
def callQ (P : Program) (C : World → Prop) (CR : FuncId → List Value → Value → Prop) (f : Value) (args : List Value) (V : Value → Prop) : Prop :=
  match f with
  | .func (.func g) first captured => (∀ w, C w → Ct P g (argsW first.toList args captured.toList).toArray w fun u w' => CR g (argsW first.toList args captured.toList) u ∧ C w') ∧
      ∀ u, CR g (argsW first.toList args captured.toList) u → V u
  | _ => False
def loadQ (P : Program) (C : World → Prop) (t : TypeId) (a : Value) (V : Value → Prop) : Prop :=
  match a with
  | .pointer (some ad) => ∃ v, (∀ w, C w → (loadVar t ad).run P w = .ok v w) ∧ V v
  | _ => False
def opQ (P : Program) (C : World → Prop) (CR : FuncId → List Value → Value → Prop) (e : Env) (o : Op) (V : Value → Prop) : Prop :=
  match o with
  | .move x => V (ev e x)
  | .assign x => V (ev e x)
  | .pick c a b => pickW (ev e c) (ev e a) (ev e b) dw (ign V)
  | .load t a => loadQ P C t (ev e a) V
  | .nilCheck x => nilW (ev e x) dw (ign V)
  | .binOp op _ x y _ => binQ op (ev e x) (ev e y) V
  | .unOp op _ x => unQ op (ev e x) V
  | .convert src dst x => cvQIf (P.underlying src).isSome (P.underlying dst) (ev e x) V
  | .fieldAddr s x f => faddrW (fOff P s f) (ev e x) dw (ign V)
  | .indexAddr t x ix => ixW (shp P t) (ev e x) (ev e ix) dw (ign V)
  | .slice t x lo hi mx => ∃ v, (∀ w, (Instr.sliceAt t (ev e x) (evo e lo) (evo e hi) (evo e mx)).run P w = .ok v w) ∧ V v
  | .extract t ix => extW (ev e t) ix dw (ign V)
  | .call c => match c.callee with
    | .builtin b => builtQ P b c.argTypes.toList (evs e c.args.toList) V
    | .value f => callQ P C CR (ev e f) (evs e c.args.toList) V
    | .invoke _ _ => False
  | _ => False

def QL (P : Program) (C : World → Prop) (CR : FuncId → List Value → Value → Prop) (ops : List Oper) : List Oper → (Env → Prop) → Env → Prop
  | [], K, e => K e
  | o :: rest, K, e => match o.guard with
    | none => opQ P C CR e o.op fun v => QL P C CR ops rest K (putE e o.dst v)
    | some (j, want) => match asB (yv ops j e) == some want with
      | true => opQ P C CR e o.op fun v => QL P C CR ops rest K (putE e o.dst v)
      | false => QL P C CR ops rest K (putE e o.dst undef)
def QLk (P : Program) (C : World → Prop) (CR : FuncId → List Value → Value → Prop) (ops rest : List Oper) (K : Env → Prop) (e : Env) (d : Option Nat) (v : Value) : Prop := QL P C CR ops rest K (putE e d v)
def gdQ (g : Value) (want : Bool) (P : Program) (C : World → Prop) (CR : FuncId → List Value → Value → Prop) (ops : List Oper) (op : Op) (rest : List Oper) (K : Env → Prop) (e : Env) (d : Option Nat) : Prop :=
  match asB g == some want with
  | true => opQ P C CR e op (QLk P C CR ops rest K e d)
  | false => QL P C CR ops rest K (putE e d undef)

section
variable {P : Program} {C : World → Prop} {CR : FuncId → List Value → Value → Prop}

/-- a value that comes in every world of the class, of one relation -/
theorem qU_value {s : Sem Value} {w : World} {V : Value → Prop} (hCd : ∀ w n, C w → C (w.drewN n)) (hw : C w) (h : runW P s w fun v w' => (∃ n, w' = w.drewN n) ∧ V v) :
    qU P C CR ((do pure (Next.value (← s)) : Sem Next).run P w) V := by
  obtain ⟨v, w', hr, ⟨n, rfl⟩, hv⟩ := h
  simp only [Sem.run_bind, hr, Result.andThen_ok, Sem.run_pure]
  exact ⟨hCd w n hw, fun u hu => by cases hu; exact hv⟩

theorem binInts_ign {sh ke : Bool} {op : BinOp} {k : IntKind} {x y : Int} {w w' : World} {V : Value → Prop} {K : Value → World → Prop} (hk : ∀ v, V v → K v w') (h : binInts sh ke op k x y w (ign V)) : binInts sh ke op k x y w' K := by
  unfold binInts at *
  split at h
  · unfold shiftInt at *
    split at h
    · exact ⟨h.1, hk _ h.2⟩
    · exact ⟨h.1, hk _ h.2⟩
    · exact h.elim
  · unfold binInt at *
    split at h <;> first | exact h.elim | exact hk _ h | exact ⟨h.1, hk _ h.2⟩ | exact fun b hb => hk _ (h b hb)
  · exact h.elim
theorem binFloats_ign {fe : Bool} {op : BinOp} {k : FloatKind} {x y : Nat} {w w' : World} {V : Value → Prop} {K : Value → World → Prop} (hk : ∀ v n, V v → K v (w'.drewN n)) (h : binFloats fe op k x y w (ign V)) : binFloats fe op k x y w' K := by
  unfold binFloats at *
  split at h
  · unfold binFloat at *
    split at h <;> first | exact h.elim | exact fun r n hr => hk _ n (h r 0 hr) | exact fun b hb => hk _ 0 (h b hb)
  · exact h.elim
theorem binStr_ign {op : BinOp} {x y : ByteArray} {w w' : World} {V : Value → Prop} {K : Value → World → Prop} (hk : ∀ v, V v → K v w') (h : binStr op x y w (ign V)) : binStr op x y w' K := by
  unfold binStr at *
  split at h <;> first | exact h.elim | exact ⟨h.1, hk _ h.2⟩ | exact fun b hb => hk _ (h b hb)

theorem opQ_sound {e : Env} {o : Oper} {V : Value → Prop} (hCd : ∀ w n, C w → C (w.drewN n)) (h : opQ P C CR e o.op V) : ∀ w, C w → qU P C CR ((execOp (ev e) o).run P w) V := by
  intro w hw
  have val : ∀ {s : Sem Value}, runW P s w (fun v w' => (∃ n, w' = w.drewN n) ∧ V v) → qU P C CR ((do pure (Next.value (← s)) : Sem Next).run P w) V := fun h => qU_value hCd hw h
  have now : ∀ {v : Value}, V v → qU P C CR (.ok (.value v) w) V := fun hv => ⟨hw, fun u hu => by cases hu; exact hv⟩
  have kk : ∀ v, V v → (∃ n, w = w.drewN n) ∧ V v := fun v hv => ⟨⟨0, rfl⟩, hv⟩
  unfold opQ at h
  unfold execOp
  split at h
  · rename_i x ho; simp only [ho]; exact now h
  · rename_i x ho; simp only [ho]; exact now h
  · rename_i c a b ho
    simp only [ho]
    unfold pickW at h
    split at h
    · rename_i hc; simp only [hc, asBool, pure_bind, if_true]; exact now h
    · rename_i hc; simp only [hc, asBool, pure_bind]; exact now h
    · exact h.elim
  · rename_i t a ho
    simp only [ho]
    unfold loadQ at h
    split at h
    · rename_i ad ha
      obtain ⟨v, hr, hk⟩ := h
      refine val ⟨v, w, ?_, kk v hk⟩
      simp only [ha, Instr.loadAt, Instr.sureAddr, pure_bind, hr w hw]
    · exact h.elim
  · rename_i x ho
    simp only [ho]
    unfold nilW at h
    split at h
    · rename_i ad ha; simp only [ha]; exact now h
    · exact h.elim
  · rename_i op t x y yt ho
    simp only [ho]
    refine val (binW_sound ?_)
    unfold binQ at h
    unfold binW
    split at h
    · rename_i hx hy; simp only [hx, hy]; exact binInts_ign (fun v hv => kk v hv) h
    · rename_i hx hy; simp only [hx, hy]; exact binFloats_ign (fun v n hv => ⟨⟨n, rfl⟩, hv⟩) h
    · rename_i hx hy; simp only [hx, hy]; exact binStr_ign (fun v hv => kk v hv) h
    · exact h.elim
  · rename_i op t x ho
    simp only [ho]
    refine val (unW_sound ?_)
    unfold unQ at h
    unfold unW
    split at h
    · rename_i hx; simp only [hx]; exact kk _ h
    · rename_i hx; simp only [hx]; exact kk _ h
    · rename_i hx; simp only [hx]; exact kk _ h
    · exact h.elim
  · rename_i src dst x ho
    simp only [ho]
    cases hs : (P.underlying src).isSome with
    | false => rw [hs] at h; exact h.elim
    | true =>
      rw [hs] at h
      refine val (cvW_sound hs ?_)
      change cvQ (P.underlying dst) (ev e x) V at h
      unfold cvQ at h
      unfold cvW
      split at h
      · rename_i hd hx; simp only [hd, hx]; exact kk _ h
      · rename_i hd hx; simp only [hd, hx]; exact kk _ h
      · exact h.elim
  · rename_i s x f ho
    simp only [ho]
    unfold faddrW at h
    split at h
    · rename_i off ad hoff ha
      refine val ⟨_, _, ?_, kk _ h⟩
      rw [ha]; exact fOff_sound hoff ad w
    · exact h.elim
  · rename_i t x ix ho
    simp only [ho]
    refine val (ixW_sound ?_)
    unfold ixW at h ⊢
    split at h
    · exact ⟨h.1, kk _ h.2⟩
    · exact ⟨h.1, kk _ h.2⟩
    · exact h.elim
  · rename_i t x lo hi mx ho
    simp only [ho]
    rw [evo_eq, evo_eq, evo_eq] at h
    obtain ⟨v, hr, hv⟩ := h
    exact val ⟨v, w, hr w, kk v hv⟩
  · rename_i t ix ho
    simp only [ho]
    unfold extW at h
    split at h
    · rename_i vs hv
      obtain ⟨v, hvx, hk⟩ := h
      refine val ⟨v, w, ?_, kk v hk⟩
      simp [Instr.extract, hv, hvx]
    · exact h.elim
  · rename_i c ho
    simp only [ho]
    split at h
    · rename_i b hb
      simp only [resolve, hb, pure_bind, invoke]
      rw [evs_eq] at h
      have hb2 : builtW P b c.argTypes.toList o.type (c.args.map (ev e)).toList w (fun v w' => (∃ n, w' = w.drewN n) ∧ V v) := by
        rw [Array.toList_map]
        unfold builtQ at h
        split at h
        · rename_i x hx
          split at h
          · rename_i tx rest hts
            rw [hx, hts, r_len]
            unfold lenW at h ⊢
            split at h
            · exact kk _ h
            · exact kk _ h
            · exact kk _ h
            · exact h.elim
          · exact h.elim
        · rename_i hx; rw [hx]; exact kk _ h
        · rename_i hx; rw [hx]; exact kk _ h
        · rename_i hx; rw [hx, r_cplx]
          unfold cplxW at h ⊢
          split at h
          · exact kk _ h
          · exact h.elim
        · rename_i a b' hx; rw [hx, r_min]
          unfold min2W at h ⊢
          split at h
          · unfold minF at h ⊢
            split at h
            · exact fun r n hr => ⟨⟨n, rfl⟩, h r 0 hr⟩
            · exact h.elim
          · exact kk _ h
          · exact h.elim
        · rename_i a b' hx; rw [hx, r_max]
          unfold max2W at h ⊢
          split at h
          · unfold maxF at h ⊢
            split at h
            · exact fun r n hr => ⟨⟨n, rfl⟩, h r 0 hr⟩
            · exact h.elim
          · exact kk _ h
          · exact h.elim
        · exact h.elim
      have key : ∀ cs, qU P C CR ((builtin b c.argTypes o.type cs (c.args.map (ev e))).run P w) V := by
        intro cs
        obtain ⟨v, w', hr, ⟨n, rfl⟩, hv⟩ := builtW_val (cs := cs) hb2
        rw [hr]
        exact ⟨hCd w n hw, fun u hu => by cases hu; exact hv⟩
      exact key _
    · rename_i f hf
      simp only [resolve, hf]
      rw [evs_eq] at h
      unfold callQ at h
      split at h
      · rename_i g first captured hv
        obtain ⟨hc, hV⟩ := h
        have hl : (argsW first.toList (c.args.toList.map (ev e)) captured.toList).toArray = first ++ c.args.map (ev e) ++ captured := by
          rw [argsW_eq, ← Array.toList_map, ← Array.toList_append, ← Array.toList_append]
        have hc' := hc w hw
        rw [hl] at hc'
        rcases hc' with hc' | ⟨v, w', hr, hk, hcw⟩
        · have hr := run_callFunc_body (P := P) (args := first ++ c.args.map (ev e) ++ captured) (w := w) hc'.1
          simp only [hv, Deferred.ofValue, invoke, Sem.run_bind, Sem.run_pure, Result.andThen_ok, hr]
          have hl2 : (first ++ c.args.map (ev e) ++ captured).toList = argsW first.toList (c.args.toList.map (ev e)) captured.toList := by rw [← hl]
          refine ⟨⟨hw, ?_⟩, ?_⟩
          · rw [hl2]; exact hc'.2
          · intro u hu
            change CR g (first ++ c.args.map (ev e) ++ captured).toList u at hu
            rw [hl2] at hu; exact hV u hu
        · simp only [hv, Deferred.ofValue, invoke, Sem.run_bind, Sem.run_pure, Result.andThen_ok, hr]
          exact ⟨hcw, fun u hu => by cases hu; exact hV _ hk⟩
      · exact h.elim
    · exact h.elim
  · exact h.elim

theorem QL_sound {n : Nat} {ops : List Oper} (hCd : ∀ w n, C w → C (w.drewN n)) (hall : (ops.all (dstIn n)) = true) {K : Env → Prop} :
    ∀ (l : List Oper), (l.all (dstIn n)) = true → ∀ (e : Env) (a : Act), Rep n e a → QL P C CR ops l K e → qLex P C CR ops.toArray (fun a => ∃ e, Rep n e a ∧ K e) l a
  | [], _, e, a, hr, h => ⟨e, hr, h⟩
  | o :: rest, hl, e, a, hr, h => by
    simp only [List.all_cons, Bool.and_eq_true] at hl
    have ih := QL_sound (K := K) hCd hall rest hl.2
    have hput : ∀ v, Rep n (putE e o.dst v) (a.put o.dst v) := fun v => hr.put o.dst v (by have := hl.1; unfold dstIn at this; exact this)
    have hop : ∀ {V : Value → Prop}, opQ P C CR e o.op V → qAt P C CR o a V := fun hh w hw => by rw [hr.eval]; exact opQ_sound hCd hh w hw
    unfold QL at h
    unfold qLex
    split at h
    · rename_i hg
      rw [if_pos (by simp [Region.wanted, hg])]
      exact qAt_mono (hop h) fun u hu => ih _ _ (hput u) hu
    · rename_i j want hg
      have hy := yielded_yv hr ops hall j
      split at h
      · rename_i hw
        rw [if_pos (by simp only [Region.wanted, hg, hy]; exact hw)]
        exact qAt_mono (hop h) fun u hu => ih _ _ (hput u) hu
      · rename_i hw
        rw [if_neg (by simp only [Region.wanted, hg, hy, hw]; exact Bool.false_ne_true)]
        exact ih _ _ (hput undef) h

/-- the rule: the first n operations in the text's order, for whatever values they may yield; then the tail in order, in whatever later world -/
theorem draw_rule (n : Nat) (CR : FuncId → List Value → Value → Prop) {id : Nat} {l : List Oper} {Q : Exit → Env → World → Prop} {e : Env} {w : World}
    (hm : P.follows .mixedOrders = true) (hB : Region.lexTailB .any l.toArray n = true)
    (h : QL P (Bl w) CR l (l.take n) (fun e' => ∀ w', Bl w w' → WL P l (l.drop n) (Q .normal) e' w') e) : DrawW P id l.toArray Q e w := by
  intro m a Q' hf hr hq
  have hf' : (l.all (dstIn m)) = true := by simpa using hf
  have hCd : ∀ (w1 : World) (n : Nat), Bl w w1 → Bl w (w1.drewN n) := fun w1 n h => h.trans (Bl.drewN w1 n)
  refine wp_region_rel (C := Bl w) (CR := CR) n hm hB (Bl.drewN w 1) ?_
  have h1 := QL_sound (C := Bl w) (CR := CR) hCd hf' (l.take n) (by rw [List.all_eq_true] at *; exact fun x hx => hf' x (List.mem_of_mem_take hx)) e a hr h
  have mono : ∀ (Lq Lq' : Act → Prop), (∀ a, Lq a → Lq' a) → ∀ (l' : List Oper) (a : Act), qLex P (Bl w) CR l.toArray Lq l' a → qLex P (Bl w) CR l.toArray Lq' l' a := by
    intro Lq Lq' hL l'
    induction l' with
    | nil => exact fun a h => hL a h
    | cons o rest ih =>
      intro a h
      unfold qLex at h ⊢
      split
      · rename_i hw; rw [if_pos hw] at h; exact qAt_mono h fun u hu => ih _ hu
      · rename_i hw; rw [if_neg hw] at h; exact ih _ h
  refine mono _ _ ?_ _ _ h1
  rintro a' ⟨e', hr', hK⟩ w' hw'
  exact WL_sound hf' (fun e a w hr hk => hq .normal e w a hr hk) (l.drop n) (by rw [List.all_eq_true] at *; exact fun x hx => hf' x (List.mem_of_mem_drop hx)) e' a' w' hr' (hK w' hw')
end

/-! ### Monotone: a cut where ways meet again -/
theorem runW_mono {P : Program} {s : Sem Value} {w : World} {K K' : Value → World → Prop} (h : ∀ v w, K v w → K' v w) (hh : runW P s w K) : runW P s w K' :=
  let ⟨v, w', hr, hk⟩ := hh; ⟨v, w', hr, h _ _ hk⟩
theorem binInts_mono {sh ke : Bool} {op : BinOp} {k : IntKind} {x y : Int} {w : World} {K K' : Value → World → Prop} (hk : ∀ v w, K v w → K' v w) (h : binInts sh ke op k x y w K) : binInts sh ke op k x y w K' := by
  unfold binInts at *
  split at h
  · unfold shiftInt at *
    split at h
    · exact ⟨h.1, hk _ _ h.2⟩
    · exact ⟨h.1, hk _ _ h.2⟩
    · exact h.elim
  · unfold binInt at *
    split at h <;> first | exact h.elim | exact hk _ _ h | exact ⟨h.1, hk _ _ h.2⟩ | exact fun b hb => hk _ _ (h b hb)
  · exact h.elim
theorem binFloats_mono {fe : Bool} {op : BinOp} {k : FloatKind} {x y : Nat} {w : World} {K K' : Value → World → Prop} (hk : ∀ v w, K v w → K' v w) (h : binFloats fe op k x y w K) : binFloats fe op k x y w K' := by
  unfold binFloats at *
  split at h
  · unfold binFloat at *
    split at h <;> first | exact h.elim | exact fun r n hr => hk _ _ (h r n hr) | exact fun b hb => hk _ _ (h b hb)
  · exact h.elim
theorem builtW_mono {P : Program} {b : Builtin} {ts : List TypeId} {t : TypeId} {args : List Value} {w : World} {K K' : Value → World → Prop} (hk : ∀ v w, K v w → K' v w) (h : builtW P b ts t args w K) : builtW P b ts t args w K' := by
  unfold builtW at *
  split at h
  · split at h
    · unfold lenW at *; split at h <;> first | exact hk _ _ h | exact h.elim
    · exact h.elim
  · exact hk _ _ h
  · exact hk _ _ h
  · unfold cplxW at *; split at h
    · exact hk _ _ h
    · exact h.elim
  · exact runW_mono hk h
  · exact runW_mono hk h
  · unfold min2W at *; split at h
    · unfold minF at *; split at h
      · exact fun r n hr => hk _ _ (h r n hr)
      · exact h.elim
    · exact hk _ _ h
    · exact h.elim
  · unfold max2W at *; split at h
    · unfold maxF at *; split at h
      · exact fun r n hr => hk _ _ (h r n hr)
      · exact h.elim
    · exact hk _ _ h
    · exact h.elim
  · exact runW_mono hk h
  · exact runW_mono hk h
  · exact h.elim
theorem opW_mono {P : Program} {e : Env} {o : Op} {ty : TypeId} {w : World} {K K' : Value → World → Prop} (hk : ∀ v w, K v w → K' v w) (h : opW P e o ty w K) : opW P e o ty w K' := by
  unfold opW at *
  split at h
  · exact hk _ _ h
  · exact hk _ _ h
  · unfold pickW at *; split at h <;> first | exact hk _ _ h | exact h.elim
  · unfold allocW at *; split at h <;> first | exact hk _ _ h | exact h.elim
  · exact hk _ _ h
  · obtain ⟨c, hc, h⟩ := h; exact ⟨c, hc, hk _ _ h⟩
  · exact runW_mono hk h
  · unfold loadW at *; split at h
    · obtain ⟨v, hr, h⟩ := h; exact ⟨v, hr, hk _ _ h⟩
    · exact h.elim
  · unfold storeW at *; split at h
    · obtain ⟨v, hr, h⟩ := h; exact ⟨v, hr, hk _ _ h⟩
    · exact h.elim
  · unfold nilW at *; split at h <;> first | exact hk _ _ h | exact h.elim
  · unfold binW at *
    split at h
    · exact binInts_mono hk h
    · exact binFloats_mono hk h
    · unfold binStr at *; split at h <;> first | exact h.elim | exact ⟨h.1, hk _ _ h.2⟩ | exact fun b hb => hk _ _ (h b hb)
    · exact runW_mono hk h
  · unfold unW at *; split at h <;> first | exact hk _ _ h | exact runW_mono hk h
  · unfold cvIf at *; split at h
    · unfold cvW at *; split at h <;> first | exact hk _ _ h | exact runW_mono hk h
    · exact h.elim
  · exact hk _ _ h
  · exact runW_mono hk h
  · exact runW_mono hk h
  · unfold faddrW at *; split at h <;> first | exact hk _ _ h | exact h.elim
  · exact runW_mono hk h
  · unfold ixW at *; split at h <;> first | exact ⟨h.1, hk _ _ h.2⟩ | exact h.elim
  · exact runW_mono hk h
  · unfold extW at *; split at h
    · obtain ⟨v, hr, h⟩ := h; exact ⟨v, hr, hk _ _ h⟩
    · exact h.elim
  · exact runW_mono hk h
  · exact runW_mono hk h
  · split at h
    · exact builtW_mono hk h
    · unfold callW at *; split at h
      · exact Ct.mono h hk
      · exact h.elim
    · exact h.elim
  · exact h.elim
theorem WL_mono {P : Program} {ops : List Oper} {K K' : Env → World → Prop} (hk : ∀ e w, K e w → K' e w) : ∀ (l : List Oper) (e : Env) (w : World), WL P ops l K e w → WL P ops l K' e w
  | [], e, w, h => hk e w h
  | o :: rest, e, w, h => by
    unfold WL at *
    split at h
    · exact opW_mono (fun v w' hv => WL_mono hk rest _ _ hv) h
    · split at h
      · exact opW_mono (fun v w' hv => WL_mono hk rest _ _ hv) h
      · exact WL_mono hk rest _ _ h
theorem thenW_mono {K K' : Env → World → Prop} {Q Q' : Exit → Env → World → Prop} (hk : ∀ e w, K e w → K' e w) (hq : ∀ x e w, Q x e w → Q' x e w) : ∀ x e w, thenW K Q x e w → thenW K' Q' x e w := by
  intro x e w h
  cases x <;> first | exact hk _ _ h | exact hq _ _ _ h
theorem W_mono {P : Program} : ∀ (c : Code) {Q Q' : Exit → Env → World → Prop}, (∀ x e w, Q x e w → Q' x e w) → ∀ (e : Env) (w : World), W P c Q e w → W P c Q' e w
  | .skip, _, _, hq, e, w, h => hq _ _ _ h
  | .region id ops draw, Q, Q', hq, e, w, h => by
    cases draw with
    | false => exact WL_mono (fun e w h => hq _ _ _ h) _ e w h
    | true => exact fun n a Q1 hf hr hh => h n a Q1 hf hr fun x e' w' a' hr' hx => hh x e' w' a' hr' (hq _ _ _ hx)
  | .seq a b, Q, Q', hq, e, w, h => W_mono a (thenW_mono (fun e w h => W_mono b hq e w h) hq) e w h
  | .cond c a b, Q, Q', hq, e, w, h => by
    simp only [W] at h ⊢
    split at h
    · exact W_mono a hq e w h
    · exact W_mono b hq e w h
    · exact h.elim
  | .block id a, Q, Q', hq, e, w, h => by
    refine W_mono a ?_ e w h
    intro x e' w' hx
    cases x with
    | exit i =>
      change (bif i == id then Q .normal e' w' else Q (.exit i) e' w') at hx
      change (bif i == id then Q' .normal e' w' else Q' (.exit i) e' w')
      cases hb : (i == id) <;> rw [hb] at hx
      · exact hq _ _ _ hx
      · exact hq _ _ _ hx
    | normal => exact hq _ _ _ hx
    | goto i => exact hq _ _ _ hx
    | ret => exact hq _ _ _ hx
    | panic i => exact hq _ _ _ hx
    | outgrown => exact hq _ _ _ hx
  | .loop a, Q, Q', hq, e, w, h => by
    obtain ⟨σ, fr, I, m, h0, hs⟩ := h
    exact ⟨σ, fr, I, m, h0, fun s w' e' hI => W_mono a (thenW_mono (fun _ _ h => h) hq) _ _ (hs s w' e' hI)⟩
  | .exit _, _, _, hq, _, _, h => hq _ _ _ h
  | .ret, _, _, hq, _, _, h => hq _ _ _ h
  | .rangeFunc _ _ _ _, _, _, _, _, _, h => h.elim
  | .scope _, _, _, _, _, _, h => h.elim
  | .label _, _, _, _, _, _, h => h.elim
  | .goto _, _, _, _, _, _, h => h.elim
  | .refuse _, _, _, _, _, _, h => h.elim

/-- a cut behind an 'if': a state tells the slots that stay known -/
theorem cut_cond {P : Program} {c : Value} {a b : Code} {K : Env → World → Prop} {Q : Exit → Env → World → Prop} {e : Env} {w : World} {σ : Type} (fr : σ → List (Nat × Value)) (I : σ → World → Prop)
    (h : condW c P a b (thenW (fun e w => ∃ s, agrees e (fr s) ∧ I s w) Q) e w) (hk : ∀ s e w, I s w → K (over (fr s) e) w) : condW c P a b (thenW K Q) e w := by
  have mono : ∀ x e w, thenW (fun e w => ∃ s, agrees e (fr s) ∧ I s w) Q x e w → thenW K Q x e w :=
    thenW_mono (fun e w ⟨s, ha, hI⟩ => by have := hk s e w hI; rwa [over_agrees ha] at this) (fun _ _ _ h => h)
  unfold condW at *
  split at h
  · exact W_mono a mono e w h
  · exact W_mono b mono e w h
  · exact h.elim
/-- the same behind a block -/
theorem cut_W {P : Program} {a : Code} {id : Nat} {K : Env → World → Prop} {Q : Exit → Env → World → Prop} {e : Env} {w : World} {σ : Type} (fr : σ → List (Nat × Value)) (I : σ → World → Prop)
    (h : W P a (blockW id (thenW (fun e w => ∃ s, agrees e (fr s) ∧ I s w) Q)) e w) (hk : ∀ s e w, I s w → K (over (fr s) e) w) : W P a (blockW id (thenW K Q)) e w := by
  have mono : ∀ x e w, thenW (fun e w => ∃ s, agrees e (fr s) ∧ I s w) Q x e w → thenW K Q x e w :=
    thenW_mono (fun e w ⟨s, ha, hI⟩ => by have := hk s e w hI; rwa [over_agrees ha] at this) (fun _ _ _ h => h)
  exact W_mono (P := P) (.block id a) mono e w h
/-- a loop: a state tells the slots that stay known; the measure falls -/
theorem loop_W {P : Program} {a : Code} {Q : Exit → Env → World → Prop} {e : Env} {w : World} {σ : Type} (fr : σ → List (Nat × Value)) (I : σ → World → Prop) (m : σ → Nat) (s0 : σ)
    (h0 : agrees e (fr s0)) (hI : I s0 w) (hr : ∀ s w' e', I s w' → W P a (thenW (fun e2 w2 => ∃ s2, agrees e2 (fr s2) ∧ I s2 w2 ∧ m s2 < m s) Q) (over (fr s) e') w') : LoopW (W P a) Q e w :=
  ⟨σ, fr, I, m, ⟨s0, h0, hI⟩, hr⟩
/-- a cut ahead of whatever is left of a list of operations -/
theorem cut_WL {P : Program} {ops l : List Oper} {K : Env → World → Prop} {e : Env} {w : World} {σ : Type} (fr : σ → List (Nat × Value)) (I : σ → World → Prop)
    (h : WL P ops l (fun e w => ∃ s, agrees e (fr s) ∧ I s w) e w) (hk : ∀ s e w, I s w → K (over (fr s) e) w) : WL P ops l K e w :=
  WL_mono (fun e w ⟨s, ha, hI⟩ => by have := hk s e w hI; rwa [over_agrees ha] at this) l e w h

section rules
variable (P : Program) (C : World → Prop) (CR : FuncId → List Value → Value → Prop) (K : Env → Prop) (V : Value → Prop) (e : Env) (w : World) (ops rest : List Oper)
theorem q_ign (v : Value) : ign V v w = V v := (rfl)
theorem q_nil : QL P C CR ops [] K e = K e := (rfl)
theorem q_cons (d : Option Nat) (op : Op) (ty : Nat) (pos : String) (af : Array Edge) : QL P C CR ops (⟨d, op, ty, pos, af, none⟩ :: rest) K e = opQ P C CR e op (QLk P C CR ops rest K e d) := (rfl)
theorem q_consg (d : Option Nat) (op : Op) (ty : Nat) (pos : String) (af : Array Edge) (j : Nat) (want : Bool) : QL P C CR ops (⟨d, op, ty, pos, af, some (j, want)⟩ :: rest) K e = gdQ (yv ops j e) want P C CR ops op rest K e d := (rfl)
theorem q_k (d : Nat) (v : Value) : QLk P C CR ops rest K e (some d) v = QL P C CR ops rest K (upd e d v) := (rfl)
theorem q_k0 (v : Value) : QLk P C CR ops rest K e none v = QL P C CR ops rest K e := (rfl)
theorem q_gtt (op : Op) (d : Option Nat) : gdQ (.bool true) true P C CR ops op rest K e d = opQ P C CR e op (QLk P C CR ops rest K e d) := (rfl)
theorem q_gff (op : Op) (d : Option Nat) : gdQ (.bool false) false P C CR ops op rest K e d = opQ P C CR e op (QLk P C CR ops rest K e d) := (rfl)
theorem q_gtf (op : Op) (d : Nat) : gdQ (.bool true) false P C CR ops op rest K e (some d) = QL P C CR ops rest K (upd e d undef) := (rfl)
theorem q_gft (op : Op) (d : Nat) : gdQ (.bool false) true P C CR ops op rest K e (some d) = QL P C CR ops rest K (upd e d undef) := (rfl)
theorem q_gu (want : Bool) (op : Op) (d : Nat) : gdQ undef want P C CR ops op rest K e (some d) = QL P C CR ops rest K (upd e d undef) := by cases want <;> rfl
theorem q_move (x : Operand) : opQ P C CR e (.move x) V = V (ev e x) := (rfl)
theorem q_assign (x : Operand) : opQ P C CR e (.assign x) V = V (ev e x) := (rfl)
theorem q_pick (c a b : Operand) : opQ P C CR e (.pick c a b) V = pickW (ev e c) (ev e a) (ev e b) dw (ign V) := (rfl)
theorem q_load (t : Nat) (a : Operand) : opQ P C CR e (.load t a) V = loadQ P C t (ev e a) V := (rfl)
theorem q_loadp (t : Nat) (ad : Addr) : loadQ P C t (.pointer (some ad)) V = ∃ v, (∀ w, C w → (loadVar t ad).run P w = .ok v w) ∧ V v := (rfl)
theorem q_nilc (x : Operand) : opQ P C CR e (.nilCheck x) V = nilW (ev e x) dw (ign V) := (rfl)
theorem q_bin (t ty2 : Nat) (op : BinOp) (x y : Operand) : opQ P C CR e (.binOp op t x y ty2) V = binQ op (ev e x) (ev e y) V := (rfl)
theorem q_bin_int (op : BinOp) (k k' : IntKind) (a b : Int) : binQ op (.int k a) (.int k' b) V = binInts (isShift op) (kEq k k') op k a b dw (ign V) := (rfl)
theorem q_bin_float (op : BinOp) (k k' : FloatKind) (a b : Nat) : binQ op (.float k a) (.float k' b) V = binFloats (fEq k k') op k a b dw (ign V) := (rfl)
theorem q_bin_str (op : BinOp) (a b : ByteArray) : binQ op (.string a) (.string b) V = binStr op a b dw (ign V) := (rfl)
theorem q_un (t : Nat) (op : UnOp) (x : Operand) : opQ P C CR e (.unOp op t x) V = unQ op (ev e x) V := (rfl)
theorem q_un_nott : unQ .not (.bool true) V = V (.bool false) := (rfl)
theorem q_un_notf : unQ .not (.bool false) V = V (.bool true) := (rfl)
theorem q_un_negf (k : FloatKind) (b : Nat) : unQ .neg (.float k b) V = V (.float k (Op.negFloat k b)) := (rfl)
theorem q_un_negi (k : IntKind) (n : Int) : unQ .neg (.int k n) V = V (.int k (k.wrap (0 - n))) := (rfl)
theorem q_conv (src dst : Nat) (x : Operand) : opQ P C CR e (.convert src dst x) V = cvQIf (P.underlying src).isSome (P.underlying dst) (ev e x) V := (rfl)
theorem q_cvif (d : Option TypeDesc) (x : Value) : cvQIf true d x V = cvQ d x V := (rfl)
theorem q_cv_int (k k' : IntKind) (n : Int) : cvQ (some (.int k)) (.int k' n) V = V (.int k (k.wrap n)) := (rfl)
theorem q_cv_fl (k : FloatKind) (k' : IntKind) (n : Int) : cvQ (some (.float k)) (.int k' n) V = V (.float k (k.nearest n)) := (rfl)
theorem q_fa (s f : Nat) (x : Operand) : opQ P C CR e (.fieldAddr s x f) V = faddrW (fOff P s f) (ev e x) dw (ign V) := (rfl)
theorem q_ixa (t : Nat) (x ix : Operand) : opQ P C CR e (.indexAddr t x ix) V = ixW (shp P t) (ev e x) (ev e ix) dw (ign V) := (rfl)
theorem q_slice (t : Nat) (x : Operand) (lo hi mx : Option Operand) : opQ P C CR e (.slice t x lo hi mx) V = ∃ v, (∀ w, (Instr.sliceAt t (ev e x) (evo e lo) (evo e hi) (evo e mx)).run P w = .ok v w) ∧ V v := (rfl)
theorem q_ext (t : Operand) (ix : Nat) : opQ P C CR e (.extract t ix) V = extW (ev e t) ix dw (ign V) := (rfl)
theorem q_callb (b : Builtin) (args : List Operand) (ts : List Nat) : opQ P C CR e (.call ⟨.builtin b, args.toArray, ts.toArray⟩) V = builtQ P b ts (evs e args) V := (rfl)
theorem q_callf (f : Operand) (args : List Operand) (ts : Array Nat) : opQ P C CR e (.call ⟨.value f, args.toArray, ts⟩) V = callQ P C CR (ev e f) (evs e args) V := (rfl)
theorem q_len (tx : Nat) (ts : List Nat) (x : Value) : builtQ P .len (tx :: ts) [x] V = lenW (shp P tx) x dw (ign V) := (rfl)
theorem q_real (ts : List Nat) (k : FloatKind) (a b : Nat) : builtQ P .real ts [.complex k a b] V = V (.float k a) := (rfl)
theorem q_imag (ts : List Nat) (k : FloatKind) (a b : Nat) : builtQ P .imag ts [.complex k a b] V = V (.float k b) := (rfl)
theorem q_min (ts : List Nat) (a b : Value) : builtQ P .min ts [a, b] V = min2W a b dw (ign V) := (rfl)
theorem q_max (ts : List Nat) (a b : Value) : builtQ P .max ts [a, b] V = max2W a b dw (ign V) := (rfl)
theorem q_call (g : Nat) (first args captured : List Value) : callQ P C CR (.func (.func g) first.toArray captured.toArray) args V =
    ((∀ w, C w → Ct P g (argsW first args captured).toArray w fun u w' => CR g (argsW first args captured) u ∧ C w') ∧ ∀ u, CR g (argsW first args captured) u → V u) := rfl
theorem q_take0 (l : List Oper) : List.take 0 l = [] := (rfl)
theorem q_takes (n : Nat) (o : Oper) (l : List Oper) : List.take (n + 1) (o :: l) = o :: List.take n l := (rfl)
theorem q_drop0 (l : List Oper) : List.drop 0 l = l := (rfl)
theorem q_drops (n : Nat) (o : Oper) (l : List Oper) : List.drop (n + 1) (o :: l) = List.drop n l := (rfl)
end rules
end Go.Proofs.YtjgpnbchnenbeaaDoor
