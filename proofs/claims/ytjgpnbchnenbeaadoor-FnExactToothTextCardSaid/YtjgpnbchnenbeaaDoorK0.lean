/- Contracts' forms and small tests, for seats without the source of draws; strings. -/
import Derived.Test.YtjgpnbchnenbeaaDoorT
import Derived.Laws.Strings
import Derived.Laws.IdiomStrings
import Derived.Laws.FloatBits
namespace Go.Proofs.YtjgpnbchnenbeaaDoor
set_option linter.unusedSimpArgs false
set_option linter.unusedVariables false
open Go
open Go.RowKit (Below)

/-- a contract's end: this value, the old blocks as they were -/
def Is (v0 : Value) (w : World) : Value → World → Prop := fun v w' => v = v0 ∧ Bl w w'
abbrev fl (x : Nat) : Value := .float .f32 x
abbrev cx (x y : Nat) : Value := .complex .f32 x y
abbrev str (s : ByteArray) : Value := .string s
theorem feq_self' (k : FloatKind) (x : Nat) : feq k x x = !isNan k x := by
  unfold feq
  cases h : isNan k x with
  | true => rw [order_nan (.inl h)]; rfl
  | false =>
    cases hr : k.format.order x x with
    | none =>
      rcases order_none hr with h2 | h2
      · rw [h] at h2; cases h2
      · rw [h] at h2; cases h2
    | some o =>
      have : o = .eq := by
        unfold Ieee.Format.order Ieee.Datum.order at hr
        cases hd : k.format.read x with
        | nan s t => rw [hd] at hr; cases hr
        | infinity s =>
          rw [hd] at hr
          simp only [Option.some.injEq] at hr
          rw [← hr]; exact Nat.compare_eq_eq.2 rfl
        | number s m p =>
          rw [hd] at hr
          simp only [Option.some.injEq] at hr
          rw [← hr]; exact Int.compare_eq_eq.2 rfl
      rw [this]; rfl
theorem fne_self' (k : FloatKind) (x : Nat) : fne k x x = isNan k x := by
  have h := feq_self' k x
  unfold feq at h
  unfold fne
  cases hn : isNan k x
  · rw [hn] at h
    have : k.format.order x x = some .eq := by simpa using h
    rw [this]; rfl
  · rw [order_nan (.inl hn)]; rfl

/-! ### Calls of the library -/
theorem ct_of_calls {P : Program} {f : FuncId} {args : Array Value} {w : World} {v : Value} {R : World → Prop} (hb : hasBody P f = true) (h : Calls P f args w fun e w' => e = .returned v ∧ R w') : Ct P f args w fun u w' => u = v ∧ R w' :=
  .inl ⟨hb, h.mono fun e w' ⟨he, hr⟩ => ⟨v, he, rfl, hr⟩⟩
set_option maxRecDepth 100000 in
theorem f32bits_ct (w : World) (x : Nat) : Ct Tryd.prog 126 #[fl x] w (Is (.int .u32 x) w) := by
  refine .inr ⟨_, w, ?_, rfl, Bl.refl w⟩
  kernel_rfl
set_option maxRecDepth 100000 in
theorem frombits_ct (w : World) (x : Nat) (hx : x < 4294967296) : Ct Tryd.prog 112 #[.int .u32 x] w (Is (fl x) w) := by
  refine .inr ⟨_, w, ?_, rfl, Bl.refl w⟩
  kernel_rfl
end Go.Proofs.YtjgpnbchnenbeaaDoor
