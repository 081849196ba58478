/- Texts: pieces between a byte; numbers of eight hexadecimal digits. Plain lists. -/
import Derived.Lib.SplitLaws
namespace Go.Proofs.YtjgpnbchnenbeaaDoor
set_option linter.unusedSimpArgs false
set_option linter.unusedVariables false
open Go.Lib

/-! ### Pieces -/
def pcs (c : UInt8) : List UInt8 → List (List UInt8)
  | [] => [[]]
  | b :: l => if b = c then [] :: pcs c l else match pcs c l with
    | [] => [[b]]
    | p :: ps => (b :: p) :: ps
theorem pcs_ne (c : UInt8) (l : List UInt8) : pcs c l ≠ [] := by
  cases l with
  | nil => simp [pcs]
  | cons b l =>
    unfold pcs
    split
    · simp
    · split <;> simp
def glue (b : UInt8) : List (List UInt8) → List (List UInt8)
  | [] => [[b]]
  | p :: ps => (b :: p) :: ps
theorem pcs_hit0 (c : UInt8) (l : List UInt8) : pcs c (c :: l) = [] :: pcs c l := by
  show (if c = c then [] :: pcs c l else _) = _
  rw [if_pos rfl]
theorem pcs_miss0 {c b : UInt8} (h : b ≠ c) (l : List UInt8) : pcs c (b :: l) = glue b (pcs c l) := by
  show (if b = c then [] :: pcs c l else _) = _
  rw [if_neg h]
  cases pcs c l <;> rfl
theorem index_cons_one (c b : UInt8) (l : List UInt8) : index (b :: l) [c] = if b = c then 0 else if index l [c] == -1 then -1 else index l [c] + 1 := by
  rw [index]
  by_cases h : b = c
  · subst h; simp [List.isPrefixOf]
  · have : ([c] : List UInt8).isPrefixOf (b :: l) = false := by simp [List.isPrefixOf, Ne.symm h]
    rw [this, if_neg h]; rfl
theorem splitK_glue {c b : UInt8} (h : b ≠ c) (l : List UInt8) : ∀ k, splitK [c] 0 k (b :: l) = glue b (splitK [c] 0 k l)
  | 0 => rfl
  | k + 1 => by
    have hix := index_cons_one c b l
    rw [if_neg h] at hix
    unfold splitK
    by_cases hm : index l [c] = -1
    · rw [hix, hm]; rfl
    · have hge := index_ge l [c]
      have e1 : (index l [c] == -1) = false := by simpa using hm
      rw [e1] at hix
      have hix : index (b :: l) [c] = index l [c] + 1 := hix
      have e2 : (index (b :: l) [c] == -1) = false := by rw [hix]; simp; omega
      rw [e1, e2]
      obtain ⟨j, hj⟩ : ∃ j : Nat, index l [c] = j := ⟨(index l [c]).toNat, by omega⟩
      rw [hix, hj]
      have e3 : ((j : Int) + 1).toNat = j + 1 := by omega
      have e4 : ((j : Int)).toNat = j := by omega
      rw [e3, e4]
      rfl
theorem count_cons_hit (c : UInt8) (l : List UInt8) : count (c :: l) [c] = count l [c] + 1 := by
  have hix : index (c :: l) [c] = ((0 : Nat) : Int) := by rw [index_cons_one, if_pos rfl]; rfl
  rw [count_hit (by simp) hix]
  simp
  omega
theorem split_pcs (c : UInt8) : ∀ l : List UInt8, split l [c] = pcs c l
  | [] => by
    unfold split
    have : index ([] : List UInt8) [c] = -1 := by rw [index]; rfl
    rw [count_miss this]; rfl
  | b :: l => by
    have ih := split_pcs c l
    unfold split at *
    by_cases h : b = c
    · subst h
      rw [count_cons_hit, pcs_hit0, ← ih]
      have hix : index (b :: l) [b] = 0 := by rw [index_cons_one, if_pos rfl]
      rw [splitK, hix]; rfl
    · rw [count_cons_ne b c l h, splitK_glue h, ih, pcs_miss0 h]
theorem pcs_none {c : UInt8} : ∀ {r : List UInt8}, (∀ b ∈ r, b ≠ c) → pcs c r = [r]
  | [], _ => rfl
  | b :: r, h => by
    rw [pcs_miss0 (h b (by simp)), pcs_none (fun x hx => h x (List.mem_cons_of_mem _ hx))]; rfl
theorem pcs_at {c : UInt8} : ∀ {n : Nat} {r : List UInt8}, (∀ j, j < n → ∀ b, r[j]? = some b → b ≠ c) → r[n]? = some c → pcs c r = r.take n :: pcs c (r.drop (n + 1))
  | 0, [], _, h => by simp at h
  | 0, b :: r, _, h => by
    simp only [List.getElem?_cons_zero, Option.some.injEq] at h
    subst h; rw [pcs_hit0]; rfl
  | n + 1, [], _, h => by simp at h
  | n + 1, b :: r, hb, h => by
    simp only [List.getElem?_cons_succ] at h
    rw [pcs_miss0 (hb 0 (by omega) b rfl), pcs_at (n := n) (r := r) (fun j hj x hx => hb (j + 1) (by omega) x (by simpa using hx)) h]
    rfl

/-! ### Hexadecimal digits -/
def hexd (b : UInt8) : Option Nat := if 48 ≤ b.toNat ∧ b.toNat ≤ 57 then some (b.toNat - 48) else if 97 ≤ b.toNat ∧ b.toNat ≤ 102 then some (b.toNat - 87) else none
def dig (d : Nat) : UInt8 := if d < 10 then UInt8.ofNat (48 + d) else UInt8.ofNat (87 + d)
theorem hexd_lt {b : UInt8} {d : Nat} (h : hexd b = some d) : d < 16 := by
  unfold hexd at h
  split at h
  · simp at h; omega
  · split at h
    · simp at h; omega
    · cases h
theorem hexd_dig : ∀ d, d < 16 → hexd (dig d) = some d := by decide
theorem dig_hexd {b : UInt8} {d : Nat} (h : hexd b = some d) : dig d = b := by
  have hb := b.toNat_lt
  unfold hexd at h
  apply UInt8.toNat_inj.1
  split at h
  · simp only [Option.some.injEq] at h
    unfold dig
    rw [if_pos (by omega), UInt8.toNat_ofNat']; omega
  · split at h
    · simp only [Option.some.injEq] at h
      unfold dig
      rw [if_neg (by omega), UInt8.toNat_ofNat']; omega
    · cases h
/-- the number of hexadecimal digits, behind a number -/
def hexv : List UInt8 → Nat → Option Nat
  | [], n => some n
  | b :: l, n => match hexd b with
    | none => none
    | some d => hexv l (n * 16 + d)
/-- the same, other bytes being 0 -/
def hexi : List UInt8 → Nat → Nat
  | [], n => n
  | b :: l, n => hexi l (n * 16 + (hexd b).getD 0)
theorem hexv_hexi : ∀ (l : List UInt8) (n v : Nat), hexv l n = some v → hexi l n = v
  | [], n, v, h => by simpa [hexv, hexi] using h
  | b :: l, n, v, h => by
    unfold hexv at h
    cases hd : hexd b with
    | none => rw [hd] at h; cases h
    | some d =>
      rw [hd] at h
      show hexi l (n * 16 + (hexd b).getD 0) = v
      rw [hd]; exact hexv_hexi l _ v h
/-- the digits of a number, the last k -/
def hexs : Nat → Nat → List UInt8
  | 0, _ => []
  | k + 1, n => dig (n / 16 ^ k % 16) :: hexs k n
theorem hexs_len (k n : Nat) : (hexs k n).length = k := by
  induction k with
  | zero => rfl
  | succ k ih => simp [hexs, ih]
theorem hexv_snoc (l : List UInt8) (b : UInt8) (n : Nat) : hexv (l ++ [b]) n = (hexv l n).bind fun v => (hexd b).map fun d => v * 16 + d := by
  induction l generalizing n with
  | nil =>
    show (match hexd b with | none => none | some d => some (n * 16 + d)) = _
    cases hexd b <;> rfl
  | cons x l ih =>
    show (match hexd x with | none => none | some d => hexv (l ++ [b]) (n * 16 + d)) = (match hexd x with | none => none | some d => hexv l (n * 16 + d)).bind _
    cases hexd x with
    | none => rfl
    | some d => exact ih _
theorem hexv_hexs : ∀ (k n m : Nat), hexv (hexs k n) m = some (m * 16 ^ k + n % 16 ^ k)
  | 0, n, m => by simp [hexs, hexv, Nat.mod_one]
  | k + 1, n, m => by
    unfold hexs hexv
    rw [hexd_dig _ (Nat.mod_lt _ (by decide))]
    show hexv (hexs k n) (m * 16 + n / 16 ^ k % 16) = _
    rw [hexv_hexs k n]
    have h1 : n % 16 ^ (k + 1) = 16 ^ k * (n / 16 ^ k % 16) + n % 16 ^ k := by
      rw [Nat.pow_succ, Nat.mod_mul, Nat.add_comm]
    rw [h1, Nat.pow_succ, Nat.add_mul]
    congr 1
    have : n / 16 ^ k % 16 * 16 ^ k = 16 ^ k * (n / 16 ^ k % 16) := Nat.mul_comm _ _
    rw [this, Nat.mul_assoc, Nat.mul_comm 16 (16 ^ k)]
    omega
theorem hexs_hexv : ∀ (l : List UInt8) (n v : Nat), hexv l n = some v → hexs l.length v = l ∧ v / 16 ^ l.length = n
  | [], n, v, h => by
    simp only [hexv, Option.some.injEq] at h
    subst h
    simp [hexs]
  | b :: l, n, v, h => by
    unfold hexv at h
    cases hd : hexd b with
    | none => rw [hd] at h; cases h
    | some d =>
      rw [hd] at h
      obtain ⟨h1, h2⟩ := hexs_hexv l (n * 16 + d) v h
      have hlt := hexd_lt hd
      refine ⟨?_, ?_⟩
      · show dig (v / 16 ^ l.length % 16) :: hexs l.length v = b :: l
        rw [h1, h2, show (n * 16 + d) % 16 = d by omega, dig_hexd hd]
      · rw [List.length_cons, Nat.pow_succ, ← Nat.div_div_eq_div_mul, h2]; omega
/-- the number with a text of eight digits; a NaN has one text alone -/
def readV (nan : Nat → Bool) (l : List UInt8) : Option Nat :=
  if l.length = 8 then match hexv l 0 with
    | none => none
    | some v => if nan v = true ∧ v ≠ 2143289344 then none else some v
  else none
/-- what the program asks: the text of the number that was read is the text -/
theorem read_text {nan : Nat → Bool} {l : List UInt8} (hn : nan 2143289344 = true) :
    (hexs 8 (if nan (hexi (l.take 8) 0) = true then 2143289344 else hexi (l.take 8) 0) = l ↔ (readV nan l).isSome = true) ∧ ∀ v, readV nan l = some v → hexi (l.take 8) 0 = v := by
  have key : ∀ v, readV nan l = some v → hexi (l.take 8) 0 = v ∧ l.length = 8 ∧ hexv l 0 = some v ∧ ¬ (nan v = true ∧ v ≠ 2143289344) := by
    intro v h
    unfold readV at h
    split at h
    · rename_i hl
      split at h
      · cases h
      · rename_i u hu
        split at h
        · cases h
        · rename_i hc
          simp only [Option.some.injEq] at h
          subst h
          rw [List.take_of_length_le (by omega)]
          exact ⟨hexv_hexi l 0 u hu, hl, hu, hc⟩
    · cases h
  refine ⟨⟨fun h => ?_, fun h => ?_⟩, fun v h => (key v h).1⟩
  · have hl : l.length = 8 := by rw [← h]; exact hexs_len 8 _
    have ht : l.take 8 = l := List.take_of_length_le (by omega)
    rw [ht] at h
    have hv : hexv l 0 = some ((if nan (hexi l 0) = true then 2143289344 else hexi l 0) % 16 ^ 8) := by
      have := hexv_hexs 8 (if nan (hexi l 0) = true then 2143289344 else hexi l 0) 0
      rw [h] at this
      rw [this]; simp
    have hi := hexv_hexi l 0 _ hv
    unfold readV
    rw [if_pos hl, hv]
    dsimp only
    rw [← hi]
    split
    · rename_i hc
      exfalso
      have hif : (if nan (hexi l 0) = true then 2143289344 else hexi l 0) = 2143289344 := if_pos hc.1
      rw [hif] at hi
      apply hc.2
      rw [hi]
    · rfl
  · obtain ⟨v, hv⟩ := Option.isSome_iff_exists.1 h
    obtain ⟨h1, h2, h3, h4⟩ := key v hv
    obtain ⟨h5, _⟩ := hexs_hexv l 0 v h3
    rw [h2] at h5
    rw [h1]
    by_cases hc : nan v = true
    · have : v = 2143289344 := by
        rcases Nat.decEq v 2143289344 with h | h
        · exact absurd ⟨hc, h⟩ h4
        · exact h
      rw [if_pos hc, ← this]; exact h5
    · rw [if_neg hc]; exact h5
end Go.Proofs.YtjgpnbchnenbeaaDoor
