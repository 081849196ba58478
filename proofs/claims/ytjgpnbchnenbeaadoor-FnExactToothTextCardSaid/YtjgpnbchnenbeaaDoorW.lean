/- A weakest-precondition reading of the model's code over frames that are functions from slots to values, and its soundness over the kit's rules. For every program. -/
import Derived.WalkKit
import Derived.WalkLawsBesides
import Derived.KernelRfl
import Derived.Deep.Draws
namespace Go.Proofs.YtjgpnbchnenbeaaDoor
set_option linter.unusedSimpArgs false
set_option linter.unusedVariables false
open Go

/-! ### Frames as functions -/
abbrev Env := Nat → Value
def upd (e : Env) (d : Nat) (v : Value) : Env := fun i => bif i == d then v else e i
theorem upd_app (e : Env) (d : Nat) (v : Value) (i : Nat) : upd e d v i = bif i == d then v else e i := (rfl)
def putE (e : Env) : Option Nat → Value → Env
  | some d, v => upd e d v
  | none, _ => e
theorem putE_some (e : Env) (d : Nat) (v : Value) : putE e (some d) v = upd e d v := rfl
theorem putE_none (e : Env) (v : Value) : putE e none v = e := rfl
def ev (e : Env) : Operand → Value
  | .tmp t => e t
  | .const v => v
  | .global g => .pointer (some ⟨g, 0, none⟩)
  | .func f => .func (.func f) #[] #[]
theorem ev_tmp (e : Env) (t : Nat) : ev e (.tmp t) = e t := (rfl)
theorem ev_const (e : Env) (v : Value) : ev e (.const v) = v := (rfl)
theorem ev_global (e : Env) (g : Nat) : ev e (.global g) = .pointer (some ⟨g, 0, none⟩) := (rfl)
theorem ev_func (e : Env) (f : Nat) : ev e (.func f) = .func (.func f) #[] #[] := (rfl)
def evs (e : Env) : List Operand → List Value
  | [] => []
  | o :: l => ev e o :: evs e l
theorem evs_nil (e : Env) : evs e [] = [] := (rfl)
theorem evs_cons (e : Env) (o : Operand) (l : List Operand) : evs e (o :: l) = ev e o :: evs e l := (rfl)
theorem evs_eq (e : Env) : ∀ l, evs e l = l.map (ev e)
  | [] => rfl
  | o :: l => by rw [evs_cons, evs_eq e l]; rfl
def evp (e : Env) : List (Nat × Operand) → List (Nat × Value)
  | [] => []
  | (i, o) :: l => (i, ev e o) :: evp e l
theorem evp_nil (e : Env) : evp e [] = [] := (rfl)
theorem evp_cons (e : Env) (i : Nat) (o : Operand) (l : List (Nat × Operand)) : evp e ((i, o) :: l) = (i, ev e o) :: evp e l := (rfl)
theorem evp_eq (e : Env) : ∀ l, evp e l = l.map fun p => (p.1, ev e p.2)
  | [] => rfl
  | (i, o) :: l => by rw [evp_cons, evp_eq e l]; rfl
def evo (e : Env) : Option Operand → Option Value
  | none => none
  | some o => some (ev e o)
theorem evo_none (e : Env) : evo e none = none := (rfl)
theorem evo_some (e : Env) (o : Operand) : evo e (some o) = some (ev e o) := (rfl)
theorem evo_eq (e : Env) (o : Option Operand) : evo e o = o.map (ev e) := by cases o <;> rfl
/-- the frame at the start of a call: the arguments, then undef -/
def env0 (args : List Value) : Env := fun i => args.getD i undef

/-- a frame that holds these slots, and forgets the others -/
def over : List (Nat × Value) → Env → Env
  | [], e => e
  | (d, v) :: l, e => upd (over l e) d v
def agrees (e : Env) : List (Nat × Value) → Prop
  | [] => True
  | (d, v) :: l => e d = v ∧ agrees e l
theorem over_nil (e : Env) : over [] e = e := (rfl)
theorem over_cons (d : Nat) (v : Value) (l) (e : Env) : over ((d, v) :: l) e = upd (over l e) d v := (rfl)
theorem agrees_nil (e : Env) : agrees e [] = True := rfl
theorem agrees_cons (d : Nat) (v : Value) (l) (e : Env) : agrees e ((d, v) :: l) = (e d = v ∧ agrees e l) := rfl

theorem agr_cons {e : Env} {d : Nat} {v : Value} {l : List (Nat × Value)} (h : e d = v) (t : agrees e l) : agrees e ((d, v) :: l) := ⟨h, t⟩
theorem agr_nil {e : Env} : agrees e [] := trivial
theorem over_agrees {e : Env} : ∀ {l : List (Nat × Value)}, agrees e l → over l e = e
  | [], _ => rfl
  | (d, v) :: l, h => by
    rw [over_cons, over_agrees h.2]
    funext i
    by_cases hi : i = d
    · subst hi; simp only [upd, beq_self_eq_true, cond_true]; exact h.1.symm
    · have hb : (i == d) = false := by simpa using hi
      simp only [upd, hb, cond_false]

structure Rep (n : Nat) (e : Env) (a : Act) : Prop where
  defers : a.defers = []
  size : a.tmps.size = n
  at_ : ∀ i, a.tmps.getD i undef = e i

/-! ### Floats without the bits of a NaN -/
def isNan (k : FloatKind) (b : Nat) : Bool := (k.decode b).isNaN
/-- a float, NaN being one value -/
def cn (k : FloatKind) (b : Nat) : Option Nat := if isNan k b then none else some b

/-- the value of a float operation, NaN being one value -/
def FV (k : FloatKind) (o : BinOp) (x y : Option Nat) : Option Nat :=
  x.bind fun a => y.bind fun b => floatBits o k a b

def min2F (k : FloatKind) (a b : Nat) : Option Nat :=
  match k.format.order a b with
  | none => none
  | some .lt => some a
  | some .gt => some b
  | some .eq => some (if (k.decode a).neg then a else b)
def max2F (k : FloatKind) (a b : Nat) : Option Nat :=
  match k.format.order a b with
  | none => none
  | some .lt => some b
  | some .gt => some a
  | some .eq => some (if (k.decode a).neg then b else a)
def FMin (k : FloatKind) (x y : Option Nat) : Option Nat := x.bind fun a => y.bind fun b => min2F k a b
def FMax (k : FloatKind) (x y : Option Nat) : Option Nat := x.bind fun a => y.bind fun b => max2F k a b

/-! ### Values of operations -/
def kEq : IntKind → IntKind → Bool
  | .i8, .i8 => true | .i16, .i16 => true | .i32, .i32 => true | .i64, .i64 => true
  | .u8, .u8 => true | .u16, .u16 => true | .u32, .u32 => true | .u64, .u64 => true
  | _, _ => false
theorem kEq_iff {a b : IntKind} : kEq a b = true ↔ a = b := by cases a <;> cases b <;> simp [kEq]
def fEq : FloatKind → FloatKind → Bool
  | .f32, .f32 => true | .f64, .f64 => true
  | _, _ => false
theorem fEq_iff {a b : FloatKind} : fEq a b = true ↔ a = b := by cases a <;> cases b <;> simp [fEq]

def flt (k : FloatKind) (x y : Nat) : Bool := k.format.order x y == some .lt
def fle (k : FloatKind) (x y : Nat) : Bool := k.format.order x y == some .lt || k.format.order x y == some .eq
def fgt (k : FloatKind) (x y : Nat) : Bool := k.format.order x y == some .gt
def fge (k : FloatKind) (x y : Nat) : Bool := k.format.order x y == some .gt || k.format.order x y == some .eq
def feq (k : FloatKind) (x y : Nat) : Bool := k.format.order x y == some .eq
def fne (k : FloatKind) (x y : Nat) : Bool := k.format.order x y != some .eq

def bitsV (op : BinOp) (k : IntKind) (x y : Int) : Int :=
  match op with
  | .and => k.wrap ((BitVec.ofInt k.bits x) &&& (BitVec.ofInt k.bits y)).toNat
  | .or => k.wrap ((BitVec.ofInt k.bits x) ||| (BitVec.ofInt k.bits y)).toNat
  | .xor => k.wrap ((BitVec.ofInt k.bits x) ^^^ (BitVec.ofInt k.bits y)).toNat
  | _ => k.wrap ((BitVec.ofInt k.bits x) &&& ~~~(BitVec.ofInt k.bits y)).toNat

def binInt (op : BinOp) (k : IntKind) (x y : Int) (w : World) (K : Value → World → Prop) : Prop :=
  match op with
  | .add => K (.int k (k.wrap (x + y))) w
  | .sub => K (.int k (k.wrap (x - y))) w
  | .mul => K (.int k (k.wrap (x * y))) w
  | .quo => y ≠ 0 ∧ K (.int k (k.wrap (x.tdiv y))) w
  | .rem => y ≠ 0 ∧ K (.int k (x.tmod y)) w
  | .and => K (.int k (bitsV .and k x y)) w
  | .or => K (.int k (bitsV .or k x y)) w
  | .xor => K (.int k (bitsV .xor k x y)) w
  | .andNot => K (.int k (bitsV .andNot k x y)) w
  | .eql => ∀ b, b = (x == y) → K (.bool b) w
  | .neq => ∀ b, b = (x != y) → K (.bool b) w
  | .lss => ∀ b, b = decide (x < y) → K (.bool b) w
  | .leq => ∀ b, b = decide (x ≤ y) → K (.bool b) w
  | .gtr => ∀ b, b = decide (x > y) → K (.bool b) w
  | .geq => ∀ b, b = decide (x ≥ y) → K (.bool b) w
  | _ => False

def shiftInt (op : BinOp) (k : IntKind) (x y : Int) (w : World) (K : Value → World → Prop) : Prop :=
  match op with
  | .shl => 0 ≤ y ∧ K (.int k (k.wrap (x * 2 ^ (min y.toNat k.bits)))) w
  | .shr => 0 ≤ y ∧ K (.int k (x.fdiv (2 ^ (min y.toNat k.bits)))) w
  | _ => False

def binFloat (op : BinOp) (k : FloatKind) (x y : Nat) (w : World) (K : Value → World → Prop) : Prop :=
  match op with
  | .add => ∀ r n, cn k r = FV k .add (cn k x) (cn k y) → K (.float k r) (w.drewN n)
  | .sub => ∀ r n, cn k r = FV k .sub (cn k x) (cn k y) → K (.float k r) (w.drewN n)
  | .mul => ∀ r n, cn k r = FV k .mul (cn k x) (cn k y) → K (.float k r) (w.drewN n)
  | .quo => ∀ r n, cn k r = FV k .quo (cn k x) (cn k y) → K (.float k r) (w.drewN n)
  | .eql => ∀ b, b = feq k x y → K (.bool b) w
  | .neq => ∀ b, b = fne k x y → K (.bool b) w
  | .lss => ∀ b, b = flt k x y → K (.bool b) w
  | .leq => ∀ b, b = fle k x y → K (.bool b) w
  | .gtr => ∀ b, b = fgt k x y → K (.bool b) w
  | .geq => ∀ b, b = fge k x y → K (.bool b) w
  | _ => False

def binStr (op : BinOp) (x y : ByteArray) (w : World) (K : Value → World → Prop) : Prop :=
  match op with
  | .add => x.size + y.size ≤ 9223372036854775807 ∧ K (.string (x ++ y)) w
  | .eql => ∀ b, b = (x.toList == y.toList) → K (.bool b) w
  | .neq => ∀ b, b = (!(x.toList == y.toList)) → K (.bool b) w
  | _ => False

def isShift : BinOp → Bool
  | .shl => true | .shr => true | _ => false

def runW (P : Program) (s : Sem Value) (w : World) (K : Value → World → Prop) : Prop := ∃ v w', s.run P w = .ok v w' ∧ K v w'

/-- integers of one kind: a shift, or another operation -/
def binInts (sh ke : Bool) (op : BinOp) (k : IntKind) (x y : Int) (w : World) (K : Value → World → Prop) : Prop :=
  match sh, ke with
  | true, _ => shiftInt op k x y w K
  | false, true => binInt op k x y w K
  | false, false => False
def binFloats (fe : Bool) (op : BinOp) (k : FloatKind) (x y : Nat) (w : World) (K : Value → World → Prop) : Prop :=
  match fe with
  | true => binFloat op k x y w K
  | false => False

def binW (P : Program) (op : BinOp) (t : TypeId) (ox oy : Operand) (x y : Value) (w : World) (K : Value → World → Prop) : Prop :=
  match x, y with
  | .int k a, .int k' b => binInts (isShift op) (kEq k k') op k a b w K
  | .float k a, .float k' b => binFloats (fEq k k') op k a b w K
  | .string a, .string b => binStr op a b w K
  | x, y => runW P (do eqGuard op t ox oy x y; binOp op t x y) w K

def unW (P : Program) (op : UnOp) (x : Value) (w : World) (K : Value → World → Prop) : Prop :=
  match op, x with
  | .not, .bool b => K (.bool !b) w
  | .neg, .float k b => K (.float k (Op.negFloat k b)) w
  | .neg, .int k n => K (.int k (k.wrap (0 - n))) w
  | op, x => runW P (Op.unary op x) w K

def pickW (c a b : Value) (w : World) (K : Value → World → Prop) : Prop :=
  match c with
  | .bool true => K a w
  | .bool false => K b w
  | _ => False

def fOff (P : Program) (s : TypeId) (f : Nat) : Option Nat :=
  match P.underlying s with
  | some (.struct fs) => match fs[f]? with
    | some fd => match P.info? fd.type with
      | some i => bif i.size == 0 then none else some fd.offset
      | none => none
    | none => none
  | _ => none

def szOf (P : Program) (t : TypeId) : Nat := ((P.info? t).map (·.size)).getD 0
/-- how an index goes: the length and the size of an element -/
inductive Shape where
  | slice (sz : Nat) | array (len sz : Nat) | str | other
def shp (P : Program) (t : TypeId) : Shape :=
  match P.underlying t with
  | some (.slice e) => match P.info? e with | some i => .slice i.size | none => .other
  | some (.array n e) => match P.info? e with | some i => .array n i.size | none => .other
  | some .string => .str
  | _ => .other
def zc (P : Program) (t : TypeId) : Option (Array Value) := ((P.info? t).bind (·.zero)).map Value.cells

def ixW (s : Shape) (x ix : Value) (w : World) (K : Value → World → Prop) : Prop :=
  match s, x, ix with
  | .slice sz, .slice (some a) len _, .int _ i => (0 ≤ i ∧ i < len) ∧ K (.pointer (some (a.add (i.toNat * sz)))) w
  | .array len sz, .pointer (some a), .int _ i => (0 ≤ i ∧ i < len) ∧ K (.pointer (some (a.add (i.toNat * sz)))) w
  | _, _, _ => False

def lenW (s : Shape) (x : Value) (w : World) (K : Value → World → Prop) : Prop :=
  match s, x with
  | .slice _, .slice _ n _ => K (.int .i64 n) w
  | .str, .string s => K (.int .i64 s.size) w
  | .array n _, _ => K (.int .i64 n) w
  | _, _ => False

def cvW (P : Program) (src dst : TypeId) (d : Option TypeDesc) (x : Value) (w : World) (K : Value → World → Prop) : Prop :=
  match d, x with
  | some (.int k), .int _ n => K (.int k (k.wrap n)) w
  | some (.float k), .int _ n => K (.float k (k.nearest n)) w
  | _, x => runW P (convert src dst x) w K

def hasBody (P : Program) (f : FuncId) : Bool := (P.funcs[f]?).any fun fn => fn.body.isSome && !(fn.name == "runtime.NumGoroutine")
/-- a contract: the call comes to R -/
def Ct (P : Program) (f : FuncId) (args : Array Value) (w : World) (R : Value → World → Prop) : Prop :=
  (hasBody P f = true ∧ Calls P f args w fun e w' => ∃ v, e = .returned v ∧ R v w') ∨ (∃ v w', (callFunc f args).run P w = .ok (.value v) w' ∧ R v w')
theorem Ct.mono {P : Program} {f : FuncId} {args : Array Value} {w : World} {R R' : Value → World → Prop} (h : Ct P f args w R) (k : ∀ v w', R v w' → R' v w') : Ct P f args w R' :=
  h.elim (fun h => .inl ⟨h.1, h.2.mono fun _ _ ⟨v, he, hr⟩ => ⟨v, he, k v _ hr⟩⟩) fun ⟨v, w', h1, h2⟩ => .inr ⟨v, w', h1, k _ _ h2⟩

def cplxW (fe : Bool) (k : FloatKind) (a b : Nat) (w : World) (K : Value → World → Prop) : Prop :=
  match fe with
  | true => K (.complex k a b) w
  | false => False
def minF (fe : Bool) (k : FloatKind) (a b : Nat) (w : World) (K : Value → World → Prop) : Prop :=
  match fe with
  | true => ∀ r n, cn k r = FMin k (cn k a) (cn k b) → K (.float k r) (w.drewN n)
  | false => False
def maxF (fe : Bool) (k : FloatKind) (a b : Nat) (w : World) (K : Value → World → Prop) : Prop :=
  match fe with
  | true => ∀ r n, cn k r = FMax k (cn k a) (cn k b) → K (.float k r) (w.drewN n)
  | false => False
def min2W (x y : Value) (w : World) (K : Value → World → Prop) : Prop :=
  match x, y with
  | .float k a, .float k' b => minF (fEq k k') k a b w K
  | .int k a, .int _ b => K (.int k (if b < a then b else a)) w
  | _, _ => False
def max2W (x y : Value) (w : World) (K : Value → World → Prop) : Prop :=
  match x, y with
  | .float k a, .float k' b => maxF (fEq k k') k a b w K
  | .int k a, .int _ b => K (.int k (if b > a then b else a)) w
  | _, _ => False
def builtW (P : Program) (b : Builtin) (ts : List TypeId) (t : TypeId) (args : List Value) (w : World) (K : Value → World → Prop) : Prop :=
  match b, args with
  | .len, [x] => match ts with
    | tx :: _ => lenW (shp P tx) x w K
    | [] => False
  | .real, [.complex k a _] => K (.float k a) w
  | .imag, [.complex k _ b] => K (.float k b) w
  | .complex, [.float k a, .float k' b] => cplxW (fEq k k') k a b w K
  | .append, args => runW P (Builtin.append_ ts.toArray t args.toArray) w K
  | .copy, args => runW P (Builtin.copy_ ts.toArray t args.toArray) w K
  | .min, [a, b] => min2W a b w K
  | .max, [a, b] => max2W a b w K
  | .min, (a :: b :: c :: l) => runW P (Builtin.min_ ts.toArray t (a :: b :: c :: l).toArray) w K
  | .max, (a :: b :: c :: l) => runW P (Builtin.max_ ts.toArray t (a :: b :: c :: l).toArray) w K
  | _, _ => False

/-- a called function's arguments, what it captured among them -/
def argsW : List Value → List Value → List Value → List Value
  | [], args, [] => args
  | f, args, c => f ++ (args ++ c)
theorem argsW_eq (f a c : List Value) : argsW f a c = f ++ a ++ c := by
  unfold argsW; split <;> simp
def callW (P : Program) (f : Value) (args : List Value) (w : World) (K : Value → World → Prop) : Prop :=
  match f with
  | .func (.func g) first captured => Ct P g (argsW first.toList args captured.toList).toArray w K
  | _ => False

def allocW (z : Option (Array Value)) (elem : TypeId) (w : World) (K : Value → World → Prop) : Prop :=
  match z with
  | some cs => K (.pointer (some ⟨w.heap.size, 0, none⟩)) (w.alloc (.cells cs elem))
  | none => False
def loadW (P : Program) (t : TypeId) (a : Value) (w : World) (K : Value → World → Prop) : Prop :=
  match a with
  | .pointer (some ad) => ∃ v, (loadVar t ad).run P w = .ok v w ∧ K v w
  | _ => False
def storeW (P : Program) (t : TypeId) (a x : Value) (w : World) (K : Value → World → Prop) : Prop :=
  match a with
  | .pointer (some ad) => ∃ w', (storeVar t ad x).run P w = .ok () w' ∧ K undef w'
  | _ => False
def nilW (a : Value) (w : World) (K : Value → World → Prop) : Prop :=
  match a with
  | .pointer (some ad) => K (.pointer (some ad)) w
  | _ => False
def faddrW (off : Option Nat) (a : Value) (w : World) (K : Value → World → Prop) : Prop :=
  match off, a with
  | some off, .pointer (some ad) => K (.pointer (some (ad.add off))) w
  | _, _ => False
def extW (t : Value) (ix : Nat) (w : World) (K : Value → World → Prop) : Prop :=
  match t with
  | .tuple vs => ∃ v, vs[ix]? = some v ∧ K v w
  | _ => False
def cvIf (b : Bool) (P : Program) (src dst : TypeId) (d : Option TypeDesc) (x : Value) (w : World) (K : Value → World → Prop) : Prop :=
  match b with
  | true => cvW P src dst d x w K
  | false => False

def opW (P : Program) (e : Env) (o : Op) (ty : TypeId) (w : World) (K : Value → World → Prop) : Prop :=
  match o with
  | .move x => K (ev e x) w
  | .assign x => K (ev e x) w
  | .pick c a b => pickW (ev e c) (ev e a) (ev e b) w K
  | .alloc elem => allocW (zc P elem) elem w K
  | .box elem x => K (.pointer (some ⟨w.heap.size, 0, none⟩)) (w.alloc (.cells (ev e x).cells elem))
  | .build t parts => ∃ cells, P.built t (evp e parts.toList) = some cells ∧ K (.agg cells) w
  | .buildSlice t len parts => runW P (Instr.buildSlice t len (evp e parts.toList).toArray) w K
  | .load t a => loadW P t (ev e a) w K
  | .store t a x => storeW P t (ev e a) (ev e x) w K
  | .nilCheck x => nilW (ev e x) w K
  | .binOp op t x y _ => binW P op t x y (ev e x) (ev e y) w K
  | .unOp op _ x => unW P op (ev e x) w K
  | .convert src dst x => cvIf (P.underlying src).isSome P src dst (P.underlying dst) (ev e x) w K
  | .makeFunc fn first captured => K (.func fn (evs e first.toList).toArray (evs e captured.toList).toArray) w
  | .makeSlice t l c => runW P (Instr.makeSlice t (ev e l) (ev e c)) w K
  | .slice t x lo hi mx => runW P (Instr.sliceAt t (ev e x) (evo e lo) (evo e hi) (evo e mx)) w K
  | .fieldAddr s x f => faddrW (fOff P s f) (ev e x) w K
  | .field t x f => runW P (Instr.field t (ev e x) f) w K
  | .indexAddr t x ix => ixW (shp P t) (ev e x) (ev e ix) w K
  | .index t x ix => runW P (Instr.index t (ev e x) (ev e ix)) w K
  | .extract t ix => extW (ev e t) ix w K
  | .makeInterface t x => runW P (Instr.makeInterface t (ev e x)) w K
  | .typeAssert x t a ok => runW P (Instr.typeAssert (ev e x) t a ok) w K
  | .call c => match c.callee with
    | .builtin b => builtW P b c.argTypes.toList ty (evs e c.args.toList) w K
    | .value f => callW P (ev e f) (evs e c.args.toList) w K
    | .invoke _ _ => False
  | _ => False

/-! ### Code -/
def asB : Value → Option Bool
  | .bool b => some b
  | _ => none

/-- the slot of an operation's result -/
def yv : List Oper → Nat → Env → Value
  | [], _, _ => undef
  | o :: _, 0, e => match o.dst with
    | some d => e d
    | none => undef
  | _ :: l, j + 1, e => yv l j e
theorem yv_eq : ∀ (ops : List Oper) (j : Nat) (e : Env), yv ops j e = (match ops[j]? with | some o => (match o.dst with | some d => e d | none => undef) | none => undef)
  | [], _, _ => rfl
  | _ :: _, 0, _ => rfl
  | _ :: l, j + 1, e => yv_eq l j e

/-- a list of operations in order, none or only some of them guarded -/
def WL (P : Program) (ops : List Oper) : List Oper → (Env → World → Prop) → Env → World → Prop
  | [], K, e, w => K e w
  | o :: rest, K, e, w => match o.guard with
    | none => opW P e o.op o.type w fun v w' => WL P ops rest K (putE e o.dst v) w'
    | some (j, want) => match asB (yv ops j e) == some want with
      | true => opW P e o.op o.type w fun v w' => WL P ops rest K (putE e o.dst v) w'
      | false => WL P ops rest K (putE e o.dst undef) w
/-- what follows an operation -/
def WLk (P : Program) (ops rest : List Oper) (K : Env → World → Prop) (e : Env) (d : Option Nat) (v : Value) (w : World) : Prop := WL P ops rest K (putE e d v) w
/-- a guarded operation, its guard's value known -/
def gdW (g : Value) (want : Bool) (P : Program) (ops : List Oper) (op : Op) (ty : TypeId) (rest : List Oper) (K : Env → World → Prop) (e : Env) (d : Option Nat) (w : World) : Prop :=
  match asB g == some want with
  | true => opW P e op ty w (WLk P ops rest K e d)
  | false => WL P ops rest K (putE e d undef) w

def thenW (next : Env → World → Prop) (Q : Exit → Env → World → Prop) : Exit → Env → World → Prop
  | .normal, e, w => next e w
  | x, e, w => Q x e w
def blockW (id : Nat) (Q : Exit → Env → World → Prop) : Exit → Env → World → Prop
  | .exit id', e, w => bif id' == id then Q .normal e w else Q (.exit id') e w
  | x, e, w => Q x e w

/-- a loop: a state s (ghost) tells the slots that stay known; the measure falls -/
def LoopW (W1 : (Exit → Env → World → Prop) → Env → World → Prop) (Q : Exit → Env → World → Prop) (e : Env) (w : World) : Prop :=
  ∃ (σ : Type) (fr : σ → List (Nat × Value)) (I : σ → World → Prop) (m : σ → Nat),
    (∃ s, agrees e (fr s) ∧ I s w) ∧
    ∀ s w' e', I s w' → W1 (thenW (fun e2 w2 => ∃ s2, agrees e2 (fr s2) ∧ I s2 w2 ∧ m s2 < m s) Q) (over (fr s) e') w'

/-- the dst of an operation lies in the frame -/
def dstIn (n : Nat) (o : Oper) : Bool := match o.dst with | some d => Nat.blt d n | none => true

/-- regions that draw their order: told by a theorem at the place -/
def DrawW (P : Program) (id : Nat) (ops : Array Oper) (Q : Exit → Env → World → Prop) (e : Env) (w : World) : Prop :=
  ∀ n a (Q' : Exit → Act → World → Prop), (ops.toList.all (dstIn n)) = true → Rep n e a → (∀ x e' w' a', Rep n e' a' → Q x e' w' → Q' x a' w') → (Code.region id ops true).wp P Q' a w

def W (P : Program) : Code → (Exit → Env → World → Prop) → Env → World → Prop
  | .skip, Q, e, w => Q .normal e w
  | .region id ops draw, Q, e, w => match draw with
    | false => WL P ops.toList ops.toList (Q .normal) e w
    | true => DrawW P id ops Q e w
  | .seq a b, Q, e, w => W P a (thenW (W P b Q) Q) e w
  | .cond c a b, Q, e, w => match ev e c with
    | .bool true => W P a Q e w
    | .bool false => W P b Q e w
    | _ => False
  | .block id a, Q, e, w => W P a (blockW id Q) e w
  | .exit id, Q, e, w => Q (.exit id) e w
  | .ret, Q, e, w => Q .ret e w
  | .loop a, Q, e, w => LoopW (W P a) Q e w
  | _, _, _, _ => False

def condW (c : Value) (P : Program) (a b : Code) (Q : Exit → Env → World → Prop) (e : Env) (w : World) : Prop :=
  match c with
  | .bool true => W P a Q e w
  | .bool false => W P b Q e w
  | _ => False

/-- every slot that is written lies in the frame -/
def fits (n : Nat) : Code → Bool
  | .region _ ops _ => ops.toList.all fun o => match o.dst with | some d => Nat.blt d n | none => true
  | .seq a b => fits n a && fits n b
  | .cond _ a b => fits n a && fits n b
  | .block _ a => fits n a
  | .loop a => fits n a
  | _ => true

/-! ### Soundness -/
theorem Rep.eval {n : Nat} {e : Env} {a : Act} (h : Rep n e a) : a.eval = ev e := by
  funext x
  cases x with
  | tmp t => exact h.at_ t
  | const v => rfl
  | global g => rfl
  | func f => rfl

theorem Rep.put {n : Nat} {e : Env} {a : Act} (h : Rep n e a) (d : Option Nat) (v : Value) (hd : (match d with | some d => Nat.blt d n | none => true) = true) : Rep n (putE e d v) (a.put d v) := by
  cases d with
  | none => exact h
  | some d =>
    have hd' : d < n := by simpa [Nat.blt_eq] using hd
    refine ⟨h.defers, by simp [Act.put, h.size], fun i => ?_⟩
    show (a.tmps.setIfInBounds d v).getD i undef = upd e d v i
    have hs := h.size
    have hi := h.at_ i
    unfold upd
    by_cases hid : i = d
    · subst hid
      simp [Array.getD_eq_getD_getElem?, Array.getElem?_setIfInBounds, hs, hd']
    · have hb : (i == d) = false := by simpa using hid
      rw [hb, cond_false, ← hi]
      simp [Array.getD_eq_getD_getElem?, Array.getElem?_setIfInBounds, Ne.symm hid]

/-- what an operation's result has to do -/
def Upon (P : Program) (K : Value → World → Prop) : Result Next → Prop
  | .ok (.value v) w' => K v w'
  | .ok .skip w' => K undef w'
  | .ok (.enter f args) w' => Calls P f args w' fun e w'' => ∃ v, e = .returned v ∧ K v w''
  | _ => False

theorem isNan_none {k : FloatKind} {b : Nat} : cn k b = none ↔ isNan k b = true := by unfold cn; cases isNan k b <;> simp
theorem cn_some {k : FloatKind} {b c : Nat} (h : cn k b = some c) : b = c ∧ isNan k b = false := by
  unfold cn at h; cases hb : isNan k b <;> simp [hb] at h; exact ⟨h, rfl⟩

theorem floatBits_nan {o : BinOp} {k : FloatKind} {x y : Nat} (h : isNan k x = true ∨ isNan k y = true) : floatBits o k x y = none := by
  have hx : ∀ d : Ieee.Datum, d.isNaN = true → ∃ s f, d = .nan s f := by
    intro d hd; cases d <;> simp [Ieee.Datum.isNaN] at hd; exact ⟨_, _, rfl⟩
  rcases h with h | h
  · obtain ⟨s, f, hd⟩ := hx _ h
    cases o <;> simp only [floatBits] <;> simp only [FloatKind.decode] at hd <;> simp [Ieee.Format.add, Ieee.Format.sub, Ieee.Format.mul, Ieee.Format.div, hd, Ieee.Datum.sum, Ieee.Datum.product, Ieee.Datum.quotient]
  · obtain ⟨s, f, hd⟩ := hx _ h
    cases o <;> simp only [floatBits] <;> simp only [FloatKind.decode] at hd <;> cases hxx : k.format.read x <;> simp [Ieee.Format.add, Ieee.Format.sub, Ieee.Format.mul, Ieee.Format.div, hd, hxx, Ieee.Datum.opposite, Ieee.Datum.sum, Ieee.Datum.product, Ieee.Datum.quotient]

theorem FV_eq (o : BinOp) (k : FloatKind) (x y : Nat) : FV k o (cn k x) (cn k y) = floatBits o k x y := by
  unfold FV
  cases hx : isNan k x with
  | true =>
    rw [floatBits_nan (.inl hx), isNan_none.2 hx]; rfl
  | false =>
    cases hy : isNan k y with
    | true => rw [floatBits_nan (.inr hy), isNan_none.2 hy]; cases cn k x <;> rfl
    | false => simp [cn, hx, hy]

theorem read_word_nan (f : Ieee.Format) (s : Bool) (r : Nat) (hr : r ≤ f.infRung) : (f.read (f.word s r)).isNaN = false := by
  have h1 := f.infRung_lt
  have hm : f.word s r % f.signWeight = r := by
    unfold Ieee.Format.word
    cases s
    · simp; exact Nat.mod_eq_of_lt (by omega)
    · simp; exact Nat.mod_eq_of_lt (by omega)
  unfold Ieee.Format.read
  simp only [hm]
  split
  · rfl
  · split
    · rfl
    · split
      · rfl
      · rename_i h2 h3; omega

theorem nearest_nan (f : Ieee.Format) (s : Bool) (m : Nat) (p : Int) : (f.read (f.nearest s m p)).isNaN = false := by
  unfold Ieee.Format.nearest
  split
  · exact read_word_nan f s 0 (Nat.zero_le _)
  · exact read_word_nan f s _ (Nat.min_le_right _ _)

theorem write_nan (f : Ieee.Format) (d : Ieee.Datum) (h : d.isNaN = false) : (f.read (f.write d)).isNaN = false := by
  cases d with
  | number s m p => exact nearest_nan f s m p
  | infinity s => exact read_word_nan f s _ (Nat.le_refl _)
  | nan s t => simp [Ieee.Datum.isNaN] at h

theorem sum_nan {x y d : Ieee.Datum} (h : x.sum y = some d) : d.isNaN = false := by
  cases x <;> cases y <;> simp [Ieee.Datum.sum] at h <;> first | (subst h; rfl) | (obtain ⟨_, rfl⟩ := h; rfl)
theorem product_nan {x y d : Ieee.Datum} (h : x.product y = some d) : d.isNaN = false := by
  unfold Ieee.Datum.product at h
  split at h
  · cases h
  · cases h
  · cases h; rfl
  · split at h
    · cases h
    · cases h; rfl
  · split at h
    · cases h
    · cases h; rfl
  · cases h; rfl
theorem quotient_nan {n : Nat} {x y d : Ieee.Datum} (h : x.quotient n y = some d) : d.isNaN = false := by
  unfold Ieee.Datum.quotient at h
  split at h
  · cases h
  · cases h
  · cases h
  · cases h; rfl
  · cases h; rfl
  · split at h
    · split at h
      · cases h
      · cases h; rfl
    · cases h; rfl

theorem floatBits_num {o : BinOp} {k : FloatKind} {x y r : Nat} (h : floatBits o k x y = some r) : isNan k r = false := by
  unfold floatBits at h
  unfold isNan FloatKind.decode
  cases o <;> simp only [reduceCtorEq] at h
  all_goals
    simp only [Ieee.Format.add, Ieee.Format.sub, Ieee.Format.mul, Ieee.Format.div, Option.map_eq_some_iff] at h
    obtain ⟨d, hd, rfl⟩ := h
    first
      | exact write_nan _ _ (sum_nan hd)
      | exact write_nan _ _ (product_nan hd)
      | exact write_nan _ _ (quotient_nan hd)

theorem FV_num {o : BinOp} {k : FloatKind} {x y : Option Nat} {r : Nat} (h : FV k o x y = some r) : isNan k r = false := by
  unfold FV at h
  cases x with
  | none => simp at h
  | some a => cases y with
    | none => simp at h
    | some b => exact floatBits_num h

theorem nan_bits (k : FloatKind) (x y t : Nat) : isNan k ((Question.nanBits k x y).cut t) = true := by
  cases k
  · have h1 : t % 2 < 2 := Nat.mod_lt _ (by decide)
    have h2 : t / 2 % 8388607 < 8388607 := Nat.mod_lt _ (by decide)
    show ((Ieee.single).read ((t % 2) * 2147483648 + 2139095040 + 1 + t / 2 % 8388607)).isNaN = true
    have hm : ((t % 2) * 2147483648 + 2139095040 + 1 + t / 2 % 8388607) % 2147483648 = 2139095040 + 1 + t / 2 % 8388607 := by omega
    unfold Ieee.Format.read
    have e1 : Ieee.single.signWeight = 2147483648 := by decide
    have e2 : Ieee.single.infRung = 2139095040 := by decide
    have e3 : Ieee.single.binade = 8388608 := by decide
    simp only [e1, e2, e3, hm]
    rw [if_neg (by omega), if_neg (by omega), if_neg (by omega)]
    rfl
  · have h1 : t % 2 < 2 := Nat.mod_lt _ (by decide)
    have h2 : t / 2 % 4503599627370495 < 4503599627370495 := Nat.mod_lt _ (by decide)
    show ((Ieee.double).read ((t % 2) * 9223372036854775808 + 9218868437227405312 + 1 + t / 2 % 4503599627370495)).isNaN = true
    have hm : ((t % 2) * 9223372036854775808 + 9218868437227405312 + 1 + t / 2 % 4503599627370495) % 9223372036854775808 = 9218868437227405312 + 1 + t / 2 % 4503599627370495 := by omega
    unfold Ieee.Format.read
    have e1 : Ieee.double.signWeight = 9223372036854775808 := by decide
    have e2 : Ieee.double.infRung = 9218868437227405312 := by decide
    have e3 : Ieee.double.binade = 4503599627370496 := by decide
    simp only [e1, e2, e3, hm]
    rw [if_neg (by omega), if_neg (by omega), if_neg (by omega)]
    rfl

/-- '+', '-', '*', '/' on floats: some bits, the NaN being one; the world is as it was but for draws. -/
theorem run_float (P : Program) (w : World) (o : BinOp) (k : FloatKind) (x y : Nat) (ho : o = .add ∨ o = .sub ∨ o = .mul ∨ o = .quo) :
    ∃ r n, (Op.floatArith o k x y).run P w = .ok (.float k r) (w.drewN n) ∧ cn k r = FV k o (cn k x) (cn k y) := by
  rw [FV_eq]
  cases hb : floatBits o k x y with
  | some r =>
    refine ⟨r, 0, ?_, ?_⟩
    · exact run_floatArith w hb
    · unfold cn; rw [floatBits_num hb]; rfl
  | none =>
    refine ⟨(Question.nanBits k x y).cut (w.tape w.drawn (.nanBits k x y)), 1, ?_, ?_⟩
    · rcases ho with rfl | rfl | rfl | rfl <;> simp only [floatBits] at hb <;> simp only [Op.floatArith, hb, pure_bind, Sem.run_bind, run_choose, Question.forced, Bool.false_eq_true, if_false, Result.andThen_ok, Sem.run_pure] <;> rfl
    · exact isNan_none.2 (nan_bits k x y _)

theorem order_nan {k : FloatKind} {x y : Nat} (h : isNan k x = true ∨ isNan k y = true) : k.format.order x y = none := by
  have hx : ∀ d : Ieee.Datum, d.isNaN = true → ∃ s f, d = .nan s f := by
    intro d hd; cases d <;> simp [Ieee.Datum.isNaN] at hd; exact ⟨_, _, rfl⟩
  rcases h with h | h
  · obtain ⟨s, f, hd⟩ := hx _ h
    simp only [FloatKind.decode] at hd
    simp [Ieee.Format.order, hd, Ieee.Datum.order]
  · obtain ⟨s, f, hd⟩ := hx _ h
    simp only [FloatKind.decode] at hd
    cases hxx : k.format.read x <;> simp [Ieee.Format.order, hd, hxx, Ieee.Datum.order]

theorem order_none {k : FloatKind} {x y : Nat} (h : k.format.order x y = none) : isNan k x = true ∨ isNan k y = true := by
  unfold Ieee.Format.order at h
  unfold isNan FloatKind.decode
  cases hx : k.format.read x <;> cases hy : k.format.read y <;> simp [hx, hy, Ieee.Datum.order, Ieee.Datum.isNaN] at h ⊢

theorem FMin_eq (k : FloatKind) (x y : Nat) : FMin k (cn k x) (cn k y) = min2F k x y := by
  unfold FMin
  cases hx : isNan k x with
  | true => rw [isNan_none.2 hx]; unfold min2F; rw [order_nan (.inl hx)]; rfl
  | false =>
    cases hy : isNan k y with
    | true => rw [isNan_none.2 hy]; unfold min2F; rw [order_nan (.inr hy)]; cases cn k x <;> rfl
    | false => simp [cn, hx, hy]
theorem FMax_eq (k : FloatKind) (x y : Nat) : FMax k (cn k x) (cn k y) = max2F k x y := by
  unfold FMax
  cases hx : isNan k x with
  | true => rw [isNan_none.2 hx]; unfold max2F; rw [order_nan (.inl hx)]; rfl
  | false =>
    cases hy : isNan k y with
    | true => rw [isNan_none.2 hy]; unfold max2F; rw [order_nan (.inr hy)]; cases cn k x <;> rfl
    | false => simp [cn, hx, hy]

theorem nanmm_bits (k : FloatKind) (m : Bool) (x y t : Nat) : isNan k ((Question.nanMinMax k m x y).cut t) = true := by
  cases k <;> exact nan_bits _ x y t

theorem order_num {k : FloatKind} {x y : Nat} {o : Ordering} (h : k.format.order x y = some o) : isNan k x = false ∧ isNan k y = false := by
  constructor
  · cases hx : isNan k x with
    | false => rfl
    | true => rw [order_nan (.inl hx)] at h; cases h
  · cases hx : isNan k y with
    | false => rfl
    | true => rw [order_nan (.inr hx)] at h; cases h
theorem cn_of_num {k : FloatKind} {x : Nat} (h : isNan k x = false) : cn k x = some x := by unfold cn; rw [h]; rfl

theorem run_min2 (P : Program) (w : World) (k : FloatKind) (x y : Nat) :
    ∃ r n, (Builtin.min2 (.float k x) (.float k y)).run P w = .ok (.float k r) (w.drewN n) ∧ cn k r = FMin k (cn k x) (cn k y) := by
  rw [FMin_eq]
  unfold min2F
  cases ho : k.format.order x y with
  | none =>
    refine ⟨(Question.nanMinMax k false x y).cut (w.tape w.drawn (.nanMinMax k false x y)), 1, ?_, isNan_none.2 (nanmm_bits k false x y _)⟩
    simp only [Builtin.min2, ho, pure_bind, Sem.run_bind, run_choose, Question.forced, Bool.false_eq_true, if_false, Result.andThen_ok, Sem.run_pure]
    rfl
  | some o =>
    obtain ⟨h1, h2⟩ := order_num ho
    cases o
    · exact ⟨x, 0, by simp only [Builtin.min2, ho]; rfl, cn_of_num h1⟩
    · refine ⟨if (k.decode x).neg then x else y, 0, by simp only [Builtin.min2, ho]; rfl, ?_⟩
      split
      · exact cn_of_num h1
      · exact cn_of_num h2
    · exact ⟨y, 0, by simp only [Builtin.min2, ho]; rfl, cn_of_num h2⟩
theorem run_max2 (P : Program) (w : World) (k : FloatKind) (x y : Nat) :
    ∃ r n, (Builtin.max2 (.float k x) (.float k y)).run P w = .ok (.float k r) (w.drewN n) ∧ cn k r = FMax k (cn k x) (cn k y) := by
  rw [FMax_eq]
  unfold max2F
  cases ho : k.format.order x y with
  | none =>
    refine ⟨(Question.nanMinMax k true x y).cut (w.tape w.drawn (.nanMinMax k true x y)), 1, ?_, isNan_none.2 (nanmm_bits k true x y _)⟩
    simp only [Builtin.max2, ho, pure_bind, Sem.run_bind, run_choose, Question.forced, Bool.false_eq_true, if_false, Result.andThen_ok, Sem.run_pure]
    rfl
  | some o =>
    obtain ⟨h1, h2⟩ := order_num ho
    cases o
    · exact ⟨y, 0, by simp only [Builtin.max2, ho]; rfl, cn_of_num h2⟩
    · refine ⟨if (k.decode x).neg then y else x, 0, by simp only [Builtin.max2, ho]; rfl, ?_⟩
      split
      · exact cn_of_num h2
      · exact cn_of_num h1
    · exact ⟨x, 0, by simp only [Builtin.max2, ho]; rfl, cn_of_num h1⟩

theorem Upon.of_value {P : Program} {K : Value → World → Prop} {s : Sem Value} {w : World} (h : runW P s w K) : Upon P K ((do pure (Next.value (← s)) : Sem Next).run P w) := by
  obtain ⟨v, w', hr, hk⟩ := h
  simp only [Sem.run_bind, hr, Result.andThen_ok, Sem.run_pure]
  exact hk

theorem binInt_sound {P : Program} {op : BinOp} {k : IntKind} {x y : Int} {w : World} {K : Value → World → Prop} {t : TypeId} {ox oy : Operand} (hs : isShift op = false)
    (h : binInt op k x y w K) : runW P (do eqGuard op t ox oy (.int k x) (.int k y); binOp op t (.int k x) (.int k y)) w K := by
  cases op <;> simp only [isShift, reduceCtorEq] at hs <;> simp only [binInt] at h
  case quo => exact ⟨_, _, by simp [eqGuard, binOp, Op.intDiv, h.1], h.2⟩
  case rem => exact ⟨_, _, by simp [eqGuard, binOp, Op.intDiv, h.1], h.2⟩
  all_goals
    first
      | refine ⟨_, _, ?_, h _ rfl⟩
      | refine ⟨_, _, ?_, h⟩
    simp only [binOp, ne_eq, not_true_eq_false, if_false]
    rfl

theorem shiftInt_sound {P : Program} {op : BinOp} {k k' : IntKind} {x y : Int} {w : World} {K : Value → World → Prop} {t : TypeId} {ox oy : Operand}
    (h : shiftInt op k x y w K) : runW P (do eqGuard op t ox oy (.int k x) (.int k' y); binOp op t (.int k x) (.int k' y)) w K := by
  cases op <;> simp only [shiftInt] at h
  all_goals
    have hy : ¬ y < 0 := by omega
    exact ⟨_, _, by simp [eqGuard, binOp, Op.shift, hy], h.2⟩

theorem binFloat_sound {P : Program} {op : BinOp} {k : FloatKind} {x y : Nat} {w : World} {K : Value → World → Prop} {t : TypeId} {ox oy : Operand}
    (h : binFloat op k x y w K) : runW P (do eqGuard op t ox oy (.float k x) (.float k y); binOp op t (.float k x) (.float k y)) w K := by
  cases op <;> simp only [binFloat] at h
  case add => obtain ⟨r, n, hr, hc⟩ := run_float P w .add k x y (by simp); exact ⟨_, _, by simp [eqGuard, binOp, hr], h r n hc⟩
  case sub => obtain ⟨r, n, hr, hc⟩ := run_float P w .sub k x y (by simp); exact ⟨_, _, by simp [eqGuard, binOp, hr], h r n hc⟩
  case mul => obtain ⟨r, n, hr, hc⟩ := run_float P w .mul k x y (by simp); exact ⟨_, _, by simp [eqGuard, binOp, hr], h r n hc⟩
  case quo => obtain ⟨r, n, hr, hc⟩ := run_float P w .quo k x y (by simp); exact ⟨_, _, by simp [eqGuard, binOp, hr], h r n hc⟩
  all_goals
    refine ⟨_, _, ?_, h _ rfl⟩
    simp only [binOp, ne_eq, not_true_eq_false, if_false]
    rfl

theorem binStr_sound {P : Program} {op : BinOp} {x y : ByteArray} {w : World} {K : Value → World → Prop} {t : TypeId} {ox oy : Operand}
    (h : binStr op x y w K) : runW P (do eqGuard op t ox oy (.string x) (.string y); binOp op t (.string x) (.string y)) w K := by
  cases op <;> simp only [binStr] at h
  case add =>
    have h1 : ¬ (((x.size + y.size : Nat) : Int) > IntKind.i64.max) := by
      have : IntKind.i64.max = 9223372036854775807 := by decide
      omega
    refine ⟨_, _, ?_, h.2⟩
    simp only [eqGuard, binOp, Op.stringOp, if_neg h1]
    rfl
  all_goals
    exact ⟨_, _, rfl, h _ rfl⟩

theorem binW_sound {P : Program} {op : BinOp} {t : TypeId} {ox oy : Operand} {x y : Value} {w : World} {K : Value → World → Prop}
    (h : binW P op t ox oy x y w K) : runW P (do eqGuard op t ox oy x y; binOp op t x y) w K := by
  unfold binW at h
  split at h
  · rename_i k a k' b
    cases hs : isShift op with
    | true => rw [hs] at h; exact shiftInt_sound h
    | false =>
      rw [hs] at h
      cases hk : kEq k k' with
      | false => rw [hk] at h; exact h.elim
      | true => rw [hk] at h; obtain rfl := kEq_iff.1 hk; exact binInt_sound hs h
  · rename_i k a k' b
    cases hk : fEq k k' with
    | false => rw [hk] at h; exact h.elim
    | true => rw [hk] at h; obtain rfl := fEq_iff.1 hk; exact binFloat_sound h
  · exact binStr_sound h
  · exact h

theorem unW_sound {P : Program} {op : UnOp} {x : Value} {w : World} {K : Value → World → Prop} (h : unW P op x w K) : runW P (Op.unary op x) w K := by
  unfold unW at h
  split at h
  · exact ⟨_, _, rfl, h⟩
  · exact ⟨_, _, rfl, h⟩
  · exact ⟨_, _, rfl, h⟩
  · exact h

theorem Upon.mono {P : Program} {K K' : Value → World → Prop} (hk : ∀ v w, K v w → K' v w) {r : Result Next} (h : Upon P K r) : Upon P K' r := by
  unfold Upon at *
  split at h
  · exact hk _ _ h
  · exact hk _ _ h
  · exact h.mono fun e w ⟨v, he, hv⟩ => ⟨v, he, hk _ _ hv⟩
  · exact h.elim

theorem fOff_sound {P : Program} {s : TypeId} {f off : Nat} (h : fOff P s f = some off) (ad : Addr) (w : World) :
    (Instr.fieldAt s (.pointer (some ad)) f).run P w = .ok (.pointer (some (ad.add off))) w := by
  unfold fOff at h
  split at h
  · rename_i fs hu
    split at h
    · rename_i fd hfd
      split at h
      · rename_i i hi
        cases hz : (i.size == 0) with
        | true => rw [hz] at h; cases h
        | false =>
          rw [hz] at h
          cases h
          have hz' : ¬ i.size = 0 := by simpa using hz
          simp [Instr.fieldAt, run_underlying hu, hfd, Instr.sureAddr, fieldPlace, sizeOf, typeInfo, hi, hz']
      · cases h
    · cases h
  · cases h

theorem ixW_sound {P : Program} {t : TypeId} {x ix : Value} {w : World} {K : Value → World → Prop} (h : ixW (shp P t) x ix w K) : runW P (Instr.indexAt t x ix) w K := by
  unfold ixW at h
  split at h
  · rename_i sz a len c k i hs
    refine ⟨_, _, ?_, h.2⟩
    unfold shp at hs
    split at hs
    · rename_i el hu
      split at hs
      · rename_i inf hi
        cases hs
        simp [Instr.indexAt, asIntOf, run_underlying hu, h.1.1, h.1.2, sizeOf, typeInfo, hi]
      · cases hs
    · split at hs <;> cases hs
    · cases hs
    · cases hs
  · rename_i len sz a k i hs
    refine ⟨_, _, ?_, h.2⟩
    unfold shp at hs
    split at hs
    · split at hs <;> cases hs
    · rename_i n el hu
      split at hs
      · rename_i inf hi
        cases hs
        simp [Instr.indexAt, asIntOf, run_underlying hu, Instr.sureAddr, h.1.1, h.1.2, sizeOf, typeInfo, hi]
      · cases hs
    · cases hs
    · cases hs
  · exact h.elim

theorem lenW_sound {P : Program} {tx t : TypeId} {rest : List TypeId} {x : Value} {w : World} {K : Value → World → Prop} (h : lenW (shp P tx) x w K) : runW P (Builtin.len_ (tx :: rest).toArray t #[x]) w K := by
  unfold lenW at h
  split at h
  · rename_i sz a n c hs
    refine ⟨_, _, ?_, h⟩
    unfold shp at hs
    split at hs
    · rename_i el hu
      simp [Builtin.len_, run_underlying hu, goInt]
    · split at hs <;> cases hs
    · cases hs
    · cases hs
  · rename_i s hs
    refine ⟨_, _, ?_, h⟩
    unfold shp at hs
    split at hs
    · split at hs <;> cases hs
    · split at hs <;> cases hs
    · rename_i hu
      simp [Builtin.len_, run_underlying hu, goInt]
    · cases hs
  · rename_i n sz _ hs
    refine ⟨_, _, ?_, h⟩
    unfold shp at hs
    split at hs
    · split at hs <;> cases hs
    · rename_i m el hu
      split at hs
      · cases hs
        simp [Builtin.len_, run_underlying hu, goInt]
      · cases hs
    · cases hs
    · cases hs
  · exact h.elim

theorem cvW_sound {P : Program} {src dst : TypeId} {x : Value} {w : World} {K : Value → World → Prop} (hs : (P.underlying src).isSome = true)
    (h : cvW P src dst (P.underlying dst) x w K) : runW P (convert src dst x) w K := by
  unfold cvW at h
  split at h
  · rename_i k k' n hd
    obtain ⟨u, hu⟩ := Option.isSome_iff_exists.1 hs
    refine ⟨_, _, ?_, h⟩
    simp [convert, run_underlying hu, run_underlying hd, Conv.intToInt]
  · rename_i k k' n hd
    obtain ⟨u, hu⟩ := Option.isSome_iff_exists.1 hs
    refine ⟨_, _, ?_, h⟩
    simp [convert, run_underlying hu, run_underlying hd, Conv.intToFloat]
  · exact h

theorem min2W_sound {P : Program} {ts : Array TypeId} {t : TypeId} {x y : Value} {w : World} {K : Value → World → Prop} (h : min2W x y w K) : runW P (Builtin.min_ ts t #[x, y]) w K := by
  unfold min2W at h
  split at h
  · rename_i k a k' b'
    cases hk : fEq k k' with
    | false => rw [hk] at h; exact h.elim
    | true =>
      rw [hk] at h
      obtain rfl := fEq_iff.1 hk
      obtain ⟨r, n, hr, hc⟩ := run_min2 P w k a b'
      refine ⟨_, _, ?_, h r n hc⟩
      simp only [Builtin.min_, List.foldlM_cons, List.foldlM_nil, bind_pure]
      exact hr
  · refine ⟨_, _, ?_, h⟩
    simp only [Builtin.min_, List.foldlM_cons, List.foldlM_nil, bind_pure]
    rfl
  · exact h.elim
theorem max2W_sound {P : Program} {ts : Array TypeId} {t : TypeId} {x y : Value} {w : World} {K : Value → World → Prop} (h : max2W x y w K) : runW P (Builtin.max_ ts t #[x, y]) w K := by
  unfold max2W at h
  split at h
  · rename_i k a k' b'
    cases hk : fEq k k' with
    | false => rw [hk] at h; exact h.elim
    | true =>
      rw [hk] at h
      obtain rfl := fEq_iff.1 hk
      obtain ⟨r, n, hr, hc⟩ := run_max2 P w k a b'
      refine ⟨_, _, ?_, h r n hc⟩
      simp only [Builtin.max_, List.foldlM_cons, List.foldlM_nil, bind_pure]
      exact hr
  · refine ⟨_, _, ?_, h⟩
    simp only [Builtin.max_, List.foldlM_cons, List.foldlM_nil, bind_pure]
    rfl
  · exact h.elim

theorem val_of {P : Program} {K : Value → World → Prop} {s : Sem Value} {w : World} (h : runW P s w K) : ∃ v w', (do pure (Next.value (← s)) : Sem Next).run P w = .ok (.value v) w' ∧ K v w' := by
  obtain ⟨v, w', hr, hk⟩ := h
  exact ⟨v, w', by simp only [Sem.run_bind, hr, Result.andThen_ok, Sem.run_pure], hk⟩
theorem builtW_val {P : Program} {b : Builtin} {ts : Array TypeId} {t : TypeId} {cs : Array Bool} {args : Array Value} {w : World} {K : Value → World → Prop}
    (h : builtW P b ts.toList t args.toList w K) : ∃ v w', (builtin b ts t cs args).run P w = .ok (.value v) w' ∧ K v w' := by
  obtain ⟨args⟩ := args
  obtain ⟨ts⟩ := ts
  simp only at h
  unfold builtW at h
  split at h
  · split at h
    · exact val_of (lenW_sound h)
    · exact h.elim
  · exact val_of ⟨_, _, rfl, h⟩
  · exact val_of ⟨_, _, rfl, h⟩
  · rename_i k a k' b'
    cases hk : fEq k k' with
    | false => rw [hk] at h; exact h.elim
    | true =>
      rw [hk] at h
      obtain rfl := fEq_iff.1 hk
      refine val_of ⟨_, _, ?_, h⟩
      show (if k = k then (pure (.complex k a b') : Sem Value) else _).run P w = _
      rw [if_pos rfl]; rfl
  · exact val_of h
  · exact val_of h
  · rename_i x y
    refine val_of (min2W_sound ?_)
    exact h
  · rename_i x y
    refine val_of (max2W_sound ?_)
    exact h
  · exact val_of h
  · exact val_of h
  · exact h.elim

theorem builtW_sound {P : Program} {b : Builtin} {ts : Array TypeId} {t : TypeId} {cs : Array Bool} {args : Array Value} {w : World} {K : Value → World → Prop}
    (h : builtW P b ts.toList t args.toList w K) : Upon P K ((builtin b ts t cs args).run P w) := by
  obtain ⟨v, w', hr, hk⟩ := builtW_val (cs := cs) h
  rw [hr]; exact hk

theorem run_callFunc_body {P : Program} {f : FuncId} {args : Array Value} {w : World} (h : hasBody P f = true) : (callFunc f args).run P w = .ok (.enter f args) w := by
  unfold hasBody at h
  cases hf : P.funcs[f]? with
  | none => rw [hf] at h; simp at h
  | some fn =>
    rw [hf] at h
    simp only [Option.any_some, Bool.and_eq_true, Bool.not_eq_true'] at h
    have hb : fn.body.isNone = false := by cases hbb : fn.body <;> simp [hbb] at h ⊢
    simp only [callFunc, Sem.run_bind, run_program, Result.andThen_ok, hf, h.2, hb, Bool.false_eq_true, if_false, Sem.run_pure]

theorem callW_sound {P : Program} {f : Value} {args : Array Value} {w : World} {K : Value → World → Prop} (h : callW P f args.toList w K) :
    Upon P K ((do let d ← Deferred.ofValue f args; invoke d.target d.args : Sem Next).run P w) := by
  unfold callW at h
  split at h
  · rename_i g first captured
    rw [argsW_eq] at h
    have hl : (first.toList ++ args.toList ++ captured.toList).toArray = first ++ args ++ captured := by
      rw [← Array.toList_append, ← Array.toList_append]
    rw [hl] at h
    rcases h with h | ⟨v, w', hr, hk⟩
    · have hr := run_callFunc_body (P := P) (args := first ++ args ++ captured) (w := w) h.1
      simp only [Deferred.ofValue, invoke, Sem.run_bind, Sem.run_pure, Result.andThen_ok, hr]
      exact h.2
    · simp only [Deferred.ofValue, invoke, Sem.run_bind, Sem.run_pure, Result.andThen_ok, hr]
      exact hk
  · exact h.elim

theorem opW_sound {P : Program} {e : Env} {o : Oper} {w : World} {K : Value → World → Prop} (h : opW P e o.op o.type w K) : Upon P K ((execOp (ev e) o).run P w) := by
  unfold opW at h
  unfold execOp
  split at h
  · rename_i x ho; simp only [ho]; exact h
  · rename_i x ho; simp only [ho]; exact h
  · rename_i c a b ho
    simp only [ho]
    unfold pickW at h
    split at h
    · rename_i hc; simp only [hc, asBool, pure_bind, if_true]; exact h
    · rename_i hc; simp only [hc, asBool, pure_bind]; exact h
    · exact h.elim
  · rename_i elem ho
    simp only [ho]
    unfold allocW at h
    split at h
    · rename_i cs hz
      refine Upon.of_value ⟨_, _, ?_, h⟩
      unfold zc at hz
      cases hi : P.info? elem with
      | none => rw [hi] at hz; cases hz
      | some i =>
        rw [hi] at hz
        cases hzz : i.zero with
        | none => simp [hzz] at hz
        | some z =>
          simp [hzz] at hz
          subst hz
          simp only [Instr.alloc, zeroValue, typeInfo, Sem.run_bind, run_program, Result.andThen_ok, hi, hzz, Sem.run_pure, newVar, newRow, run_newObj]
          rfl
    · exact h.elim
  · rename_i elem x ho
    simp only [ho]
    exact Upon.of_value ⟨_, _, rfl, h⟩
  · rename_i t parts ho
    simp only [ho]
    obtain ⟨cells, hc, hk⟩ := h
    refine Upon.of_value ⟨_, _, run_build w t _ cells ?_, hk⟩
    rw [← hc, evp_eq]; congr 1; simp
  · rename_i t len parts ho
    simp only [ho]
    rw [evp_eq] at h
    have hl : (parts.toList.map fun p => (p.1, ev e p.2)).toArray = parts.map fun p => (p.1, ev e p.2) := by rw [← Array.toList_map]
    rw [hl] at h
    exact Upon.of_value h
  · rename_i t a ho
    simp only [ho]
    unfold loadW at h
    split at h
    · rename_i ad ha
      obtain ⟨v, hr, hk⟩ := h
      refine Upon.of_value ⟨v, w, ?_, hk⟩
      simp only [ha, Instr.loadAt, Instr.sureAddr, pure_bind, hr]
    · exact h.elim
  · rename_i t a x ho
    simp only [ho]
    unfold storeW at h
    split at h
    · rename_i ad ha
      obtain ⟨w', hr, hk⟩ := h
      simp only [ha, Instr.storeAt, Instr.sureAddr, pure_bind, Sem.run_bind, hr, Result.andThen_ok, Sem.run_pure]
      exact hk
    · exact h.elim
  · rename_i x ho
    simp only [ho]
    unfold nilW at h
    split at h
    · rename_i ad ha
      simp only [ha]
      exact h
    · exact h.elim
  · rename_i op t x y yt ho
    simp only [ho]
    exact Upon.of_value (binW_sound h)
  · rename_i op t x ho
    simp only [ho]
    exact Upon.of_value (unW_sound h)
  · rename_i src dst x ho
    simp only [ho]
    cases hs : (P.underlying src).isSome with
    | false => rw [hs] at h; exact h.elim
    | true => rw [hs] at h; exact Upon.of_value (cvW_sound hs h)
  · rename_i fn first captured ho
    simp only [ho]
    rw [evs_eq, evs_eq] at h
    have h1 : (first.toList.map (ev e)).toArray = first.map (ev e) := by rw [← Array.toList_map]
    have h2 : (captured.toList.map (ev e)).toArray = captured.map (ev e) := by rw [← Array.toList_map]
    rw [h1, h2] at h
    exact Upon.of_value ⟨_, _, rfl, h⟩
  · rename_i t l c ho
    simp only [ho]
    exact Upon.of_value h
  · rename_i t x lo hi mx ho
    simp only [ho]
    rw [evo_eq, evo_eq, evo_eq] at h
    exact Upon.of_value h
  · rename_i s x f ho
    simp only [ho]
    unfold faddrW at h
    split at h
    · rename_i off ad hoff ha
      refine Upon.of_value ⟨_, _, ?_, h⟩
      rw [ha]; exact fOff_sound hoff ad w
    · exact h.elim
  · rename_i t x f ho
    simp only [ho]
    exact Upon.of_value h
  · rename_i t x ix ho
    simp only [ho]
    exact Upon.of_value (ixW_sound h)
  · rename_i t x ix ho
    simp only [ho]
    exact Upon.of_value h
  · rename_i t ix ho
    simp only [ho]
    unfold extW at h
    split at h
    · rename_i vs hv
      obtain ⟨v, hvx, hk⟩ := h
      refine Upon.of_value ⟨v, w, ?_, hk⟩
      simp [Instr.extract, hv, hvx]
    · exact h.elim
  · rename_i t x ho
    simp only [ho]
    exact Upon.of_value h
  · rename_i x t a ok ho
    simp only [ho]
    exact Upon.of_value h
  · rename_i c ho
    simp only [ho]
    split at h
    · rename_i b hb
      simp only [resolve, hb, pure_bind, invoke]
      rw [evs_eq] at h
      exact builtW_sound (by simpa using h)
    · rename_i f hf
      simp only [resolve, hf]
      rw [evs_eq] at h
      exact callW_sound (by simpa using h)
    · exact h.elim
  · exact h.elim

theorem yielded_yv {n : Nat} {e : Env} {a : Act} (h : Rep n e a) (ops : List Oper) (hf : (ops.all (dstIn n)) = true) (j : Nat) :
    yielded ops.toArray a.tmps j = asB (yv ops j e) := by
  unfold yielded
  rw [yv_eq]
  simp only [List.getElem?_toArray]
  cases hj : ops[j]? with
  | none => rfl
  | some o =>
    simp only [Option.bind_some]
    have hd := List.all_eq_true.1 hf o (List.mem_of_getElem? hj)
    unfold dstIn at hd
    cases hod : o.dst with
    | none => rfl
    | some d =>
      rw [hod] at hd
      have hd' : d < n := by simpa [Nat.blt_eq] using hd
      have hat := h.at_ d
      have hsz := h.size
      simp only [Option.bind_some]
      have hlt : d < a.tmps.size := by rw [hsz]; exact hd'
      rw [Array.getElem?_eq_getElem hlt]
      have : a.tmps.getD d undef = a.tmps[d] := by simp [Array.getD_eq_getD_getElem?, Array.getElem?_eq_getElem hlt]
      rw [← hat, this]
      cases a.tmps[d] <;> rfl

theorem opUpon {P : Program} {n : Nat} {o : Oper} {a : Act} {e : Env} {w : World} {K : Value → World → Prop} {next : Act → World → Prop} {Q : Exit → Act → World → Prop} (hr : Rep n e a)
    (hk : ∀ v w', K v w' → next (a.put o.dst v) w') (h : opW P e o.op o.type w K) : o.wp P a w next Q := by
  have hs := opW_sound h
  unfold Oper.wp
  rw [hr.eval]
  generalize (execOp (ev e) o).run P w = r at hs
  unfold Upon at hs
  split at hs
  · exact hk _ _ hs
  · exact hk _ _ hs
  · refine Calls.mono hs ?_
    rintro e' w'' ⟨v, rfl, hv⟩
    exact hk _ _ hv
  · exact hs.elim

theorem WL_sound {P : Program} {n : Nat} {ops : List Oper} (hall : (ops.all (dstIn n)) = true) {Q : Exit → Act → World → Prop} {K : Env → World → Prop} (hq : ∀ e a w, Rep n e a → K e w → Q .normal a w) :
    ∀ (l : List Oper), (l.all (dstIn n)) = true → ∀ (e : Env) (a : Act) (w : World), Rep n e a → WL P ops l K e w → wpList P ops.toArray Q l a w
  | [], _, e, a, w, hr, h => hq e a w hr h
  | o :: rest, hl, e, a, w, hr, h => by
    simp only [List.all_cons, Bool.and_eq_true] at hl
    have ih := WL_sound (P := P) hall hq rest hl.2
    have hput : ∀ v, Rep n (putE e o.dst v) (a.put o.dst v) := fun v => hr.put o.dst v (by have := hl.1; unfold dstIn at this; exact this)
    unfold WL at h
    unfold wpList
    split at h
    · rename_i hg
      rw [if_pos (by simp [Region.wanted, hg])]
      exact .inl (opUpon hr (fun v w' hv => ih _ _ _ (hput v) hv) h)
    · rename_i j want hg
      have hy := yielded_yv hr ops hall j
      split at h
      · rename_i hw
        rw [if_pos (by simp only [Region.wanted, hg, hy]; exact hw)]
        exact .inl (opUpon hr (fun v w' hv => ih _ _ _ (hput v) hv) h)
      · rename_i hw
        rw [if_neg (by simp only [Region.wanted, hg, hy, hw]; exact Bool.false_ne_true)]
        exact ih _ _ _ (hput undef) h

theorem W_sound {P : Program} {n : Nat} : ∀ (c : Code), fits n c = true → ∀ (Q : Exit → Env → World → Prop) (Q' : Exit → Act → World → Prop), (∀ x e a w, Rep n e a → Q x e w → Q' x a w) →
    ∀ (e : Env) (a : Act) (w : World), Rep n e a → W P c Q e w → c.wp P Q' a w
  | .skip, _, Q, Q', hq, e, a, w, hr, h => wp_skip (hq _ _ _ _ hr h)
  | .region id ops draw, hf, Q, Q', hq, e, a, w, hr, h => by
    cases draw with
    | false =>
      have hf' : (ops.toList.all (dstIn n)) = true := hf
      exact wp_region_list (by
        have := WL_sound hf' (fun e a w hr hk => hq .normal e a w hr hk) ops.toList hf' e a w hr h
        simpa using this)
    | true => exact h n a Q' hf hr (fun x e' w' a' hr' hx => hq x e' a' w' hr' hx)
  | .seq x y, hf, Q, Q', hq, e, a, w, hr, h => by
    simp only [fits, Bool.and_eq_true] at hf
    refine wp_seq (W_sound x hf.1 _ _ ?_ e a w hr h)
    intro ex e' a' w' hr' hx
    cases ex with
    | normal => exact W_sound y hf.2 Q Q' hq e' a' w' hr' hx
    | exit i => exact hq _ _ _ _ hr' hx
    | goto i => exact hq _ _ _ _ hr' hx
    | ret => exact hq _ _ _ _ hr' hx
    | panic i => exact hq _ _ _ _ hr' hx
    | outgrown => exact hq _ _ _ _ hr' hx
  | .cond c x y, hf, Q, Q', hq, e, a, w, hr, h => by
    simp only [fits, Bool.and_eq_true] at hf
    simp only [W] at h
    split at h
    · rename_i hc; exact wp_cond_true (by rw [hr.eval]; exact hc) (W_sound x hf.1 Q Q' hq e a w hr h)
    · rename_i hc; exact wp_cond_false (by rw [hr.eval]; exact hc) (W_sound y hf.2 Q Q' hq e a w hr h)
    · exact h.elim
  | .block id x, hf, Q, Q', hq, e, a, w, hr, h => by
    refine wp_block (W_sound x hf _ _ ?_ e a w hr h)
    intro ex e' a' w' hr' hx
    cases ex with
    | exit i =>
      change (bif i == id then Q .normal e' w' else Q (.exit i) e' w') at hx
      unfold Exit.inBlock
      by_cases hid : i = id
      · subst hid
        simp only [beq_self_eq_true, cond_true] at hx
        simp only [if_true]
        exact hq _ _ _ _ hr' hx
      · have hb : (i == id) = false := by simpa using hid
        rw [hb, cond_false] at hx
        simp only [if_neg hid]
        exact hq _ _ _ _ hr' hx
    | normal => exact hq _ _ _ _ hr' hx
    | goto i => exact hq _ _ _ _ hr' hx
    | ret => exact hq _ _ _ _ hr' hx
    | panic i => exact hq _ _ _ _ hr' hx
    | outgrown => exact hq _ _ _ _ hr' hx
  | .loop x, hf, Q, Q', hq, e, a, w, hr, h => by
    change LoopW (W P x) Q e w at h
    obtain ⟨σ, fr, I, m, ⟨s0, hs0, hI0⟩, hround⟩ := h
    intro b kk cs
    have key : ∀ (k : Nat) (s : σ) (e : Env) (a : Act) (w : World), m s = k → Rep n e a → agrees e (fr s) → I s w →
        ∃ ex a' w', Q' ex a' w' ∧ Arrives P (lone (b.at a (.code x :: .inLoop x :: kk)) cs w) b kk cs ex a' w' := by
      intro k
      induction k using Nat.strongRecOn with
      | _ k ih =>
        intro s e a w hm hr ha hI
        have hov := over_agrees ha
        have h1 := hround s w e hI
        rw [hov] at h1
        have hbody := W_sound x hf _ (Exit.then (fun a' w' => ∃ e' s2, Rep n e' a' ∧ agrees e' (fr s2) ∧ I s2 w' ∧ m s2 < m s) Q') (by
          intro ex e' a' w' hr' hx
          cases ex with
          | normal =>
            obtain ⟨s2, ha2, hI2, hlt⟩ := hx
            exact ⟨e', s2, hr', ha2, hI2, hlt⟩
          | exit i => exact hq _ _ _ _ hr' hx
          | goto i => exact hq _ _ _ _ hr' hx
          | ret => exact hq _ _ _ _ hr' hx
          | panic i => exact hq _ _ _ _ hr' hx
          | outgrown => exact hq _ _ _ _ hr' hx) e a w hr h1
        obtain ⟨ex, a1, w1, hq1, harr⟩ := hbody b (.inLoop x :: kk) cs
        cases ex with
        | normal =>
          obtain ⟨e', s2, hr2, ha2, hI2, hlt⟩ := hq1
          obtain ⟨e2, a2, w2, hq2, harr2⟩ := ih (m s2) (hm ▸ hlt) s2 e' a1 w1 rfl hr2 ha2 hI2
          exact ⟨e2, a2, w2, hq2, .of_steps (Steps.trans harr (.one step_inLoop)) harr2⟩
        | exit i => exact ⟨_, a1, w1, hq1, .pass (x := .inLoop x) rfl (fun _ _ => .inl (by simp)) harr⟩
        | goto i => exact ⟨_, a1, w1, hq1, .pass (x := .inLoop x) rfl (fun _ _ => .inl (by simp)) harr⟩
        | ret => exact ⟨_, a1, w1, hq1, .pass (x := .inLoop x) rfl (fun _ _ => .inl (by simp)) harr⟩
        | panic i => exact ⟨_, a1, w1, hq1, .pass (x := .inLoop x) rfl (fun _ _ => .inl (by simp)) harr⟩
        | outgrown => exact ⟨_, a1, w1, hq1, .pass (x := .inLoop x) rfl (fun _ _ => .inl (by simp)) harr⟩
    obtain ⟨ex, a', w', hq', harr⟩ := key _ s0 e a w rfl hr hs0 hI0
    exact ⟨ex, a', w', hq', .of_steps (.one step_loop) harr⟩
  | .exit id, _, Q, Q', hq, e, a, w, hr, h => wp_exit (hq _ _ _ _ hr h)
  | .ret, _, Q, Q', hq, e, a, w, hr, h => wp_ret (hq _ _ _ _ hr h)
  | .rangeFunc _ _ _ _, _, _, _, _, _, _, _, _, h => h.elim
  | .scope _, _, _, _, _, _, _, _, _, h => h.elim
  | .label _, _, _, _, _, _, _, _, _, h => h.elim
  | .goto _, _, _, _, _, _, _, _, _, h => h.elim
  | .refuse _, _, _, _, _, _, _, _, _, h => h.elim

/-- what the results of a call are -/
def resW : List ResultVar → Env → Option Value
  | [.tmp t], e => some (e t)
  | [], _ => some (.tuple #[])
  | [.tmp t, .tmp u], e => some (.tuple #[e t, e u])
  | [.tmp t, .tmp u, .tmp v], e => some (.tuple #[e t, e u, e v])
  | [.tmp t, .tmp u, .tmp v, .tmp x], e => some (.tuple #[e t, e u, e v, e x])
  | _, _ => none
/-- the end of a body -/
def endW (P : Program) (rs : List ResultVar) (R : Value → World → Prop) : Exit → Env → World → Prop
  | .normal, e, w => match resW rs e with
    | some v => R v w
    | none => ∃ v, (∀ (fn : Func) (a : Array Value), fn.results.toList = rs → (∀ i, a.getD i undef = e i) → (results fn a).run P w = .ok v w) ∧ R v w
  | .ret, e, w => match resW rs e with
    | some v => R v w
    | none => ∃ v, (∀ (fn : Func) (a : Array Value), fn.results.toList = rs → (∀ i, a.getD i undef = e i) → (results fn a).run P w = .ok v w) ∧ R v w
  | _, _, _ => False

theorem results_eq {fn : Func} {rs : List ResultVar} {e : Env} {v : Value} {a : Array Value} (P : Program) (w : World) (h : fn.results.toList = rs) (ha : ∀ i, a.getD i undef = e i) (hv : resW rs e = some v) :
    (results fn a).run P w = .ok v w := by
  have hfn : fn.results = rs.toArray := by rw [← h]
  unfold resW at hv
  split at hv <;> simp only [Option.some.injEq, reduceCtorEq] at hv <;> subst hv <;> simp [results, hfn, ha]

theorem fn_of_W {P : Program} {f : FuncId} {fn : Func} {c : Code} {args : Array Value} {w : World} {R : Value → World → Prop}
    (hf : P.funcs[f]? = some fn) (hb : fn.body = some c) (hh : hasBody P f = true) (hfit : fits fn.ntmps c = true) (hn : args.size ≤ fn.ntmps)
    (h : W P c (endW P fn.results.toList R) (env0 args.toList) w) : Ct P f args w R := by
  refine .inl ⟨hh, calls_of_wp hf hb ?_⟩
  have hrep : Rep fn.ntmps (env0 args.toList) { tmps := args ++ Array.replicate (fn.ntmps - args.size) undef, defers := [] } := by
    refine ⟨rfl, by simp; omega, fun i => ?_⟩
    show (args ++ Array.replicate (fn.ntmps - args.size) undef).getD i undef = args.toList.getD i undef
    rw [Array.getD_eq_getD_getElem?, List.getD_eq_getElem?_getD, Array.getElem?_append]
    split
    · simp
    · rename_i hi
      rw [Array.getElem?_replicate]
      have : args.toList[i]? = none := by simp; omega
      rw [this]
      split <;> rfl
  refine W_sound c hfit _ _ ?_ _ _ _ hrep h
  intro x e a w' hr hx
  have fin : ∀ (v : Value), (results fn a.tmps).run P w' = .ok v w' → R v w' → a.defers = [] ∧ ∃ v, (results fn a.tmps).run P w' = .ok v w' ∧ ∃ u, Ending.returned v = Ending.returned u ∧ R u w' :=
    fun v hv hR => ⟨hr.defers, v, hv, v, rfl, hR⟩
  cases x with
  | normal =>
    simp only [endW] at hx
    split at hx
    · rename_i v hv; exact fin v (results_eq P w' rfl hr.at_ hv) hx
    · obtain ⟨v, h1, h2⟩ := hx; exact fin v (h1 fn a.tmps rfl hr.at_) h2
  | ret =>
    simp only [endW] at hx
    split at hx
    · rename_i v hv; exact fin v (results_eq P w' rfl hr.at_ hv) hx
    · obtain ⟨v, h1, h2⟩ := hx; exact fin v (h1 fn a.tmps rfl hr.at_) h2
  | exit i => exact hx.elim
  | goto i => exact hx.elim
  | panic i => exact hx.elim
  | outgrown => exact hx.elim

/-! ### The rewriting rules, all by definition -/
section rules
variable (P : Program) (Q : Exit → Env → World → Prop) (K : Env → World → Prop) (V : Value → World → Prop) (e : Env) (w : World) (ops rest : List Oper)
theorem r_skip : W P .skip Q e w = Q .normal e w := (rfl)
theorem r_region (id : Nat) (l : List Oper) : W P (.region id l.toArray false) Q e w = WL P l l (Q .normal) e w := (rfl)
theorem r_draw (id : Nat) (l : List Oper) : W P (.region id l.toArray true) Q e w = DrawW P id l.toArray Q e w := (rfl)
theorem r_seq (a b : Code) : W P (.seq a b) Q e w = W P a (thenW (W P b Q) Q) e w := (rfl)
theorem r_cond (c : Operand) (a b : Code) : W P (.cond c a b) Q e w = condW (ev e c) P a b Q e w := (rfl)
theorem r_cond_t (a b : Code) : condW (.bool true) P a b Q e w = W P a Q e w := (rfl)
theorem r_cond_f (a b : Code) : condW (.bool false) P a b Q e w = W P b Q e w := (rfl)
theorem r_block (id : Nat) (a : Code) : W P (.block id a) Q e w = W P a (blockW id Q) e w := (rfl)
theorem r_exit (id : Nat) : W P (.exit id) Q e w = Q (.exit id) e w := (rfl)
theorem r_ret : W P .ret Q e w = Q .ret e w := (rfl)
theorem r_loop (a : Code) : W P (.loop a) Q e w = LoopW (W P a) Q e w := (rfl)
theorem r_then_n : thenW K Q .normal e w = K e w := (rfl)
theorem r_then_r : thenW K Q .ret e w = Q .ret e w := (rfl)
theorem r_then_x (i : Nat) : thenW K Q (.exit i) e w = Q (.exit i) e w := (rfl)
theorem r_then_n' : thenW K Q .normal = K := (rfl)
theorem r_blk_n (id : Nat) : blockW id Q .normal e w = Q .normal e w := (rfl)
theorem r_blk_n' (id : Nat) : blockW id Q .normal = Q .normal := (rfl)
theorem r_blk_r (id : Nat) : blockW id Q .ret e w = Q .ret e w := (rfl)
theorem r_blk_x (id i : Nat) : blockW id Q (.exit i) e w = bif i == id then Q .normal e w else Q (.exit i) e w := (rfl)
theorem r_nil : WL P ops [] K e w = K e w := (rfl)
theorem r_cons (d : Option Nat) (op : Op) (ty : Nat) (pos : String) (af : Array Edge) : WL P ops (⟨d, op, ty, pos, af, none⟩ :: rest) K e w = opW P e op ty w (WLk P ops rest K e d) := (rfl)
theorem r_consg (d : Option Nat) (op : Op) (ty : Nat) (pos : String) (af : Array Edge) (j : Nat) (want : Bool) : WL P ops (⟨d, op, ty, pos, af, some (j, want)⟩ :: rest) K e w = gdW (yv ops j e) want P ops op ty rest K e d w := (rfl)
theorem r_k (d : Nat) (v : Value) : WLk P ops rest K e (some d) v w = WL P ops rest K (upd e d v) w := (rfl)
theorem r_k0 (v : Value) : WLk P ops rest K e none v w = WL P ops rest K e w := (rfl)
theorem r_yv0 (d : Nat) (op : Op) (ty : Nat) (pos : String) (af : Array Edge) (g) : yv (⟨some d, op, ty, pos, af, g⟩ :: rest) 0 e = e d := (rfl)
theorem r_yvs (o : Oper) (j : Nat) : yv (o :: rest) (j + 1) e = yv rest j e := (rfl)
theorem r_gtt (op : Op) (ty : Nat) (d : Option Nat) : gdW (.bool true) true P ops op ty rest K e d w = opW P e op ty w (WLk P ops rest K e d) := (rfl)
theorem r_gff (op : Op) (ty : Nat) (d : Option Nat) : gdW (.bool false) false P ops op ty rest K e d w = opW P e op ty w (WLk P ops rest K e d) := (rfl)
theorem r_gtf (op : Op) (ty : Nat) (d : Nat) : gdW (.bool true) false P ops op ty rest K e (some d) w = WL P ops rest K (upd e d undef) w := (rfl)
theorem r_gft (op : Op) (ty : Nat) (d : Nat) : gdW (.bool false) true P ops op ty rest K e (some d) w = WL P ops rest K (upd e d undef) w := (rfl)
theorem r_gu (want : Bool) (op : Op) (ty : Nat) (d : Nat) : gdW undef want P ops op ty rest K e (some d) w = WL P ops rest K (upd e d undef) w := by cases want <;> rfl
theorem r_o_move (ty : Nat) (x : Operand) : opW P e (.move x) ty w V = V (ev e x) w := (rfl)
theorem r_o_assign (ty : Nat) (x : Operand) : opW P e (.assign x) ty w V = V (ev e x) w := (rfl)
theorem r_o_pick (ty : Nat) (c a b : Operand) : opW P e (.pick c a b) ty w V = pickW (ev e c) (ev e a) (ev e b) w V := (rfl)
theorem r_pick_t (a b : Value) : pickW (.bool true) a b w V = V a w := (rfl)
theorem r_pick_f (a b : Value) : pickW (.bool false) a b w V = V b w := (rfl)
theorem r_o_alloc (ty elem : Nat) : opW P e (.alloc elem) ty w V = allocW (zc P elem) elem w V := (rfl)
theorem r_alloc (cs : Array Value) (elem : Nat) : allocW (some cs) elem w V = V (.pointer (some ⟨w.heap.size, 0, none⟩)) (w.alloc (.cells cs elem)) := (rfl)
theorem r_o_box (ty elem : Nat) (x : Operand) : opW P e (.box elem x) ty w V = V (.pointer (some ⟨w.heap.size, 0, none⟩)) (w.alloc (.cells (ev e x).cells elem)) := (rfl)
theorem r_o_build (ty t : Nat) (parts : List (Nat × Operand)) : opW P e (.build t parts.toArray) ty w V = ∃ cells, P.built t (evp e parts) = some cells ∧ V (.agg cells) w := (rfl)
theorem r_o_bslice (ty t len : Nat) (parts : List (Nat × Operand)) : opW P e (.buildSlice t len parts.toArray) ty w V = runW P (Instr.buildSlice t len (evp e parts).toArray) w V := (rfl)
theorem r_o_load (ty t : Nat) (a : Operand) : opW P e (.load t a) ty w V = loadW P t (ev e a) w V := (rfl)
theorem r_load (t : Nat) (ad : Addr) : loadW P t (.pointer (some ad)) w V = ∃ v, (loadVar t ad).run P w = .ok v w ∧ V v w := (rfl)
theorem r_o_store (ty t : Nat) (a x : Operand) : opW P e (.store t a x) ty w V = storeW P t (ev e a) (ev e x) w V := (rfl)
theorem r_store (t : Nat) (ad : Addr) (x : Value) : storeW P t (.pointer (some ad)) x w V = ∃ w', (storeVar t ad x).run P w = .ok () w' ∧ V undef w' := (rfl)
theorem r_o_nil (ty : Nat) (x : Operand) : opW P e (.nilCheck x) ty w V = nilW (ev e x) w V := (rfl)
theorem r_nilc (ad : Addr) : nilW (.pointer (some ad)) w V = V (.pointer (some ad)) w := (rfl)
theorem r_o_bin (ty t ty2 : Nat) (op : BinOp) (x y : Operand) : opW P e (.binOp op t x y ty2) ty w V = binW P op t x y (ev e x) (ev e y) w V := (rfl)
theorem r_bin_int (op : BinOp) (t : Nat) (x y : Operand) (k k' : IntKind) (a b : Int) : binW P op t x y (.int k a) (.int k' b) w V = binInts (isShift op) (kEq k k') op k a b w V := (rfl)
theorem r_bin_float (op : BinOp) (t : Nat) (x y : Operand) (k k' : FloatKind) (a b : Nat) : binW P op t x y (.float k a) (.float k' b) w V = binFloats (fEq k k') op k a b w V := (rfl)
theorem r_bin_str (op : BinOp) (t : Nat) (x y : Operand) (a b : ByteArray) : binW P op t x y (.string a) (.string b) w V = binStr op a b w V := (rfl)
theorem r_bi_t (ke : Bool) (op : BinOp) (k : IntKind) (a b : Int) : binInts true ke op k a b w V = shiftInt op k a b w V := (rfl)
theorem r_bi_f (op : BinOp) (k : IntKind) (a b : Int) : binInts false true op k a b w V = binInt op k a b w V := (rfl)
theorem r_bf (op : BinOp) (k : FloatKind) (a b : Nat) : binFloats true op k a b w V = binFloat op k a b w V := (rfl)
theorem r_o_un (ty t : Nat) (op : UnOp) (x : Operand) : opW P e (.unOp op t x) ty w V = unW P op (ev e x) w V := (rfl)
theorem r_un_nott : unW P .not (.bool true) w V = V (.bool false) w := (rfl)
theorem r_un_notf : unW P .not (.bool false) w V = V (.bool true) w := (rfl)
theorem x_un_not (b : Bool) : unW P .not (.bool b) w V = V (.bool !b) w := rfl
theorem r_un_negf (k : FloatKind) (b : Nat) : unW P .neg (.float k b) w V = V (.float k (Op.negFloat k b)) w := (rfl)
theorem r_un_negi (k : IntKind) (n : Int) : unW P .neg (.int k n) w V = V (.int k (k.wrap (0 - n))) w := (rfl)
theorem r_o_conv (ty src dst : Nat) (x : Operand) : opW P e (.convert src dst x) ty w V = cvIf (P.underlying src).isSome P src dst (P.underlying dst) (ev e x) w V := (rfl)
theorem r_cvif (src dst : Nat) (d : Option TypeDesc) (x : Value) : cvIf true P src dst d x w V = cvW P src dst d x w V := (rfl)
theorem r_cv_int (src dst : Nat) (k k' : IntKind) (n : Int) : cvW P src dst (some (.int k)) (.int k' n) w V = V (.int k (k.wrap n)) w := (rfl)
theorem r_cv_fl (src dst : Nat) (k : FloatKind) (k' : IntKind) (n : Int) : cvW P src dst (some (.float k)) (.int k' n) w V = V (.float k (k.nearest n)) w := (rfl)
theorem r_o_mkf (ty : Nat) (fn : Fn) (first captured : List Operand) : opW P e (.makeFunc fn first.toArray captured.toArray) ty w V = V (.func fn (evs e first).toArray (evs e captured).toArray) w := (rfl)
theorem r_o_mks (ty t : Nat) (l c : Operand) : opW P e (.makeSlice t l c) ty w V = runW P (Instr.makeSlice t (ev e l) (ev e c)) w V := (rfl)
theorem r_o_slice (ty t : Nat) (x : Operand) (lo hi mx : Option Operand) : opW P e (.slice t x lo hi mx) ty w V = runW P (Instr.sliceAt t (ev e x) (evo e lo) (evo e hi) (evo e mx)) w V := (rfl)
theorem r_o_fa (ty s f : Nat) (x : Operand) : opW P e (.fieldAddr s x f) ty w V = faddrW (fOff P s f) (ev e x) w V := (rfl)
theorem r_fa (off : Nat) (ad : Addr) : faddrW (some off) (.pointer (some ad)) w V = V (.pointer (some (ad.add off))) w := (rfl)
theorem r_o_field (ty t f : Nat) (x : Operand) : opW P e (.field t x f) ty w V = runW P (Instr.field t (ev e x) f) w V := (rfl)
theorem r_o_ixa (ty t : Nat) (x ix : Operand) : opW P e (.indexAddr t x ix) ty w V = ixW (shp P t) (ev e x) (ev e ix) w V := (rfl)
theorem r_ix_s (sz : Nat) (a : Addr) (len cap : Nat) (k : IntKind) (i : Int) : ixW (.slice sz) (.slice (some a) len cap) (.int k i) w V = ((0 ≤ i ∧ i < len) ∧ V (.pointer (some (a.add (i.toNat * sz)))) w) := (rfl)
theorem r_ix_a (sz len : Nat) (a : Addr) (k : IntKind) (i : Int) : ixW (.array len sz) (.pointer (some a)) (.int k i) w V = ((0 ≤ i ∧ i < len) ∧ V (.pointer (some (a.add (i.toNat * sz)))) w) := (rfl)
theorem r_o_ix (ty t : Nat) (x ix : Operand) : opW P e (.index t x ix) ty w V = runW P (Instr.index t (ev e x) (ev e ix)) w V := (rfl)
theorem r_o_ext (ty ix : Nat) (t : Operand) : opW P e (.extract t ix) ty w V = extW (ev e t) ix w V := (rfl)
theorem r_x20 (a b : Value) : extW (.tuple #[a, b]) 0 w V = V a w := by simp [extW]
theorem r_x21 (a b : Value) : extW (.tuple #[a, b]) 1 w V = V b w := by simp [extW]
theorem r_x30 (a b c : Value) : extW (.tuple #[a, b, c]) 0 w V = V a w := by simp [extW]
theorem r_x31 (a b c : Value) : extW (.tuple #[a, b, c]) 1 w V = V b w := by simp [extW]
theorem r_x32 (a b c : Value) : extW (.tuple #[a, b, c]) 2 w V = V c w := by simp [extW]
theorem r_x40 (a b c d : Value) : extW (.tuple #[a, b, c, d]) 0 w V = V a w := by simp [extW]
theorem r_x41 (a b c d : Value) : extW (.tuple #[a, b, c, d]) 1 w V = V b w := by simp [extW]
theorem r_x42 (a b c d : Value) : extW (.tuple #[a, b, c, d]) 2 w V = V c w := by simp [extW]
theorem r_x43 (a b c d : Value) : extW (.tuple #[a, b, c, d]) 3 w V = V d w := by simp [extW]
theorem r_x50 (a b c d e : Value) : extW (.tuple #[a, b, c, d, e]) 0 w V = V a w := by simp [extW]
theorem r_x51 (a b c d e : Value) : extW (.tuple #[a, b, c, d, e]) 1 w V = V b w := by simp [extW]
theorem r_x52 (a b c d e : Value) : extW (.tuple #[a, b, c, d, e]) 2 w V = V c w := by simp [extW]
theorem r_x53 (a b c d e : Value) : extW (.tuple #[a, b, c, d, e]) 3 w V = V d w := by simp [extW]
theorem r_x54 (a b c d e : Value) : extW (.tuple #[a, b, c, d, e]) 4 w V = V e w := by simp [extW]
theorem r_x60 (a b c d e f : Value) : extW (.tuple #[a, b, c, d, e, f]) 0 w V = V a w := by simp [extW]
theorem r_x61 (a b c d e f : Value) : extW (.tuple #[a, b, c, d, e, f]) 1 w V = V b w := by simp [extW]
theorem r_x62 (a b c d e f : Value) : extW (.tuple #[a, b, c, d, e, f]) 2 w V = V c w := by simp [extW]
theorem r_x63 (a b c d e f : Value) : extW (.tuple #[a, b, c, d, e, f]) 3 w V = V d w := by simp [extW]
theorem r_x64 (a b c d e f : Value) : extW (.tuple #[a, b, c, d, e, f]) 4 w V = V e w := by simp [extW]
theorem r_x65 (a b c d e f : Value) : extW (.tuple #[a, b, c, d, e, f]) 5 w V = V f w := by simp [extW]
theorem r_o_mki (ty t : Nat) (x : Operand) : opW P e (.makeInterface t x) ty w V = runW P (Instr.makeInterface t (ev e x)) w V := (rfl)
theorem r_o_ta (ty t a : Nat) (ok : Bool) (x : Operand) : opW P e (.typeAssert x t a ok) ty w V = runW P (Instr.typeAssert (ev e x) t a ok) w V := (rfl)
theorem r_o_callb (ty : Nat) (b : Builtin) (args : List Operand) (ts : List Nat) : opW P e (.call ⟨.builtin b, args.toArray, ts.toArray⟩) ty w V = builtW P b ts ty (evs e args) w V := (rfl)
theorem r_o_callf (ty : Nat) (f : Operand) (args : List Operand) (ts : Array Nat) : opW P e (.call ⟨.value f, args.toArray, ts⟩) ty w V = callW P (ev e f) (evs e args) w V := (rfl)
theorem r_call (g : Nat) (first args captured : List Value) : callW P (.func (.func g) first.toArray captured.toArray) args w V = Ct P g (argsW first args captured).toArray w V := (rfl)
theorem r_args0 (args : List Value) : argsW [] args [] = args := (rfl)
theorem r_args1 (x : Value) (f args c : List Value) : argsW (x :: f) args c = (x :: f) ++ (args ++ c) := (rfl)
theorem r_args2 (x : Value) (args c : List Value) : argsW [] args (x :: c) = [] ++ (args ++ (x :: c)) := (rfl)
theorem r_len (tx t : Nat) (ts : List Nat) (x : Value) : builtW P .len (tx :: ts) t [x] w V = lenW (shp P tx) x w V := (rfl)
theorem r_len_s (sz : Nat) (a : Option Addr) (n c : Nat) : lenW (.slice sz) (.slice a n c) w V = V (.int .i64 n) w := (rfl)
theorem r_len_t (s : ByteArray) : lenW .str (.string s) w V = V (.int .i64 s.size) w := (rfl)
theorem r_len_a (n sz : Nat) (x : Value) : lenW (.array n sz) x w V = V (.int .i64 n) w := by cases x <;> rfl
theorem r_real (ts : List Nat) (t : Nat) (k : FloatKind) (a b : Nat) : builtW P .real ts t [.complex k a b] w V = V (.float k a) w := (rfl)
theorem r_imag (ts : List Nat) (t : Nat) (k : FloatKind) (a b : Nat) : builtW P .imag ts t [.complex k a b] w V = V (.float k b) w := (rfl)
theorem r_cplx (ts : List Nat) (t : Nat) (k k' : FloatKind) (a b : Nat) : builtW P .complex ts t [.float k a, .float k' b] w V = cplxW (fEq k k') k a b w V := (rfl)
theorem r_cplx_t (k : FloatKind) (a b : Nat) : cplxW true k a b w V = V (.complex k a b) w := (rfl)
theorem r_append (ts : List Nat) (t : Nat) (args : List Value) : builtW P .append ts t args w V = runW P (Builtin.append_ ts.toArray t args.toArray) w V := by cases args <;> rfl
theorem r_copy (ts : List Nat) (t : Nat) (args : List Value) : builtW P .copy ts t args w V = runW P (Builtin.copy_ ts.toArray t args.toArray) w V := by cases args <;> rfl
theorem r_min (ts : List Nat) (t : Nat) (a b : Value) : builtW P .min ts t [a, b] w V = min2W a b w V := (rfl)
theorem r_max (ts : List Nat) (t : Nat) (a b : Value) : builtW P .max ts t [a, b] w V = max2W a b w V := (rfl)
theorem r_minf (k k' : FloatKind) (a b : Nat) : min2W (.float k a) (.float k' b) w V = minF (fEq k k') k a b w V := (rfl)
theorem r_maxf (k k' : FloatKind) (a b : Nat) : max2W (.float k a) (.float k' b) w V = maxF (fEq k k') k a b w V := (rfl)
theorem r_minf_t (k : FloatKind) (a b : Nat) : minF true k a b w V = ∀ r n, cn k r = FMin k (cn k a) (cn k b) → V (.float k r) (w.drewN n) := (rfl)
theorem r_maxf_t (k : FloatKind) (a b : Nat) : maxF true k a b w V = ∀ r n, cn k r = FMax k (cn k a) (cn k b) → V (.float k r) (w.drewN n) := (rfl)
theorem r_mini (k k' : IntKind) (a b : Int) : min2W (.int k a) (.int k' b) w V = V (.int k (if b < a then b else a)) w := (rfl)
theorem r_maxi (k k' : IntKind) (a b : Int) : max2W (.int k a) (.int k' b) w V = V (.int k (if b > a then b else a)) w := (rfl)
theorem r_min3 (ts : List Nat) (t : Nat) (a b c : Value) (l : List Value) : builtW P .min ts t (a :: b :: c :: l) w V = runW P (Builtin.min_ ts.toArray t (a :: b :: c :: l).toArray) w V := (rfl)
theorem r_max3 (ts : List Nat) (t : Nat) (a b c : Value) (l : List Value) : builtW P .max ts t (a :: b :: c :: l) w V = runW P (Builtin.max_ ts.toArray t (a :: b :: c :: l).toArray) w V := (rfl)
theorem r_cells_agg (cs : Array Value) : (Value.agg cs).cells = cs := (rfl)
theorem r_cells_int (k : IntKind) (n : Int) : (Value.int k n).cells = #[.int k n] := (rfl)
theorem r_cells_bool (b : Bool) : (Value.bool b).cells = #[.bool b] := (rfl)
theorem r_cells_float (k : FloatKind) (n : Nat) : (Value.float k n).cells = #[.float k n] := (rfl)
theorem r_cells_cplx (k : FloatKind) (n m : Nat) : (Value.complex k n m).cells = #[.complex k n m] := (rfl)
theorem r_cells_str (b : ByteArray) : (Value.string b).cells = #[.string b] := (rfl)
theorem r_cells_ptr (b : Option Addr) : (Value.pointer b).cells = #[.pointer b] := (rfl)
theorem r_cells_slice (b : Option Addr) (n c : Nat) : (Value.slice b n c).cells = #[.slice b n c] := (rfl)
theorem r_cells_fn (f : Fn) (x y : Array Value) : (Value.func f x y).cells = #[.func f x y] := (rfl)
theorem r_drewN (n : Nat) : (w.drewN n).heap = w.heap := (rfl)
theorem r_asz (o : Obj) : (w.alloc o).heap.size = w.heap.size + 1 := Array.size_push ..
theorem r_env0 (a : Value) (l : List Value) : env0 (a :: l) 0 = a := (rfl)
theorem r_envs (a : Value) (l : List Value) (i : Nat) : env0 (a :: l) (i + 1) = env0 l i := (rfl)
theorem r_envn (i : Nat) : env0 [] i = undef := (rfl)
variable (R : Value → World → Prop)
theorem r_end_n1 (t : Nat) : endW P [.tmp t] R .normal e w = R (e t) w := (rfl)
theorem r_end_r1 (t : Nat) : endW P [.tmp t] R .ret e w = R (e t) w := (rfl)
theorem r_end_n0 : endW P [] R .normal e w = R (.tuple #[]) w := (rfl)
theorem r_end_r0 : endW P [] R .ret e w = R (.tuple #[]) w := (rfl)
theorem r_end_n2 (t u : Nat) : endW P [.tmp t, .tmp u] R .normal e w = R (.tuple #[e t, e u]) w := (rfl)
theorem r_end_r2 (t u : Nat) : endW P [.tmp t, .tmp u] R .ret e w = R (.tuple #[e t, e u]) w := (rfl)
theorem r_end_n3 (t u v : Nat) : endW P [.tmp t, .tmp u, .tmp v] R .normal e w = R (.tuple #[e t, e u, e v]) w := (rfl)
theorem r_end_r3 (t u v : Nat) : endW P [.tmp t, .tmp u, .tmp v] R .ret e w = R (.tuple #[e t, e u, e v]) w := (rfl)
theorem r_end_n4 (t u v x : Nat) : endW P [.tmp t, .tmp u, .tmp v, .tmp x] R .normal e w = R (.tuple #[e t, e u, e v, e x]) w := (rfl)
theorem r_end_r4 (t u v x : Nat) : endW P [.tmp t, .tmp u, .tmp v, .tmp x] R .ret e w = R (.tuple #[e t, e u, e v, e x]) w := (rfl)
end rules

end Go.Proofs.YtjgpnbchnenbeaaDoor
