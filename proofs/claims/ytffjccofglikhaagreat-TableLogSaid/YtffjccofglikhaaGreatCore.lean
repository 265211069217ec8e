/-
  A calculus of weakest preconditions over the model's code, whose formula is unfolded by the kernel's own reduction: what an operation comes to is told by 'owp', a list of them by 'owps', code by 'cwp'; 'Code_wp' and 'calls_of' tell that the model's machine does so.
-/
import Derived.Calls
import Derived.Orders
import Derived.Laws.AppendOwn
import Derived.Laws.CopyRow
import Derived.Laws.IdiomCopy
import Derived.Laws.BytesString
import Derived.Laws.RangeAny
import Derived.Laws.Tables
import Derived.Laws.OwnMore
import Derived.Below
namespace Go.Proofs.YtffjccofglikhaaGreat
open Go

/-! ### The frame as a list; the newest first -/
abbrev Env := List (Nat × Value)
def get : Env → Nat → Option Value
  | [], _ => none
  | (i, v) :: e, t => bif Nat.beq i t then some v else get e t
def Sub : Env → Env → Prop
  | [], _ => True
  | (t, v) :: A, B => get B t = some v ∧ Sub A B
def ev (E : Env) : Operand → Option Value
  | .tmp t => get E t
  | .const v => some v
  | .global g => some (.pointer (some ⟨g, 0, none⟩))
  | .func f => some (.func (.func f) #[] #[])
def ev1 (E : Env) (x : Operand) (K : Value → Prop) : Prop := match ev E x with | some v => K v | none => False
def evL (E : Env) : List Operand → (List Value → Prop) → Prop
  | [], K => K []
  | x :: r, K => ev1 E x fun v => evL E r fun vs => K (v :: vs)
def evO (E : Env) (x : Option Operand) (K : Option Value → Prop) : Prop := match x with | some x => ev1 E x fun v => K (some v) | none => K none
def evP (E : Env) : List (Nat × Operand) → (List (Nat × Value) → Prop) → Prop
  | [], K => K []
  | (i, x) :: r, K => ev1 E x fun v => evP E r fun vs => K ((i, v) :: vs)

/-! ### What is known of the program's types and functions, as tables -/
inductive Kd where
  | bool | str | ptr | slice | map | int (k : IntKind) | other
structure Lay where
  sh : Nat → Option (Option Nat)          -- a variable: one cell, or an aggregate of so many
  fo : Nat → Nat → Option (Nat × Nat)     -- a struct's field: where it begins, its type
  st : Nat → Option (List (Nat × Nat))    -- a struct's or array's parts: where they begin, their sizes
  sl : Nat → Option (Nat × Nat)           -- a slice's element: its type, its size
  ar : Nat → Option (Nat × Nat × Nat)     -- an array: its length, its element's type, its size
  zr : Nat → Option (List Value)          -- a zero value's cells
  kd : Nat → Kd                           -- which kind
  fn : Nat → Bool                         -- a function with a body
def IsAggD : TypeDesc → Bool
  | .struct _ | .array _ _ => true
  | _ => false
structure LayOk (P : Program) (L : Lay) : Prop where
  sh1 : ∀ t, L.sh t = some none → ∃ d i, P.underlying t = some d ∧ IsAggD d = false ∧ P.info? t = some i ∧ i.size = 1
  shA : ∀ t k, L.sh t = some (some k) → ∃ d i, P.underlying t = some d ∧ IsAggD d = true ∧ P.info? t = some i ∧ i.size = k
  fo : ∀ t f o u, L.fo t f = some (o, u) → ∃ fs g i, P.underlying t = some (.struct fs) ∧ fs[f]? = some g ∧ g.offset = o ∧ g.type = u ∧ P.info? u = some i ∧ i.size ≠ 0
  st : ∀ t ps, L.st t = some ps → (∃ fs, P.underlying t = some (.struct fs) ∧ (fs.toList.mapM fun g => (P.info? g.type).map fun i => (g.offset, i.size)) = some ps) ∨ (∃ n e i, P.underlying t = some (.array n e) ∧ P.info? e = some i ∧ ps = (List.range n).map fun j => (j * i.size, i.size))
  sl : ∀ t e k, L.sl t = some (e, k) → ∃ i, P.underlying t = some (.slice e) ∧ P.info? e = some i ∧ i.size = k ∧ 0 < k ∧ i.bytes ≤ 65536 ∧ ∃ z, i.zero = some z ∧ z.cells.size = k
  ar : ∀ t n e k, L.ar t = some (n, e, k) → ∃ i, P.underlying t = some (.array n e) ∧ P.info? e = some i ∧ i.size = k ∧ 1 < n
  zr : ∀ t z, L.zr t = some z → ∃ i v, P.info? t = some i ∧ i.zero = some v ∧ v.cells = z.toArray ∧ i.size = z.length
  kd : ∀ t, match L.kd t with
    | .bool => P.underlying t = some .bool
    | .str => P.underlying t = some .string
    | .ptr => ∃ e, P.underlying t = some (.pointer e)
    | .slice => ∃ e, P.underlying t = some (.slice e)
    | .map => ∃ k e, P.underlying t = some (.map k e)
    | .int k => P.underlying t = some (.int k)
    | .other => True
  fn : ∀ f, L.fn f = true → ∃ g c, P.funcs[f]? = some g ∧ g.body = some c ∧ (g.name == "runtime.NumGoroutine") = false
  mixed : P.follows .mixedOrders = true

/-! ### What is asked of memory -/
structure Load1 (w : World) (a : Addr) (K : Value → Prop) : Prop where
  h : ∃ v, w.cell? a = some v ∧ K v
structure LoadN (w : World) (a : Addr) (k : Nat) (K : Value → Prop) : Prop where
  h : ∃ cs : List Value, cs.length = k ∧ (∀ j v, cs[j]? = some v → w.cell? (a.add j) = some v) ∧ K (.agg cs.toArray)
def spl (c : Array Value) (o : Nat) (vs : List Value) : Array Value := (c.toList.take o ++ vs ++ c.toList.drop (o + vs.length)).toArray
structure StoreW (w : World) (a : Addr) (k : Nat) (vs : List Value) (K : World → Prop) : Prop where
  h : ∃ c e, vs.length = k ∧ w.heap[a.block]? = some (.cells c e (0, 0)) ∧ a.spot = none ∧ a.off + vs.length ≤ c.size ∧ (∀ v ∈ vs, v.oneCell' = true) ∧ K (w.setRow a.block (spl c a.off vs))
structure AllocW (w : World) (e : TypeId) (cs : Array Value) (K : Addr → World → Prop) : Prop where
  h : K ⟨w.heap.size, 0, none⟩ (w.alloc (.cells cs e (0, 0)))
structure CallW (P : Program) (f : FuncId) (args : List Value) (w : World) (K : Value → World → Prop) : Prop where
  h : Calls P f args.toArray w fun e w' => ∃ v, e = .returned v ∧ K v w'
structure RunW (P : Program) (s : Sem Value) (w : World) (K : Value → World → Prop) : Prop where
  h : ∃ v w', s.run P w = .ok v w' ∧ K v w'
structure ReadW (P : Program) (s : Sem Value) (w : World) (K : Value → Prop) : Prop where
  h : ∃ v, s.run P w = .ok v w ∧ K v
structure IdxW (n : Nat) (i : Int) (K : Nat → Prop) : Prop where
  h : 0 ≤ i ∧ i < n ∧ K i.toNat

/-! ### Values alone -/
def nilQ (k : Kd) : Value → Value → Option Bool
  | .pointer none, .pointer b => match k with | .ptr => some b.isNone | _ => none
  | .pointer (some _), .pointer none => match k with | .ptr => some false | _ => none
  | .slice none _ _, .slice b _ _ => match k with | .slice => some b.isNone | _ => none
  | .slice (some _) _ _, .slice none _ _ => match k with | .slice => some false | _ => none
  | .map none, .map b => match k with | .map => some b.isNone | _ => none
  | .map (some _), .map none => match k with | .map => some false | _ => none
  | .bool a, .bool b => match k with | .bool => some (a == b) | _ => none
  | _, _ => none
def sameK : IntKind → IntKind → Bool
  | .i8, .i8 | .i16, .i16 | .i32, .i32 | .i64, .i64 | .u8, .u8 | .u16, .u16 | .u32, .u32 | .u64, .u64 => true
  | _, _ => false
theorem sameK_eq {a b : IntKind} (h : sameK a b = true) : a = b := by cases a <;> cases b <;> first | rfl | cases h
def isZ : Int → Bool
  | .ofNat 0 => true
  | _ => false
def isNeg : Int → Bool
  | .negSucc _ => true
  | _ => false
def iAnd (k : IntKind) (a b : Int) : Int := k.wrap (BitVec.ofInt k.bits a &&& BitVec.ofInt k.bits b).toNat
def iOr (k : IntKind) (a b : Int) : Int := k.wrap (BitVec.ofInt k.bits a ||| BitVec.ofInt k.bits b).toNat
def iXor (k : IntKind) (a b : Int) : Int := k.wrap (BitVec.ofInt k.bits a ^^^ BitVec.ofInt k.bits b).toNat
def iNot (k : IntKind) (n : Int) : Int := k.wrap (BitVec.ofInt k.bits (if k.signed then -1 else k.max) ^^^ BitVec.ofInt k.bits n).toNat
def iShl (k : IntKind) (a b : Int) : Int := k.wrap (a * 2 ^ min b.toNat k.bits)
def iShr (k : IntKind) (a b : Int) : Int := a.fdiv (2 ^ min b.toNat k.bits)
def intV (op : BinOp) (k : IntKind) (a b : Int) : Option Value :=
  match op with
  | .add => some (.int k (k.wrap (a + b)))
  | .sub => some (.int k (k.wrap (a - b)))
  | .mul => some (.int k (k.wrap (a * b)))
  | .quo => some (.int k (k.wrap (a.tdiv b)))
  | .rem => some (.int k (a.tmod b))
  | .and => some (.int k (iAnd k a b))
  | .or => some (.int k (iOr k a b))
  | .xor => some (.int k (iXor k a b))
  | .eql => some (.bool (a == b))
  | .neq => some (.bool (a != b))
  | .lss => some (.bool (decide (a < b)))
  | .leq => some (.bool (decide (a ≤ b)))
  | .gtr => some (.bool (decide (b < a)))
  | .geq => some (.bool (decide (b ≤ a)))
  | _ => none
def strV (op : BinOp) (x y : ByteArray) : Option Value :=
  match op with
  | .eql => some (.bool (x.toList == y.toList))
  | .neq => some (.bool !(x.toList == y.toList))
  | .lss => some (.bool (Op.bytesLess x.toList y.toList))
  | .leq => some (.bool (Op.bytesLess x.toList y.toList || (x.toList == y.toList)))
  | .gtr => some (.bool !(Op.bytesLess x.toList y.toList || (x.toList == y.toList)))
  | .geq => some (.bool !(Op.bytesLess x.toList y.toList))
  | _ => none
/-- What a quotient's or a shift's second operand must be; of a constant it is seen at once. -/
structure NzW (b : Int) (K : Prop) : Prop where
  nz : b ≠ 0
  h : K
structure NnW (b : Int) (K : Prop) : Prop where
  nn : 0 ≤ b
  h : K
def sideW (op : BinOp) (y : Operand) (b : Value) (K : Prop) : Prop :=
  match op with
  | .quo | .rem => match b with
    | .int _ n => match y with
      | .const _ => bif isZ n then False else K
      | _ => NzW n K
    | _ => False
  | .shl | .shr => match b with
    | .int _ n => match y with
      | .const _ => bif isNeg n then False else K
      | _ => NnW n K
    | _ => False
  | _ => K
/-- A binary operation whose answer needs no memory. -/
def binV (k : Kd) (op : BinOp) (x y : Value) : Option Value :=
  match x, y with
  | .int i a, .int j b =>
    match op with
    | .shl => some (.int i (iShl i a b))
    | .shr => some (.int i (iShr i a b))
    | op => bif sameK i j then intV op i a b else none
  | .string a, .string b => strV op a b
  | x, y => match op with
    | .eql => (nilQ k x y).map .bool
    | .neq => (nilQ k x y).map fun b => .bool !b
    | _ => none
structure BinW (P : Program) (op : BinOp) (t : TypeId) (x y : Value) (w : World) (K : Value → Prop) : Prop where
  h : ∃ v, (binOp op t x y).run P w = .ok v w ∧ (∀ ox oy, (eqGuard op t ox oy x y).run P w = .ok () w) ∧ K v
def unV (op : UnOp) (x : Value) : Option Value :=
  match op, x with
  | .neg, .int k n => some (.int k (k.wrap (0 - n)))
  | .xor, .int k n => some (.int k (iNot k n))
  | .not, .bool b => some (.bool !b)
  | _, _ => none
/-- Parts laid into cells. -/
def fillC (pl : List (Nat × Nat)) : List Value → List (Nat × Value) → Option (List Value)
  | cs, [] => some cs
  | cs, (i, v) :: r =>
    match pl[i]? with
    | some (o, n) => if v.cells.toList.length = n ∧ o + n ≤ cs.length then fillC pl (cs.take o ++ v.cells.toList ++ cs.drop (o + n)) r else none
    | none => none
def minV : Value → Value → Option Value
  | .int k a, .int _ b => some (.int k (if b < a then b else a))
  | _, _ => none
def maxV : Value → Value → Option Value
  | .int k a, .int _ b => some (.int k (if a < b then b else a))
  | _, _ => none
/-! ### One operation -/
def callT (P : Program) (L : Lay) (f : Value) (args : List Value) (w : World) (K : Value → World → Prop) : Prop :=
  match f with
  | .func (.func g) first captured => bif L.fn g then CallW P g (first.toList ++ args ++ captured.toList) w K else RunW P (do match ← callFunc g (first.toList ++ args ++ captured.toList).toArray with | .value v => pure v | _ => stuck "") w K
  | _ => False
def bltW (P : Program) (L : Lay) (b : Builtin) (ats : List TypeId) (ty : TypeId) (args : List Value) (w : World) (K : Value → World → Prop) : Prop :=
  match b with
  | .len => match ats, args with
    | [t], [x] => match L.kd t with
      | .slice => match x with
        | .slice _ n _ => K (.int .i64 n) w
        | _ => False
      | .str => match x with
        | .string s => K (.int .i64 s.size) w
        | _ => False
      | _ => ReadW P (Builtin.len_ ats.toArray ty args.toArray) w fun v => K v w
    | _, _ => False
  | .append => RunW P (Builtin.append_ ats.toArray ty args.toArray) w K
  | .cap => ReadW P (Builtin.cap_ ats.toArray ty args.toArray) w fun v => K v w
  | .clear => RunW P (Builtin.clear_ ats.toArray ty args.toArray) w K
  | .copy => RunW P (Builtin.copy_ ats.toArray ty args.toArray) w K
  | .delete => RunW P (Builtin.delete_ ats.toArray ty args.toArray) w K
  | .max => match args with
    | [x, y] => match maxV x y with
      | some v => K v w
      | none => False
    | _ => False
  | .min => match args with
    | [x, y] => match minV x y with
      | some v => K v w
      | none => False
    | _ => False
  | _ => False
structure SlcW (lo hi : Int) (n c : Nat) (K : Nat → Nat → Prop) : Prop where
  h : 0 ≤ lo ∧ lo ≤ hi ∧ hi ≤ c ∧ K lo.toNat hi.toNat
structure MapW (w : World) (K : Value → World → Prop) : Prop where
  h : K (.map (some w.heap.size)) (w.alloc (.map #[] 0))
def intO (x : Option Value) (d : Int) : Option Int := match x with | none => some d | some (.int _ n) => some n | _ => none
def sliceW (P : Program) (L : Lay) (t : TypeId) (x : Value) (lo hi mx : Option Value) (w : World) (K : Value → World → Prop) : Prop :=
  match L.sl t, x, mx with
  | some (_, k), .slice (some ⟨b, o, none⟩) n c, none => match intO lo 0, intO hi n with
    | some l, some h => SlcW l h n c fun l h => K (.slice (some ⟨b, if c = l then o else o + l * k, none⟩) (h - l) (c - l)) w
    | _, _ => False
  | _, _, _ => match L.kd t, x, mx with
    | .str, .string s, none => match intO lo 0, intO hi s.size with
      | some l, some h => SlcW l h s.size s.size fun l h => K (.string (s.extract l h)) w
      | _, _ => False
    | _, _, _ => ReadW P (Instr.sliceAt t x lo hi mx) w fun v => K v w
def fieldV (L : Lay) (t f : Nat) (cs : List Value) (K : Value → Prop) : Prop :=
  match L.fo t f with
  | some (o, u) => match L.sh u with
    | some none => match cs[o]? with
      | some v => K v
      | none => False
    | some (some k) => o + k ≤ cs.length ∧ K (.agg ((cs.drop o).take k).toArray)
    | none => False
  | none => False
def idxAddr (L : Lay) (t : TypeId) (x : Value) (i : Int) (K : Value → Prop) : Prop :=
  match L.sl t with
  | some (_, k) => match x with
    | .slice (some ⟨b, o, none⟩) n _ => IdxW n i fun j => K (.pointer (some ⟨b, o + j * k, none⟩))
    | _ => False
  | none => match L.ar t with
    | some (n, _, k) => match x with
      | .pointer (some ⟨b, o, none⟩) => IdxW n i fun j => K (.pointer (some ⟨b, o + j * k, none⟩))
      | _ => False
    | none => False
structure StrI (s : ByteArray) (i : Int) (K : Value → Prop) : Prop where
  h : 0 ≤ i ∧ ∃ b, s[i.toNat]? = some b ∧ K (.int .u8 b.toNat)
def indexW (P : Program) (L : Lay) (t : TypeId) (x i : Value) (w : World) (K : Value → World → Prop) : Prop :=
  match L.kd t, x, i with
  | .str, .string s, .int _ j => StrI s j fun v => K v w
  | _, _, _ => ReadW P (Instr.index t x i) w fun v => K v w
def convW (P : Program) (L : Lay) (s d : TypeId) (x : Value) (w : World) (K : Value → World → Prop) : Prop :=
  match L.kd s, L.kd d, x with
  | .int _, .int k, x => match x with
    | .int _ n => K (.int k (k.wrap n)) w
    | _ => False
  | _, .str, _ => ReadW P (convert s d x) w fun v => K v w
  | _, _, _ => RunW P (convert s d x) w K
def owp (P : Program) (L : Lay) (ty : TypeId) (o : Op) (E : Env) (w : World) (K : Value → World → Prop) : Prop :=
  match o with
  | .move x => ev1 E x fun v => K v w
  | .assign x => ev1 E x fun v => K v w
  | .pick c a b => ev1 E c fun c => match c with
    | .bool true => ev1 E a fun v => K v w
    | .bool false => ev1 E b fun v => K v w
    | _ => False
  | .alloc t => match L.zr t with
    | some z => AllocW w t z.toArray fun a w' => K (.pointer (some a)) w'
    | none => False
  | .box t x => ev1 E x fun v => AllocW w t v.cells fun a w' => K (.pointer (some a)) w'
  | .build t ps => match L.st t, L.zr t with
    | some pl, some z => evP E ps.toList fun vs => ∃ cs, fillC pl z vs = some cs ∧ K (.agg cs.toArray) w
    | _, _ => False
  | .buildSlice t n ps => match L.sl t with
    | some (e, k) => match L.zr e with
      | some z => evP E ps.toList fun vs => n * k ≤ 16777216 ∧ ∃ cs, fillC ((List.range n).map fun j => (j * k, k)) (List.replicate n z).flatten vs = some cs ∧ AllocW w e cs.toArray fun a w' => K (.slice (some a) n n) w'
      | none => False
    | none => False
  | .load t x => ev1 E x fun p => match p with
    | .pointer (some a) => match L.sh t with
      | some none => Load1 w a fun v => K v w
      | some (some k) => LoadN w a k fun v => K v w
      | none => False
    | _ => False
  | .store t x y => ev1 E x fun p => ev1 E y fun v => match p with
    | .pointer (some a) => match L.sh t with
      | some s => StoreW w a (s.getD 1) v.cells.toList fun w' => K undef w'
      | none => False
    | _ => False
  | .nilCheck x => ev1 E x fun v => match v with
    | .pointer (some a) => K (.pointer (some a)) w
    | .func (.func g) f c => K (.func (.func g) f c) w
    | _ => False
  | .binOp op t x y _ => ev1 E x fun a => ev1 E y fun b => match binV (L.kd t) op a b with
    | some v => sideW op y b (K v w)
    | none => match L.kd t with
      | .other => BinW P op t a b w fun v => K v w
      | _ => False
  | .unOp op _ x => ev1 E x fun a => match unV op a with
    | some v => K v w
    | none => False
  | .convert s d x => ev1 E x fun v => convW P L s d v w K
  | .makeInterface t x => ev1 E x fun v => match L.kd t with
    | .other => ReadW P (Instr.makeInterface t v) w fun v => K v w
    | _ => K (.iface t v) w
  | .makeFunc f a c => evL E a.toList fun vs => evL E c.toList fun cs => K (.func f vs.toArray cs.toArray) w
  | .makeMap _ none => MapW w K
  | .makeSlice t l c => ev1 E l fun l => ev1 E c fun c => RunW P (Instr.makeSlice t l c) w K
  | .slice t x lo hi mx => ev1 E x fun v => evO E lo fun lo => evO E hi fun hi => evO E mx fun mx => sliceW P L t v lo hi mx w K
  | .fieldAddr t x f => ev1 E x fun p => match p with
    | .pointer (some ⟨b, o, none⟩) => match L.fo t f with
      | some (d, _) => K (.pointer (some ⟨b, o + d, none⟩)) w
      | none => False
    | _ => False
  | .field t x f => ev1 E x fun v => match v with
    | .agg cs => fieldV L t f cs.toList fun v => K v w
    | _ => False
  | .indexAddr t x i => ev1 E x fun v => ev1 E i fun j => match j with
    | .int _ i => idxAddr L t v i fun v => K v w
    | _ => False
  | .index t x i => ev1 E x fun v => ev1 E i fun j => indexW P L t v j w K
  | .lookup t x i ok => ev1 E x fun v => ev1 E i fun j => ReadW P (Instr.lookup t v j ok) w fun v => K v w
  | .mapUpdate t m k x => ev1 E m fun m => ev1 E k fun k => ev1 E x fun v => RunW P (do Instr.mapUpdate t m k v; pure undef) w K
  | .range t x => ev1 E x fun v => RunW P (Instr.range t v) w K
  | .next i s => ev1 E i fun v => RunW P (Instr.next v s ty) w K
  | .typeAssert x t u ok => ev1 E x fun v => ReadW P (Instr.typeAssert v t u ok) w fun v => K v w
  | .extract x i => ev1 E x fun v => match v with
    | .tuple vs => match vs.toList[i]? with
      | some v => K v w
      | none => False
    | _ => False
  | .call c => match c.callee with
    | .value f => ev1 E f fun f => evL E c.args.toList fun vs => callT P L f vs w K
    | .builtin b => evL E c.args.toList fun vs => bltW P L b c.argTypes.toList ty vs w K
    | .invoke _ _ => False
  | _ => False

/-! ### A region -/
def putE (d : Option Nat) (v : Value) (E : Env) : Env := match d with | some d => (d, v) :: E | none => E
def yB (ops : List Oper) (E : Env) (j : Nat) : Option (Option Bool) :=
  match ops[j]? with
  | some o => match o.dst with
    | some d => match get E d with
      | some v => match v with
        | .bool b => some (some b)
        | _ => some none
      | none => none
    | none => none
  | none => none
/-- The operation, if its guard lets it. -/
def gw (ops : List Oper) (o : Oper) (E : Env) (yes no : Prop) : Prop :=
  match o.guard with
  | none => yes
  | some (j, want) => match yB ops E j with
    | some (some b) => match b, want with
      | true, true => yes
      | false, false => yes
      | true, false => no
      | false, true => no
    | some none => no
    | none => False
def isG (ops : List Oper) (i : Nat) : Bool := ops.any fun o => match o.guard with | some (j, _) => Nat.beq i j | none => false
/-- What a guard asks is parted at once. -/
def bsp (b : Bool) (v : Value) (K : Value → Prop) : Prop :=
  match b with
  | false => K v
  | true => match v with
    | .bool c => (c = true → K (.bool true)) ∧ (c = false → K (.bool false))
    | _ => False
/- By recursors, not by equations: the elaborator's unfolding and the kernel's are then one (by equations a comparison of the two goes through all that is left, twice at each operation). -/
noncomputable def owps (P : Program) (L : Lay) (ops : List Oper) (i : Nat) (l : List Oper) (Q : Env → World → Prop) (E : Env) (w : World) : Prop :=
  @List.rec Oper (fun _ => Nat → (Env → World → Prop) → Env → World → Prop) (fun _ Q E w => Q E w)
    (fun o _ ih i Q E w => gw ops o E (owp P L o.type o.op E w fun v w' => bsp (isG ops i) v fun v => ih (i + 1) Q (putE o.dst v E) w') (ih (i + 1) Q (putE o.dst undef E) w)) l i Q E w
theorem owps_cons (P : Program) (L : Lay) (ops : List Oper) (i : Nat) (o : Oper) (r : List Oper) (Q : Env → World → Prop) (E : Env) (w : World) : owps P L ops i (o :: r) Q E w = gw ops o E (owp P L o.type o.op E w fun v w' => bsp (isG ops i) v fun v => owps P L ops (i + 1) r Q (putE o.dst v E) w') (owps P L ops (i + 1) r Q (putE o.dst undef E) w) := rfl
noncomputable def rchk (P : Program) (L : Lay) (ops : List Oper) (E : Env) (w : World) (K : Prop) (l : List Nat) : Prop :=
  @List.rec Nat (fun _ => Prop) K (fun j _ ih => match ops[j]? with
    | some o => match o.dst with
      | some d => gw ops o E (owp P L o.type o.op E w fun v w' => get E d = some v ∧ w' = w) True ∧ ih
      | none => False
    | none => False) l
theorem rchk_cons (P : Program) (L : Lay) (ops : List Oper) (E : Env) (w : World) (K : Prop) (j : Nat) (r : List Nat) : rchk P L ops E w K (j :: r) = match ops[j]? with
    | some o => match o.dst with
      | some d => gw ops o E (owp P L o.type o.op E w fun v w' => get E d = some v ∧ w' = w) True ∧ rchk P L ops E w K r
      | none => False
    | none => False := rfl
noncomputable def pwp (P : Program) (L : Lay) (ops : List Oper) (l : List (Nat × List Nat)) (Q : Env → World → Prop) (E : Env) (w : World) : Prop :=
  @List.rec (Nat × List Nat) (fun _ => (Env → World → Prop) → Env → World → Prop) (fun Q E w => Q E w)
    (fun p _ ih Q E w => match ops[p.1]? with
    | some o => gw ops o E (owp P L o.type o.op E w fun v w' => rchk P L ops E w' (bsp (isG ops p.1) v fun v => ih Q (putE o.dst v E) w') p.2) (ih Q (putE o.dst undef E) w)
    | none => False) l Q E w
theorem pwp_cons (P : Program) (L : Lay) (ops : List Oper) (i : Nat) (rc : List Nat) (r : List (Nat × List Nat)) (Q : Env → World → Prop) (E : Env) (w : World) : pwp P L ops ((i, rc) :: r) Q E w = match ops[i]? with
    | some o => gw ops o E (owp P L o.type o.op E w fun v w' => rchk P L ops E w' (bsp (isG ops i) v fun v => pwp P L ops r Q (putE o.dst v E) w') rc) (pwp P L ops r Q (putE o.dst undef E) w)
    | none => False := rfl
end Go.Proofs.YtffjccofglikhaaGreat
