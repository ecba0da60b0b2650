/- Own layer of the proof: Sx. No conditions. -/
import Derived.Deep.Quiet
import Derived.Below
import Derived.Laws.World
import Derived.Laws.Entries
import Derived.KernelRfl
set_option linter.unusedVariables false
set_option linter.unusedSimpArgs false
namespace Go.Sx
open Go.RowKit

/-! ### the intermediate code -/
inductive CK where
  | int (k : IntKind) | bool | string | pointer | slice | map | func
  deriving DecidableEq, Inhabited

abbrev Env := List (Nat × Value)

def find : Env → Nat → Option Value
  | [], _ => none
  | (k, v) :: r, i => match Nat.beq k i with | true => some v | false => find r i

inductive IOp where
  | mv (x : Operand)
  | pick (c x y : Operand)
  | bin (op : BinOp) (x y : Operand)
  | eqBool (neg : Bool) (x y : Operand)
  | un (op : UnOp) (x : Operand)
  | shlC (n : Nat) (x : Operand)
  | shrC (n : Nat) (x : Operand)
  | minI (x y : Operand)
  | maxI (x y : Operand)
  | cvInt (k : IntKind) (x : Operand)
  | ld (ck : CK) (x : Operand)
  | ldN (n : Nat) (x : Operand)
  | nilck (x : Operand)
  | fldA (off : Nat) (x : Operand)
  | idxL (size : Nat) (x i : Operand)
  | idxA (len size : Nat) (x i : Operand)
  | idxS (x i : Operand)
  | idxV (ck : CK) (len : Nat) (x i : Operand)
  | idxVN (len size : Nat) (x i : Operand)
  | fld (ck : CK) (off : Nat) (x : Operand)
  | fldN (off n : Nat) (x : Operand)
  | slcS (x : Operand) (lo hi : Option Operand)
  | slcL (size : Nat) (x : Operand) (lo hi : Option Operand)
  | slcA (n size : Nat) (x : Operand) (lo hi : Option Operand)
  | lenS (x : Operand)
  | lenL (x : Operand)
  | lenM (x : Operand)
  | lenC (n : Nat)
  | extract (i : Nat) (x : Operand)
  | mkFn (f : FuncId) (first captured : List Operand)
  | build (zero : Array Value) (parts : List (Nat × Nat × Operand))
  | call (f : FuncId) (args : List Operand)
  -- loud
  | st (x v : Operand)
  | stN (n : Nat) (x v : Operand)
  | box (t : TypeId) (x : Operand)
  | alloc (t : TypeId) (zero : Value)
  | buildSl (elem len : Nat) (zero : Array Value) (parts : List (Nat × Nat × Operand))
  | mkSl (elem bytes size : Nat) (zero : Array Value) (l c : Operand)
  | mkMap
  | app (elem bytes size : Nat) (zero : Array Value) (s x : Operand)
  | appS (elem : Nat) (s x : Operand)
  | cvBytes (elem : Nat) (x : Operand)
  | cvStr (x : Operand)
  | callV (f : Operand) (args : List Operand)
  | raw (o : Oper)
  deriving Inhabited

structure IOper where
  dst : Option Nat
  op : IOp
  guard : Option (Nat × Bool) := none
  deriving Inhabited

/-- How a region whose order is open is walked: 'first': it only reads, and may be taken ahead of all others (wl: whatever the world; s: all that can come while it waits, a bit each); 'one': it alone may come; 'br': one of several that may come. -/
inductive DT where
  | nil
  | first (wl : Bool) (i s : Nat) (next : DT)
  | one (keep : Bool) (i : Nat) (next : DT)
  | br (keep : Bool) (i : Nat) (next alts : DT)
  | stop
  deriving Inhabited

/-- The same, with the operations. -/
inductive DW where
  | nil
  | first (wl : Bool) (o : IOper) (next : DW)
  | one (keep : Bool) (o : IOper) (next : DW)
  | br (keep : Bool) (o : IOper) (next alts : DW)
  | stop
  deriving Inhabited

inductive ICode where
  | skip
  | reg (ops : List IOper) (keep : List Nat)
  | regD (dw : DW) (keep : List Nat)
  | seq (x y : ICode)
  | cond (c : Operand) (kx ky : List Nat) (x y : ICode)
  | block (id : Nat) (x : ICode)
  | loop (x : ICode)
  | exit (id : Nat)
  | ret
  deriving Inhabited

/-! ### reading values -/
def withV (e : Env) (x : Operand) (F : Value → Prop) : Prop :=
  match x with
  | .tmp t => match find e t with | some v => F v | none => False
  | .const v => F v
  | .global g => F (.pointer (some ⟨g, 0, none⟩))
  | .func f => F (.func (.func f) #[] #[])

def withVs (e : Env) : List Operand → (List Value → Prop) → Prop
  | [], F => F []
  | x :: r, F => withV e x fun v => withVs e r fun vs => F (v :: vs)

def withInt (e : Env) (x : Operand) (F : IntKind → Int → Prop) : Prop :=
  withV e x fun | .int k n => F k n | _ => False
def withBool (e : Env) (x : Operand) (F : Bool → Prop) : Prop :=
  withV e x fun | .bool b => F b | _ => False
def withAddr (e : Env) (x : Operand) (F : Nat → Nat → Prop) : Prop :=
  withV e x fun | .pointer (some ⟨b, o, none⟩) => F b o | _ => False
def withAgg (e : Env) (x : Operand) (F : Array Value → Prop) : Prop :=
  withV e x fun | .agg cs => F cs | _ => False
def withSl (e : Env) (x : Operand) (F : Option Addr → Nat → Nat → Prop) : Prop :=
  withV e x fun | .slice p n c => F p n c | _ => False
def withStr (e : Env) (x : Operand) (F : ByteArray → Prop) : Prop :=
  withV e x fun | .string s => F s | _ => False

def kEq : IntKind → IntKind → Bool
  | .i8, .i8 | .i16, .i16 | .i32, .i32 | .i64, .i64 | .u8, .u8 | .u16, .u16 | .u32, .u32 | .u64, .u64 => true
  | _, _ => false
theorem kEq_eq {a b : IntKind} (h : kEq a b = true) : a = b := by cases a <;> cases b <;> simp_all [kEq]
theorem kEq_self (a : IntKind) : kEq a a = true := by cases a <;> rfl

/-! ### the world -/
def rd (w : World) (b o : Nat) : Option Value := match w.heap[b]? with | some (.cells c _ _) => c[o]? | _ => none
def rdN (w : World) (b o n : Nat) : Option (Array Value) :=
  match w.heap[b]? with | some (.cells c _ _) => if o + n ≤ c.size then some (c.extract o (o + n)) else none | _ => none
def upB (w : World) (b : Nat) (o : Obj) : World := { w with heap := w.heap.setIfInBounds b o }
def splice (c : Array Value) (o : Nat) (us : Array Value) : Array Value := c.extract 0 o ++ us ++ c.extract (o + us.size) c.size
def one : Value → Bool | .agg _ | .tuple _ => false | _ => true
abbrev Ext (w w' : World) : Prop := Below w.heap.size w w'
/-- A call that returns. -/
inductive Ret (P : Program) (f : FuncId) (args : Array Value) (w : World) (R : Value → World → Prop) : Prop where
  | mk (h : Calls P f args w fun e w' => ∃ v, e = .returned v ∧ R v w')
theorem Ret.out {P f args w R} (h : Ret P f args w R) : Calls P f args w fun e w' => ∃ v, e = .returned v ∧ R v w' := h.casesOn id
theorem Ret.mono {P f args w R R'} (h : Ret P f args w R) (hr : ∀ v w', R v w' → R' v w') : Ret P f args w R' :=
  ⟨h.out.mono fun e w' ⟨v, he, hv⟩ => ⟨v, he, hr v w' hv⟩⟩

/-! ### operations -/
def ldW (ck : CK) (r : Option Value) (K : Value → Prop) : Prop :=
  match ck with
  | .int k => ∃ n, r = some (.int k n) ∧ K (.int k n)
  | .bool => ∃ n, r = some (.bool n) ∧ K (.bool n)
  | .string => ∃ n, r = some (.string n) ∧ K (.string n)
  | .pointer => ∃ n, r = some (.pointer n) ∧ K (.pointer n)
  | .slice => ∃ p n c, r = some (.slice p n c) ∧ K (.slice p n c)
  | .map => ∃ n, r = some (.map n) ∧ K (.map n)
  | .func => ∃ f x c, r = some (.func f x c) ∧ K (.func f x c)

def intW (op : BinOp) (k : IntKind) (a b : Int) (K : Value → Prop) : Prop :=
  match op with
  | .add => K (.int k (k.wrap (a + b)))
  | .sub => K (.int k (k.wrap (a - b)))
  | .mul => K (.int k (k.wrap (a * b)))
  | .quo => b ≠ 0 ∧ K (.int k (k.wrap (a.tdiv b)))
  | .rem => b ≠ 0 ∧ K (.int k (a.tmod b))
  | .and => K (.int k (bits .and k a b))
  | .or => K (.int k (bits .or k a b))
  | .xor => K (.int k (bits .xor k a b))
  | .andNot => K (.int k (bits .andNot k a b))
  | .eql => K (.bool (a == b))
  | .neq => K (.bool (a != b))
  | .lss => K (.bool (decide (a < b)))
  | .leq => K (.bool (decide (a ≤ b)))
  | .gtr => K (.bool (decide (a > b)))
  | .geq => K (.bool (decide (a ≥ b)))
  | _ => False

def strW (op : BinOp) (a b : ByteArray) (K : Value → Prop) : Prop :=
  match op with
  | .add => a.size + b.size ≤ 9223372036854775807 ∧ K (.string (a ++ b))
  | .eql => K (.bool (a.toList == b.toList))
  | .neq => K (.bool (!(a.toList == b.toList)))
  | .lss => K (.bool (Op.bytesLess a.toList b.toList))
  | .leq => K (.bool (Op.bytesLess a.toList b.toList || a.toList == b.toList))
  | .gtr => K (.bool (!(Op.bytesLess a.toList b.toList || a.toList == b.toList)))
  | .geq => K (.bool (!Op.bytesLess a.toList b.toList))
  | _ => False

def binW (op : BinOp) (x y : Value) (K : Value → Prop) : Prop :=
  match x, y with
  | .int k a, .int k' b =>
    match op with
    | .shl => 0 ≤ b ∧ K (.int k (k.wrap (a * 2 ^ (min b.toNat k.bits))))
    | .shr => 0 ≤ b ∧ K (.int k (a.fdiv (2 ^ (min b.toNat k.bits))))
    | op => match kEq k k' with | true => intW op k a b K | false => False
  | .string a, .string b => strW op a b K
  | _, _ => False

def bAt (s : ByteArray) (i : Nat) : Int := ((s.data.getD i 0).toNat : Int)
def slcP (p : Option Addr) (cap l size : Nat) : Option Addr := if cap = l then p else p.map (·.add (l * size))

def boundW (x : Option Operand) (e : Env) (dflt : Nat) (top : Nat) (K : Nat → Prop) : Prop :=
  match x with
  | none => K dflt
  | some x => withInt e x fun _ n => (0 ≤ n ∧ n ≤ (top : Int)) ∧ K n.toNat

def fillA : Array Value → List (Nat × Value) → Array Value
  | z, [] => z
  | z, (o, v) :: r => fillA (match v with | .agg cs => splice z o cs | v => z.setIfInBounds o v) r

/-- A part of a literal: a value of n cells. -/
def partK (v : Value) (n : Nat) (F : Prop) : Prop :=
  match v with
  | .agg cs => cs.size = n ∧ F
  | _ => match Nat.beq n 1 with | true => F | false => False

def withParts (e : Env) : List (Nat × Nat × Operand) → (List (Nat × Value) → Prop) → Prop
  | [], F => F []
  | (o, n, x) :: r, F => withV e x fun v => partK v n (withParts e r fun vs => F ((o, v) :: vs))

def callable (P : Program) (f : FuncId) : Bool :=
  match P.funcs[f]? with
  | some fn => !(fn.name == "runtime.NumGoroutine") && fn.body.isSome
  | none => false

/-- The cells of a slice's row (nil: none). -/
def rdS (w : World) (p : Option Addr) (n : Nat) : Option (Array Value) :=
  match p with
  | none => some #[]
  | some ⟨b, o, none⟩ => rdN w b o n
  | _ => none
def strA (s : ByteArray) : Array Value := s.data.map fun b => .int .u8 b.toNat

/-- Operations whose value is the same in every world that has the old blocks as they were. -/
def opQ (P : Program) (o : IOp) (e : Env) (w : World) (K : Value → Prop) : Prop :=
  match o with
  | .mv x => withV e x K
  | .pick c x y => withBool e c fun t => (t = true → withV e x K) ∧ (t = false → withV e y K)
  | .bin op x y => withV e x fun u => withV e y fun v => binW op u v K
  | .eqBool neg x y => withBool e x fun a => withBool e y fun b => match neg with | false => K (.bool (a == b)) | true => K (.bool (!(a == b)))
  | .un op x => withV e x fun v => match op, v with
    | .neg, .int k n => K (.int k (k.wrap (0 - n)))
    | .xor, .int k n => K (.int k (bits .xor k (if k.signed then -1 else k.max) n))
    | .not, .bool b => K (.bool (!b))
    | _, _ => False
  | .shlC n x => withInt e x fun k a => match Nat.ble n k.bits with | true => K (.int k (k.wrap (a * 2 ^ n))) | false => False
  | .shrC n x => withInt e x fun k a => match Nat.ble n k.bits with | true => K (.int k (a / 2 ^ n)) | false => False
  | .minI x y => withInt e x fun k a => withInt e y fun _ b => K (.int k (if b < a then b else a))
  | .maxI x y => withInt e x fun k a => withInt e y fun _ b => K (.int k (if b > a then b else a))
  | .cvInt k x => withInt e x fun _ n => K (.int k (k.wrap n))
  | .ld ck x => withAddr e x fun b o => ldW ck (rd w b o) K
  | .ldN n x => withAddr e x fun b o => ∃ cs, rdN w b o n = some cs ∧ K (.agg cs)
  | .nilck x => withV e x fun v => match v with | .pointer (some a) => K (.pointer (some a)) | .func (.func f) a c => K (.func (.func f) a c) | _ => False
  | .fldA off x => withAddr e x fun b o => match Nat.beq off 0 with | true => K (.pointer (some ⟨b, o, none⟩)) | false => K (.pointer (some ⟨b, o + off, none⟩))
  | .idxL size x i => withSl e x fun p n c => withInt e i fun _ j => (0 ≤ j ∧ j < (n : Int)) ∧ ∃ b o, p = some ⟨b, o, none⟩ ∧ K (.pointer (some ⟨b, o + j.toNat * size, none⟩))
  | .idxA len size x i => withAddr e x fun b o => withInt e i fun _ j => (0 ≤ j ∧ j < (len : Int)) ∧ K (.pointer (some ⟨b, o + j.toNat * size, none⟩))
  | .idxS x i => withStr e x fun s => withInt e i fun _ j => (0 ≤ j ∧ j < (s.size : Int)) ∧ K (.int .u8 (bAt s j.toNat))
  | .idxV ck len x i => withAgg e x fun cs => withInt e i fun _ j => (0 ≤ j ∧ j < (len : Int)) ∧ ldW ck (cs[j.toNat]?) K
  | .idxVN len size x i => withAgg e x fun cs => withInt e i fun _ j => (0 ≤ j ∧ j < (len : Int)) ∧ K (.agg (cs.extract (j.toNat * size) (j.toNat * size + size)))
  | .fld ck off x => withAgg e x fun cs => ldW ck (cs[off]?) K
  | .fldN off n x => withAgg e x fun cs => K (.agg (cs.extract off (off + n)))
  | .slcS x lo hi => withStr e x fun s => boundW hi e s.size s.size fun h => boundW lo e 0 h fun l => K (.string (s.extract l h))
  | .slcL size x lo hi => withSl e x fun p n c => boundW hi e n c fun h => boundW lo e 0 h fun l => K (.slice (slcP p c l size) (h - l) (c - l))
  | .slcA n size x lo hi => withAddr e x fun b o => boundW hi e n n fun h => boundW lo e 0 h fun l => K (.slice (slcP (some ⟨b, o, none⟩) n l size) (h - l) (n - l))
  | .lenS x => withStr e x fun s => K (.int .i64 s.size)
  | .lenL x => withSl e x fun _ n _ => K (.int .i64 n)
  | .lenM x => withV e x fun v => match v with
    | .map none => K (.int .i64 0)
    | .map (some r) => ∃ es cl, w.heap[r]? = some (.map es cl) ∧ K (.int .i64 es.size)
    | _ => False
  | .lenC n => K (.int .i64 n)
  | .extract i x => withV e x fun v => match v with | .tuple vs => (match vs.toList[i]? with | some v => K v | none => False) | _ => False
  | .mkFn f first caps => withVs e first fun fs => withVs e caps fun cs => K (.func (.func f) fs.toArray cs.toArray)
  | .build zero parts => withParts e parts fun vs => K (.agg (fillA zero vs))
  | .cvStr x => withSl e x fun p n _ => ∃ s : ByteArray, rdS w p n = some (strA s) ∧ K (.string s)
  | .call f args => withVs e args fun vs => ∃ v, (∀ w', Ext w w' → Ret P f vs.toArray w' fun u w'' => u = v ∧ Ext w' w'') ∧ K v
  | _ => False

def zerosA (zero : Array Value) (n : Nat) : Array Value := (Array.range (n * zero.size)).map fun i => zero[i % zero.size]!
/-- 'append' of cells 'news' (m elements) to a slice. -/
def appW (elem bytes size : Nat) (zero : Array Value) (w : World) (p : Option Addr) (n c m : Nat) (news : Array Value) (K : Value → World → Prop) : Prop :=
  (n + m ≤ c → match p with
    | none => K (.slice none (n + m) c) w
    | some ⟨b, o, none⟩ => news.all one = true ∧ ∃ cs t, w.heap[b]? = some (.cells cs t (0, 0)) ∧ o + n * size + news.size ≤ cs.size ∧
        K (.slice p (n + m) c) (upB w b (.cells (splice cs (o + n * size) news) t (0, 0)))
    | _ => False) ∧
  (c < n + m → (n + m ≤ 9223372036854775807 ∧ (2 * (n + m) + 200) * bytes ≤ 281474976710656) ∧ ∃ olds, rdS w p (n * size) = some olds ∧
    ∀ cap', n + m ≤ cap' → K (.slice (some ⟨w.heap.size, 0, none⟩) (n + m) cap') (w.drew.alloc (.cells (olds ++ news ++ zerosA zero (cap' - (n + m))) elem)))

def opW (P : Program) (o : IOp) (e : Env) (w : World) (K : Value → World → Prop) : Prop :=
  match o with
  | .call f args => withVs e args fun vs => Ret P f vs.toArray w K
  | .callV g args => withV e g fun v => match v with
    | .func (.func f) first caps => withVs e args fun vs => callable P f = true ∧ Ret P f (first ++ vs.toArray ++ caps) w K
    | _ => False
  | .st x v => withAddr e x fun b o => withV e v fun u => match one u with
    | true => ∃ c t, w.heap[b]? = some (.cells c t (0, 0)) ∧ o < c.size ∧ K undef (upB w b (.cells (c.setIfInBounds o u) t (0, 0)))
    | false => False
  | .stN n x v => withAddr e x fun b o => withAgg e v fun us => us.size = n ∧ us.all one = true ∧
      ∃ c t, w.heap[b]? = some (.cells c t (0, 0)) ∧ o + us.size ≤ c.size ∧ K undef (upB w b (.cells (splice c o us) t (0, 0)))
  | .box t x => withV e x fun v => K (.pointer (some ⟨w.heap.size, 0, none⟩)) (w.alloc (.cells v.cells t))
  | .alloc t zero => K (.pointer (some ⟨w.heap.size, 0, none⟩)) (w.alloc (.cells zero.cells t))
  | .buildSl elem len zero parts => withParts e parts fun vs =>
      K (.slice (some ⟨w.heap.size, 0, none⟩) len len) (w.alloc (.cells (fillA zero vs) elem))
  | .mkSl elem bytes size zero l c => withInt e l fun _ l => withInt e c fun _ c =>
      (0 ≤ l ∧ l ≤ c ∧ c ≤ 9223372036854775807 ∧ (bytes : Int) * c ≤ 281474976710656) ∧
      K (.slice (some ⟨w.heap.size, 0, none⟩) l.toNat c.toNat) (w.alloc (.cells ((Array.range (c.toNat * size)).map fun i => zero[i % size]!) elem))
  | .mkMap => K (.map (some w.heap.size)) (w.alloc (.map #[] 0))
  | .app elem bytes size zero s x => withSl e s fun p n c => withSl e x fun q m _ => ∃ news, rdS w q (m * size) = some news ∧ appW elem bytes size zero w p n c m news K
  | .appS elem s x => withSl e s fun p n c => withStr e x fun x => appW elem 1 1 #[.int .u8 0] w p n c x.size (strA x) K
  | .cvBytes elem x => withStr e x fun s => ∀ cap', s.size ≤ cap' → K (.slice (some ⟨w.heap.size, 0, none⟩) s.size cap') (w.drew.alloc (.cells (strA s ++ Array.replicate (cap' - s.size) (.int .u8 0)) elem (cap', cap' + 1)))
  | .raw o => False
  | _ => opQ P o e w fun v => K v w

def put (e : Env) (d : Option Nat) (v : Value) : Env := match d with | some d => (d, v) :: e | none => e

def opsW (P : Program) : List IOper → Env → World → (Env → World → Prop) → Prop
  | [], e, w, K => K e w
  | o :: r, e, w, K => match o.guard with
    | none => opW P o.op e w fun v w' => opsW P r (put e o.dst v) w' K
    | some (t, want) => match find e t with
      | some (.bool b) => (b = want → opW P o.op e w fun v w' => opsW P r (put e o.dst v) w' K) ∧ (b ≠ want → opsW P r (put e o.dst undef) w K)
      | some _ => opsW P r (put e o.dst undef) w K
      | none => False

/-- What is guarded, and what isn't wanted. -/
def guardW (o : IOper) (e : Env) (yes no : Prop) : Prop :=
  match o.guard with
  | none => yes
  | some (t, want) => match find e t with
    | some (.bool b) => (b = want → yes) ∧ (b ≠ want → no)
    | some _ => no
    | none => False
def keepW (keep : Bool) (w0 w w' : World) (R : Prop) : Prop :=
  match keep with
  | true => Below w0.heap.size w w' ∧ R
  | false => R
/-- A region whose order is open. w0: the world in which it begins. -/
def opsD (P : Program) : DW → Env → World → World → (Env → World → Prop) → Prop
  | .nil, e, _, w, K => K e w
  | .first wl o next, e, w0, w, K => guardW o e (opQ P o.op e w0 fun v => opsD P next (put e o.dst v) w0 w K) (opsD P next (put e o.dst undef) w0 w K)
  | .one keep o next, e, w0, w, K => guardW o e (opW P o.op e w fun v w' => keepW keep w0 w w' (opsD P next (put e o.dst v) w0 w' K)) (opsD P next (put e o.dst undef) w0 w K)
  | .br keep o next alts, e, w0, w, K => guardW o e (opW P o.op e w fun v w' => keepW keep w0 w w' (opsD P next (put e o.dst v) w0 w' K)) (opsD P next (put e o.dst undef) w0 w K) ∧
    opsD P alts e w0 w K
  | .stop, _, _, _, _ => True

def keepK : List Nat → Env → Env → (Env → Prop) → Prop
  | [], _, acc, K => K acc
  | i :: r, e, acc, K => match find e i with
    | some v => keepK r e ((i, v) :: acc) K
    | none => keepK r e acc K

inductive IExit where | normal | exit (id : Nat) | ret

def thenW (next : Env → World → Prop) (Q : IExit → Env → World → Prop) : IExit → Env → World → Prop
  | .normal, e, w => next e w
  | x, e, w => Q x e w
def blockW (id : Nat) (Q : IExit → Env → World → Prop) : IExit → Env → World → Prop
  | .exit i, e, w => match Nat.beq i id with | true => Q .normal e w | false => Q (.exit i) e w
  | x, e, w => Q x e w

/-- A loop: a relation that holds at each round's head, and a measure that each round lowers. -/
inductive LoopW (body : Env → World → (IExit → Env → World → Prop) → Prop) (e : Env) (w : World) (Q : IExit → Env → World → Prop) : Prop where
  | mk (I : Env → World → Prop) (μ : Env → World → Nat) (h0 : I e w) (h : ∀ e w, I e w → body e w (thenW (fun e' w' => I e' w' ∧ μ e' w' < μ e w) Q))

def icW (P : Program) : ICode → Env → World → (IExit → Env → World → Prop) → Prop
  | .skip, e, w, Q => Q .normal e w
  | .reg ops keep, e, w, Q => opsW P ops e w fun e' w' => keepK keep e' [] fun e'' => Q .normal e'' w'
  | .regD dw keep, e, w, Q => opsD P dw e w.drew w.drew fun e' w' => keepK keep e' [] fun e'' => Q .normal e'' w'
  | .seq x y, e, w, Q => icW P x e w (thenW (fun e' w' => icW P y e' w' Q) Q)
  | .cond c kx ky x y, e, w, Q => withBool e c fun t => (t = true → keepK kx e [] fun e' => icW P x e' w Q) ∧ (t = false → keepK ky e [] fun e' => icW P y e' w Q)
  | .block id x, e, w, Q => icW P x e w (blockW id Q)
  | .loop x, e, w, Q => LoopW (fun e w Q => icW P x e w Q) e w Q
  | .exit id, e, w, Q => Q (.exit id) e w
  | .ret, e, w, Q => Q .ret e w

end Go.Sx
