/- Own layer of the proof: SxU. No conditions. -/
import Derived.Test.YtjklhofmchdaiaaDoorSxE
set_option linter.unusedVariables false
namespace Go.Sx
open Go.RowKit

/-! ### worlds -/
theorem ext_refl (w : World) : Ext w w := Below.refl _ _
theorem ext_trans {a b c : World} (h : Ext a b) (k : Ext b c) : Ext a c :=
  ⟨k.os.trans h.os, k.tape.trans h.tape, k.output.trans h.output, Nat.le_trans h.size k.size, fun i hi => (k.block i (Nat.lt_of_lt_of_le hi h.size)).trans (h.block i hi)⟩
theorem ext_drew (w : World) : Ext w w.drew := ⟨rfl, rfl, rfl, Nat.le_refl _, fun _ _ => rfl⟩
theorem below_alloc {B : Nat} {w : World} (h : B ≤ w.heap.size) (o : Obj) : Below B w (w.alloc o) := (Below.refl B w).alloc h o
theorem ext_alloc (w : World) (o : Obj) : Ext w (w.alloc o) := below_alloc (Nat.le_refl _) o
theorem below_upB {B : Nat} {w : World} {b : Nat} (h : B ≤ b) (o : Obj) : Below B w (upB w b o) :=
  ⟨rfl, rfl, rfl, by simp [upB], fun k hk => by simp only [upB, Array.getElem?_setIfInBounds]; rw [if_neg (by omega)]⟩
theorem heap_drew (w : World) : w.drew.heap = w.heap := rfl
theorem heap_alloc (w : World) (o : Obj) (b : Nat) : (w.alloc o).heap[b]? = if b = w.heap.size then some o else w.heap[b]? := by
  simp only [World.alloc, Array.getElem?_push]
theorem heap_new (w : World) (o : Obj) : (w.alloc o).heap[w.heap.size]? = some o := by rw [heap_alloc, if_pos rfl]
theorem heap_alloc_old {w : World} (o : Obj) {b : Nat} {x : Obj} (h : w.heap[b]? = some x) : (w.alloc o).heap[b]? = some x := by
  rw [heap_alloc, if_neg (Nat.ne_of_lt (Array.getElem?_eq_some_iff.1 h).1), h]
theorem lt_of_heap {w : World} {b : Nat} {x : Obj} (h : w.heap[b]? = some x) : b < w.heap.size := (Array.getElem?_eq_some_iff.1 h).1
theorem heap_upB_same {w : World} {b : Nat} {x : Obj} (h : w.heap[b]? = some x) (o : Obj) : (upB w b o).heap[b]? = some o := by
  rw [upB_heap (lt_of_heap h), if_pos rfl]
theorem heap_upB_other {w : World} {b c : Nat} (o : Obj) (h : b ≠ c) : (upB w b o).heap[c]? = w.heap[c]? := by
  simp only [upB, Array.getElem?_setIfInBounds, if_neg h]
theorem rd_of {w : World} {b : Nat} {c : Array Value} {t : TypeId} {z : Nat × Nat} (h : w.heap[b]? = some (.cells c t z)) (o : Nat) : rd w b o = c[o]? := by
  simp only [rd, h]
theorem rdN_of {w : World} {b : Nat} {c : Array Value} {t : TypeId} {z : Nat × Nat} (h : w.heap[b]? = some (.cells c t z)) {o n : Nat} (hn : o + n ≤ c.size) : rdN w b o n = some (c.extract o (o + n)) := by
  simp only [rdN, h, hn, if_true]
theorem rdN_all {w : World} {b : Nat} {c : Array Value} {t : TypeId} {z : Nat × Nat} (h : w.heap[b]? = some (.cells c t z)) {n : Nat} (hn : n = c.size) : rdN w b 0 n = some c := by
  rw [rdN_of h (by omega)]; subst hn; simp
theorem rd_ext {w w' : World} (h : Ext w w') {b o : Nat} {v : Value} (hr : rd w b o = some v) : rd w' b o = some v := by
  unfold rd at hr ⊢
  split at hr
  · rename_i c t z hb; rw [ext_heap h hb]; exact hr
  · cases hr
theorem Ret.of_eq {P : Program} {f : FuncId} {args : Array Value} {w : World} {R : Value → World → Prop} {l : List Value} (h : Ret P f l.toArray w R) (e : args = l.toArray) : Ret P f args w R := e ▸ h

theorem Ext.up {w w' : World} (h : Ext w w') {b : Nat} (hb : w.heap.size ≤ b) (o : Obj) : Ext w (upB w' b o) :=
  ⟨h.os, h.tape, h.output, by simpa [upB] using h.size, fun i hi => (heap_upB_other (w := w') o (show b ≠ i by omega)).trans (h.block i hi)⟩
theorem Ext.al {w w' : World} (h : Ext w w') (o : Obj) : Ext w (w'.alloc o) := ext_trans h (ext_alloc _ _)
theorem Ext.dr {w w' : World} (h : Ext w w') : Ext w w'.drew := ext_trans h (ext_drew _)

theorem Ext.be {w w' : World} {B : Nat} (h : Ext w w') (hb : B ≤ w.heap.size) : Below B w w' :=
  ⟨h.os, h.tape, h.output, h.size, fun i hi => h.block i (by omega)⟩
theorem Ext.heap {w w' : World} (h : Ext w w') {b : Nat} {x : Obj} (hb : w.heap[b]? = some x) : w'.heap[b]? = some x := ext_heap h hb
theorem size_alloc (w : World) (o : Obj) : (w.alloc o).heap.size = w.heap.size + 1 := Array.size_push _

/-! ### numbers -/
def geti (e : Env) (i : Nat) : Int := match find e i with | some (.int _ n) => n | _ => 0
theorem wrap_i64 {n : Int} (h0 : -9223372036854775808 ≤ n) (h1 : n ≤ 9223372036854775807) : IntKind.i64.wrap n = n := by
  unfold IntKind.wrap; simp [IntKind.bits, IntKind.signed]; omega
theorem wrap_u64 {n : Int} (h0 : 0 ≤ n) (h1 : n < 18446744073709551616) : IntKind.u64.wrap n = n := by
  unfold IntKind.wrap; simp [IntKind.bits, IntKind.signed]; omega
theorem wrap_u32 {n : Int} (h0 : 0 ≤ n) (h1 : n < 4294967296) : IntKind.u32.wrap n = n := by
  unfold IntKind.wrap; simp [IntKind.bits, IntKind.signed]; omega
theorem wrap_u8 {n : Int} (h0 : 0 ≤ n) (h1 : n < 256) : IntKind.u8.wrap n = n := by
  unfold IntKind.wrap; simp [IntKind.bits, IntKind.signed]; omega
theorem wrap_u32_bd (n : Int) : 0 ≤ IntKind.u32.wrap n ∧ IntKind.u32.wrap n < 4294967296 := by
  unfold IntKind.wrap; simp [IntKind.bits, IntKind.signed]; omega
theorem wrap_u64_bd (n : Int) : 0 ≤ IntKind.u64.wrap n ∧ IntKind.u64.wrap n < 18446744073709551616 := by
  unfold IntKind.wrap; simp [IntKind.bits, IntKind.signed]; omega
theorem wrap_u8_bd (n : Int) : 0 ≤ IntKind.u8.wrap n ∧ IntKind.u8.wrap n < 256 := by
  unfold IntKind.wrap; simp [IntKind.bits, IntKind.signed]; omega
theorem bAt_bd (s : ByteArray) (i : Nat) : 0 ≤ bAt s i ∧ bAt s i < 256 := by
  unfold bAt; have := (s.data.getD i 0).toNat_lt; omega
theorem bits_and_u32_le (x : Int) (m : Nat) (hm : m < 4294967296) : 0 ≤ bits .and .u32 x (m : Int) ∧ bits .and .u32 x (m : Int) ≤ m := by
  have h : (BitVec.ofInt 32 x &&& BitVec.ofInt 32 (m : Int)).toNat ≤ m := by
    rw [BitVec.toNat_and, BitVec.ofInt_natCast, BitVec.toNat_ofNat, Nat.mod_eq_of_lt (by omega)]
    exact Nat.and_le_right
  have e : bits .and .u32 x (m : Int) = ((BitVec.ofInt 32 x &&& BitVec.ofInt 32 (m : Int)).toNat : Int) := by
    show IntKind.u32.wrap _ = _
    exact wrap_u32 (by omega) (by have := (BitVec.ofInt 32 x &&& BitVec.ofInt 32 (m : Int)).isLt; simp only [IntKind.bits]; omega)
  rw [e]
  exact ⟨by omega, by exact_mod_cast h⟩
end Go.Sx
