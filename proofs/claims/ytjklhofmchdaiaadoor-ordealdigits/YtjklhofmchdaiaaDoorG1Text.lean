/- Own layer of the proof: G1Text. No conditions. -/
import Derived.Test.YtjklhofmchdaiaaDoorG1Of
set_option maxRecDepth 100000
set_option linter.unusedVariables false
open Go Go.Sx Go.Proofs Go.RowKit
namespace G1

def digS : ByteArray := { data := #[48, 49, 50, 51, 52, 53, 54, 55, 56, 57, 97, 98, 99, 100, 101, 102] }
def textL (h : List Int) : Nat → List Int
  | 0 => []
  | i + 1 => textL h i ++ [bAt digS (h.getD i 0 / 2 ^ 4).toNat, bAt digS (bits .and .u8 (h.getD i 0) 15).toNat]
theorem textL_bd (h : List Int) (i : Nat) : ∀ x ∈ textL h i, 0 ≤ x ∧ x < 256 := by
  induction i with
  | zero => intro x hx; simp [textL] at hx
  | succ i ih =>
    intro x hx
    simp only [textL, List.mem_append, List.mem_cons, List.not_mem_nil, or_false] at hx
    rcases hx with hx | rfl | rfl
    · exact ih x hx
    · exact bAt_bd _ _
    · exact bAt_bd _ _
theorem textL_len (h : List Int) (i : Nat) : (textL h i).length = 2 * i := by
  induction i with
  | zero => rfl
  | succ i ih => simp [textL, ih]; omega
theorem fill2 (a b : Int) : fillA #[Value.int .u8 0, Value.int .u8 0] [(0, .int .u8 a), (1, .int .u8 b)] = ints .u8 [a, b] := rfl
theorem u8_15 (x : Int) : 0 ≤ bits .and .u8 x 15 ∧ bits .and .u8 x 15 < 16 := by
  have h : (BitVec.ofInt 8 x &&& BitVec.ofInt 8 ((15 : Nat) : Int)).toNat ≤ 15 := by
    rw [BitVec.toNat_and, BitVec.ofInt_natCast, BitVec.toNat_ofNat, Nat.mod_eq_of_lt (by omega)]
    exact Nat.and_le_right
  have e : bits .and .u8 x ((15 : Nat) : Int) = ((BitVec.ofInt 8 x &&& BitVec.ofInt 8 ((15 : Nat) : Int)).toNat : Int) := by
    show IntKind.u8.wrap _ = _
    exact wrap_u8 (by omega) (by have := (BitVec.ofInt 8 x &&& BitVec.ofInt 8 ((15 : Nat) : Int)).isLt; simp only [IntKind.bits]; omega)
  have e2 : bits .and .u8 x 15 = bits .and .u8 x ((15 : Nat) : Int) := rfl
  rw [e2, e]
  omega
theorem text_round (B n c i : Nat) (p : Option Addr) (h : List Int) (w : World) (Q : IExit → Env → World → Prop) (hl : h.length = 32) (hi : i < 32) (hb : ∀ x ∈ h, 0 ≤ x ∧ x < 256)
    (ho : Own w B 5 1 p n c (ints .u8 (textL h i))) (hB : B ≤ w.heap.size)
    (hQ : ∀ p' c' w', Own w' B 5 1 p' (n + 2) c' (ints .u8 (textL h (i + 1))) → Below B w w' → Q .normal [(3, .slice p' (n + 2) c'), (6, .agg (ints .u8 h)), (7, .int .i64 ((i + 1 : Nat) : Int))] w') :
    IW PP sha_Text.body0 [] [(3, .slice p n c), (6, .agg (ints .u8 h)), (7, .int .i64 (i : Int))] w Q := by
  have hn := own_len ho
  rw [textL_len] at hn
  have hx : 0 ≤ h.getD i 0 ∧ h.getD i 0 < 256 := hb _ (by rw [List.getD_eq_getElem?_getD, List.getElem?_eq_getElem (by omega)]; exact List.getElem_mem _)
  have h15 := u8_15 (h.getD i 0)
  have h4 : 0 ≤ h.getD i 0 / 2 ^ 4 ∧ h.getD i 0 / 2 ^ 4 < 16 := by rw [show (2 : Int) ^ 4 = 16 from rfl]; omega
  (repeat (first | (refine RW.apS ?_; conv => whnf) | (refine RW.c ?_; conv => whnf) | (refine DR.f ?_; conv => whnf) | (refine DR.o ?_; conv => whnf) | (refine KW.k ?_; conv => whnf) | refine RW.nil ?_ | refine EW.tn ?_ | refine IW.seq ?_ | refine IW.reg ?_ | refine IW.regD ?_ | refine DR.nil ?_ | (refine IW.cond ?_; conv => whnf) | refine IW.block ?_ | refine IW.skip ?_ | refine IW.exit ?_ | refine IW.ret ?_ | refine EW.tr ?_ | refine EW.tx ?_ | refine EW.bn ?_ | refine EW.br ?_ | refine EW.bx1 ?_ | refine EW.bx0 rfl ?_ | refine EW.fin ?_ | (refine RQ.n ?_; conv => whnf) | (refine RQ.r ?_; conv => whnf) | refine keepW_f ?_ | (refine DR.b ?_ ?_; conv => whnf) | exact DR.stop | refine LQ.x ?_ | refine LQ.r ?_))
  refine ⟨fun _ => ?_, fun hge => absurd (of_decide_eq_false hge) (by omega)⟩
  (repeat (first | (refine RW.apS ?_; conv => whnf) | (refine RW.c ?_; conv => whnf) | (refine DR.f ?_; conv => whnf) | (refine DR.o ?_; conv => whnf) | (refine KW.k ?_; conv => whnf) | refine RW.nil ?_ | refine EW.tn ?_ | refine IW.seq ?_ | refine IW.reg ?_ | refine IW.regD ?_ | refine DR.nil ?_ | (refine IW.cond ?_; conv => whnf) | refine IW.block ?_ | refine IW.skip ?_ | refine IW.exit ?_ | refine IW.ret ?_ | refine EW.tr ?_ | refine EW.tx ?_ | refine EW.bn ?_ | refine EW.br ?_ | refine EW.bx1 ?_ | refine EW.bx0 rfl ?_ | refine EW.fin ?_ | (refine RQ.n ?_; conv => whnf) | (refine RQ.r ?_; conv => whnf) | refine keepW_f ?_ | (refine DR.b ?_ ?_; conv => whnf) | exact DR.stop | refine LQ.x ?_ | refine LQ.r ?_))
  refine ⟨⟨by omega, by omega⟩, _, ints_get_lt (by omega), ?_⟩
  (repeat (first | (refine RW.apS ?_; conv => whnf) | (refine RW.c ?_; conv => whnf) | (refine DR.f ?_; conv => whnf) | (refine DR.o ?_; conv => whnf) | (refine KW.k ?_; conv => whnf) | refine RW.nil ?_ | refine EW.tn ?_ | refine IW.seq ?_ | refine IW.reg ?_ | refine IW.regD ?_ | refine DR.nil ?_ | (refine IW.cond ?_; conv => whnf) | refine IW.block ?_ | refine IW.skip ?_ | refine IW.exit ?_ | refine IW.ret ?_ | refine EW.tr ?_ | refine EW.tx ?_ | refine EW.bn ?_ | refine EW.br ?_ | refine EW.bx1 ?_ | refine EW.bx0 rfl ?_ | refine EW.fin ?_ | (refine RQ.n ?_; conv => whnf) | (refine RQ.r ?_; conv => whnf) | refine keepW_f ?_ | (refine DR.b ?_ ?_; conv => whnf) | exact DR.stop | refine LQ.x ?_ | refine LQ.r ?_))
  refine ⟨⟨h4.1, h4.2⟩, ?_⟩
  (repeat (first | (refine RW.apS ?_; conv => whnf) | (refine RW.c ?_; conv => whnf) | (refine DR.f ?_; conv => whnf) | (refine DR.o ?_; conv => whnf) | (refine KW.k ?_; conv => whnf) | refine RW.nil ?_ | refine EW.tn ?_ | refine IW.seq ?_ | refine IW.reg ?_ | refine IW.regD ?_ | refine DR.nil ?_ | (refine IW.cond ?_; conv => whnf) | refine IW.block ?_ | refine IW.skip ?_ | refine IW.exit ?_ | refine IW.ret ?_ | refine EW.tr ?_ | refine EW.tx ?_ | refine EW.bn ?_ | refine EW.br ?_ | refine EW.bx1 ?_ | refine EW.bx0 rfl ?_ | refine EW.fin ?_ | (refine RQ.n ?_; conv => whnf) | (refine RQ.r ?_; conv => whnf) | refine keepW_f ?_ | (refine DR.b ?_ ?_; conv => whnf) | exact DR.stop | refine LQ.x ?_ | refine LQ.r ?_))
  refine ⟨⟨h15.1, h15.2⟩, ?_⟩
  (repeat (first | (refine RW.apS ?_; conv => whnf) | (refine RW.c ?_; conv => whnf) | (refine DR.f ?_; conv => whnf) | (refine DR.o ?_; conv => whnf) | (refine KW.k ?_; conv => whnf) | refine RW.nil ?_ | refine EW.tn ?_ | refine IW.seq ?_ | refine IW.reg ?_ | refine IW.regD ?_ | refine DR.nil ?_ | (refine IW.cond ?_; conv => whnf) | refine IW.block ?_ | refine IW.skip ?_ | refine IW.exit ?_ | refine IW.ret ?_ | refine EW.tr ?_ | refine EW.tx ?_ | refine EW.bn ?_ | refine EW.br ?_ | refine EW.bx1 ?_ | refine EW.bx0 rfl ?_ | refine EW.fin ?_ | (refine RQ.n ?_; conv => whnf) | (refine RQ.r ?_; conv => whnf) | refine keepW_f ?_ | (refine DR.b ?_ ?_; conv => whnf) | exact DR.stop | refine LQ.x ?_ | refine LQ.r ?_))
  rw [fill2]
  refine ⟨_, rdN_all (heap_new _ _) rfl, appW_own (ho.ext (ext_trans (ext_drew _) (ext_alloc _ _))) (m := 2) rfl (ints_one _ _) ⟨by omega, by omega⟩ rfl (by rw [size_alloc]; show B ≤ w.heap.size + 1; omega) ?_⟩
  intro p' c' w' ho' hg' _
  (repeat (first | (refine RW.apS ?_; conv => whnf) | (refine RW.c ?_; conv => whnf) | (refine DR.f ?_; conv => whnf) | (refine DR.o ?_; conv => whnf) | (refine KW.k ?_; conv => whnf) | refine RW.nil ?_ | refine EW.tn ?_ | refine IW.seq ?_ | refine IW.reg ?_ | refine IW.regD ?_ | refine DR.nil ?_ | (refine IW.cond ?_; conv => whnf) | refine IW.block ?_ | refine IW.skip ?_ | refine IW.exit ?_ | refine IW.ret ?_ | refine EW.tr ?_ | refine EW.tx ?_ | refine EW.bn ?_ | refine EW.br ?_ | refine EW.bx1 ?_ | refine EW.bx0 rfl ?_ | refine EW.fin ?_ | (refine RQ.n ?_; conv => whnf) | (refine RQ.r ?_; conv => whnf) | refine keepW_f ?_ | (refine DR.b ?_ ?_; conv => whnf) | exact DR.stop | refine LQ.x ?_ | refine LQ.r ?_))
  have e4 : IntKind.i64.wrap ((i : Int) + 1) = ((i + 1 : Nat) : Int) := by rw [wrap_i64 (by omega) (by omega)]; omega
  rw [e4]
  rw [ints_append] at ho'
  exact hQ _ _ _ ho' ((below_alloc (w := w.drew) hB _ |> fun k => (⟨k.os, k.tape, k.output, k.size, k.block⟩ : Below B w _)).trans (grown_below hg' (by rw [size_alloc]; show B ≤ w.heap.size + 1; omega) (own_blk ho)))

theorem text_c (h : List Int) (w : World) (hl : h.length = 32) (hb : ∀ x ∈ h, 0 ≤ x ∧ x < 256) :
    Ret PP sha_Text.id #[.agg (ints .u8 h)] w fun v w' => v = .string (toBA (textL h 32)) ∧ Ext w w' := by
  refine sha_Text.start (args := [.agg (ints .u8 h)]) (by simp) ?_
  (repeat (first | (refine RW.apS ?_; conv => whnf) | (refine RW.c ?_; conv => whnf) | (refine DR.f ?_; conv => whnf) | (refine DR.o ?_; conv => whnf) | (refine KW.k ?_; conv => whnf) | refine RW.nil ?_ | refine EW.tn ?_ | refine IW.seq ?_ | refine IW.reg ?_ | refine IW.regD ?_ | refine DR.nil ?_ | (refine IW.cond ?_; conv => whnf) | refine IW.block ?_ | refine IW.skip ?_ | refine IW.exit ?_ | refine IW.ret ?_ | refine EW.tr ?_ | refine EW.tx ?_ | refine EW.bn ?_ | refine EW.br ?_ | refine EW.bx1 ?_ | refine EW.bx0 rfl ?_ | refine EW.fin ?_ | (refine RQ.n ?_; conv => whnf) | (refine RQ.r ?_; conv => whnf) | refine keepW_f ?_ | (refine DR.b ?_ ?_; conv => whnf) | exact DR.stop | refine LQ.x ?_ | refine LQ.r ?_))
  generalize hw1 : w.alloc _ = w1
  have he1 : Ext w w1 := hw1 ▸ ext_alloc _ _
  have h1 : w1.heap[w.heap.size]? = some (.cells (ints .u8 h) 23 (0, 0)) := hw1 ▸ heap_new _ _
  refine ⟨_, rdN_all h1 (by rw [ints_size, hl]), ?_⟩
  (repeat (first | (refine RW.apS ?_; conv => whnf) | (refine RW.c ?_; conv => whnf) | (refine DR.f ?_; conv => whnf) | (refine DR.o ?_; conv => whnf) | (refine KW.k ?_; conv => whnf) | refine RW.nil ?_ | refine EW.tn ?_ | refine IW.seq ?_ | refine IW.reg ?_ | refine IW.regD ?_ | refine DR.nil ?_ | (refine IW.cond ?_; conv => whnf) | refine IW.block ?_ | refine IW.skip ?_ | refine IW.exit ?_ | refine IW.ret ?_ | refine EW.tr ?_ | refine EW.tx ?_ | refine EW.bn ?_ | refine EW.br ?_ | refine EW.bx1 ?_ | refine EW.bx0 rfl ?_ | refine EW.fin ?_ | (refine RQ.n ?_; conv => whnf) | (refine RQ.r ?_; conv => whnf) | refine keepW_f ?_ | (refine DR.b ?_ ?_; conv => whnf) | exact DR.stop | refine LQ.x ?_ | refine LQ.r ?_))
  refine IW.loop (fun e w' => ∃ i p n c, i ≤ 32 ∧ e = [(3, .slice p n c), (6, .agg (ints .u8 h)), (7, .int .i64 ((i : Nat) : Int))] ∧ Own w' w.heap.size 5 1 p n c (ints .u8 (textL h i)) ∧ Ext w w')
    (fun e _ => (32 - geti e 7).toNat) ⟨0, none, 0, 0, by omega, rfl, Own.nil _ _ _ _, he1⟩ ?_
  rintro e w' ⟨i, p, n, c, hi, rfl, ho, he⟩
  by_cases hlt : i < 32
  · refine text_round w.heap.size n c i p h w' _ hl hlt hb ho he.size ?_
    intro p' c' w'' ho' hx'
    refine LQ.n ⟨i + 1, _, _, _, by omega, rfl, ho', he.trans hx'⟩ ?_
    simp [geti, find]; omega
  · obtain rfl : i = 32 := by omega
    (repeat (first | (refine RW.apS ?_; conv => whnf) | (refine RW.c ?_; conv => whnf) | (refine DR.f ?_; conv => whnf) | (refine DR.o ?_; conv => whnf) | (refine KW.k ?_; conv => whnf) | refine RW.nil ?_ | refine EW.tn ?_ | refine IW.seq ?_ | refine IW.reg ?_ | refine IW.regD ?_ | refine DR.nil ?_ | (refine IW.cond ?_; conv => whnf) | refine IW.block ?_ | refine IW.skip ?_ | refine IW.exit ?_ | refine IW.ret ?_ | refine EW.tr ?_ | refine EW.tx ?_ | refine EW.bn ?_ | refine EW.br ?_ | refine EW.bx1 ?_ | refine EW.bx0 rfl ?_ | refine EW.fin ?_ | (refine RQ.n ?_; conv => whnf) | (refine RQ.r ?_; conv => whnf) | refine keepW_f ?_ | (refine DR.b ?_ ?_; conv => whnf) | exact DR.stop | refine LQ.x ?_ | refine LQ.r ?_))
    refine ⟨fun h => absurd h (by decide), fun _ => ?_⟩
    (repeat (first | (refine RW.apS ?_; conv => whnf) | (refine RW.c ?_; conv => whnf) | (refine DR.f ?_; conv => whnf) | (refine DR.o ?_; conv => whnf) | (refine KW.k ?_; conv => whnf) | refine RW.nil ?_ | refine EW.tn ?_ | refine IW.seq ?_ | refine IW.reg ?_ | refine IW.regD ?_ | refine DR.nil ?_ | (refine IW.cond ?_; conv => whnf) | refine IW.block ?_ | refine IW.skip ?_ | refine IW.exit ?_ | refine IW.ret ?_ | refine EW.tr ?_ | refine EW.tx ?_ | refine EW.bn ?_ | refine EW.br ?_ | refine EW.bx1 ?_ | refine EW.bx0 rfl ?_ | refine EW.fin ?_ | (refine RQ.n ?_; conv => whnf) | (refine RQ.r ?_; conv => whnf) | refine keepW_f ?_ | (refine DR.b ?_ ?_; conv => whnf) | exact DR.stop | refine LQ.x ?_ | refine LQ.r ?_))
    have hr := ho.read
    rw [Nat.mul_one] at hr
    refine ⟨toBA (textL h 32), by rw [strA_toBA (textL_bd h 32)]; exact hr, ?_⟩
    (repeat (first | (refine RW.apS ?_; conv => whnf) | (refine RW.c ?_; conv => whnf) | (refine DR.f ?_; conv => whnf) | (refine DR.o ?_; conv => whnf) | (refine KW.k ?_; conv => whnf) | refine RW.nil ?_ | refine EW.tn ?_ | refine IW.seq ?_ | refine IW.reg ?_ | refine IW.regD ?_ | refine DR.nil ?_ | (refine IW.cond ?_; conv => whnf) | refine IW.block ?_ | refine IW.skip ?_ | refine IW.exit ?_ | refine IW.ret ?_ | refine EW.tr ?_ | refine EW.tx ?_ | refine EW.bn ?_ | refine EW.br ?_ | refine EW.bx1 ?_ | refine EW.bx0 rfl ?_ | refine EW.fin ?_ | (refine RQ.n ?_; conv => whnf) | (refine RQ.r ?_; conv => whnf) | refine keepW_f ?_ | (refine DR.b ?_ ?_; conv => whnf) | exact DR.stop | refine LQ.x ?_ | refine LQ.r ?_))
    exact ⟨rfl, he⟩
end G1
