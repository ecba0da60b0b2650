/- Own layer of the proof: G1Of. No conditions. -/
import Derived.Test.YtjklhofmchdaiaaDoorG1Sum2
set_option maxRecDepth 100000
set_option linter.unusedVariables false
open Go Go.Sx Go.Proofs Go.RowKit
namespace G1

def writeSt (s : ByteArray) : List Int := absorb ((bytesL s).length / 64) startT (bytesL s)
def writeRest (s : ByteArray) : List Int := (bytesL s).drop (64 * ((bytesL s).length / 64))
def shaF (s : ByteArray) : List Int := sumF true (writeSt s) (writeRest s) (IntKind.u64.wrap (0 + IntKind.u64.wrap s.size))
theorem of_c (s : ByteArray) (w : World) (hg : 2 < w.heap.size) (hst : StartAt w) (hr : RoundsAt w) (hsz : s.size ≤ 1000000) :
    Ret PP sha_Of.id #[.string s] w fun v w' => v = .agg (ints .u8 (shaF s)) ∧ Ext w w' := by
  refine sha_Of.start (args := [.string s]) (by simp) ?_
  have hz : (Value.agg (Array.replicate 32 (.int .u8 0))).cells = ints .u8 (List.replicate 32 0) := (ints_replicate _ _ _).symm
  (repeat (first | (refine RW.apS ?_; conv => whnf) | (refine RW.c ?_; conv => whnf) | (refine DR.f ?_; conv => whnf) | (refine DR.o ?_; conv => whnf) | (refine KW.k ?_; conv => whnf) | refine RW.nil ?_ | refine EW.tn ?_ | refine IW.seq ?_ | refine IW.reg ?_ | refine IW.regD ?_ | refine DR.nil ?_ | (refine IW.cond ?_; conv => whnf) | refine IW.block ?_ | refine IW.skip ?_ | refine IW.exit ?_ | refine IW.ret ?_ | refine EW.tr ?_ | refine EW.tx ?_ | refine EW.bn ?_ | refine EW.br ?_ | refine EW.bx1 ?_ | refine EW.bx0 rfl ?_ | refine EW.fin ?_ | (refine RQ.n ?_; conv => whnf) | (refine RQ.r ?_; conv => whnf) | refine keepW_f ?_ | (refine DR.b ?_ ?_; conv => whnf) | exact DR.stop | refine LQ.x ?_ | refine LQ.r ?_))
  rw [hz]
  generalize hw1 : w.alloc (Obj.cells (ints .u8 (List.replicate 32 0)) 23) = w1
  have he1 : Ext w w1 := hw1 ▸ ext_alloc _ _
  have s1 : w1.heap.size = w.heap.size + 1 := hw1 ▸ size_alloc _ _
  have h2 : w1.heap[w.heap.size]? = some (.cells (ints .u8 (List.replicate 32 0)) 23 (0, 0)) := hw1 ▸ heap_new _ _
  generalize hw2 : w1.alloc _ = w2
  have he2 : Ext w1 w2 := hw2 ▸ ext_alloc _ _
  have h2 := he2.heap h2
  have he := ext_trans he1 he2
  have hH : HA w2 w1.heap.size w1.heap.size false (List.replicate 8 0) [] 0 := ⟨Nat.le_refl _, rfl, none, 0, 0, hw2 ▸ heap_new _ _, Own.nil _ _ _ _, fun _ h => by cases h⟩
  have hst2 : StartAt w2 := by obtain ⟨t, z, h⟩ := hst; exact ⟨t, z, he.heap h⟩
  refine (write_c w1.heap.size w1.heap.size false _ [] 0 s w2 hH he2.size (by omega) hst2 (fun j hj => rd_ext he (hr j hj)) (by decide) hsz).mono ?_
  rintro _ w3 ⟨hH3, hx3⟩
  have he3 : Ext w w3 := Below.trans he (hx3.mono (by omega))
  (repeat (first | (refine RW.apS ?_; conv => whnf) | (refine RW.c ?_; conv => whnf) | (refine DR.f ?_; conv => whnf) | (refine DR.o ?_; conv => whnf) | (refine KW.k ?_; conv => whnf) | refine RW.nil ?_ | refine EW.tn ?_ | refine IW.seq ?_ | refine IW.reg ?_ | refine IW.regD ?_ | refine DR.nil ?_ | (refine IW.cond ?_; conv => whnf) | refine IW.block ?_ | refine IW.skip ?_ | refine IW.exit ?_ | refine IW.ret ?_ | refine EW.tr ?_ | refine EW.tx ?_ | refine EW.bn ?_ | refine EW.br ?_ | refine EW.bx1 ?_ | refine EW.bx0 rfl ?_ | refine EW.fin ?_ | (refine RQ.n ?_; conv => whnf) | (refine RQ.r ?_; conv => whnf) | refine keepW_f ?_ | (refine DR.b ?_ ?_; conv => whnf) | exact DR.stop | refine LQ.x ?_ | refine LQ.r ?_))
  have hst3 : StartAt w3 := by obtain ⟨t, z, h⟩ := hst; exact ⟨t, z, he3.heap h⟩
  refine (sum_c w1.heap.size w1.heap.size true _ _ _ w3 hH3 (by have := he2.size; have := hx3.size; omega) (by omega) hst3 (fun j hj => rd_ext he3 (hr j hj)) (by rw [List.length_drop]; omega)).mono ?_
  rintro _ w4 ⟨rfl, he4⟩
  have h2' : w4.heap[w.heap.size]? = some (.cells (ints .u8 (List.replicate 32 0)) 23 (0, 0)) := he4.heap ((hx3.block _ (by omega)).trans h2)
  (repeat (first | (refine RW.apS ?_; conv => whnf) | (refine RW.c ?_; conv => whnf) | (refine DR.f ?_; conv => whnf) | (refine DR.o ?_; conv => whnf) | (refine KW.k ?_; conv => whnf) | refine RW.nil ?_ | refine EW.tn ?_ | refine IW.seq ?_ | refine IW.reg ?_ | refine IW.regD ?_ | refine DR.nil ?_ | (refine IW.cond ?_; conv => whnf) | refine IW.block ?_ | refine IW.skip ?_ | refine IW.exit ?_ | refine IW.ret ?_ | refine EW.tr ?_ | refine EW.tx ?_ | refine EW.bn ?_ | refine EW.br ?_ | refine EW.bx1 ?_ | refine EW.bx0 rfl ?_ | refine EW.fin ?_ | (refine RQ.n ?_; conv => whnf) | (refine RQ.r ?_; conv => whnf) | refine keepW_f ?_ | (refine DR.b ?_ ?_; conv => whnf) | exact DR.stop | refine LQ.x ?_ | refine LQ.r ?_))
  refine ⟨by rw [ints_size]; exact outR_len _ _, ints_one _ _, _, _, h2', by rw [ints_size, ints_size]; show 0 + (outR _ _).length ≤ _; rw [outR_len]; simp, ?_⟩
  rw [splice_all (by rw [ints_size, ints_size]; show (outR _ _).length = _; rw [outR_len]; simp)]
  (repeat (first | (refine RW.apS ?_; conv => whnf) | (refine RW.c ?_; conv => whnf) | (refine DR.f ?_; conv => whnf) | (refine DR.o ?_; conv => whnf) | (refine KW.k ?_; conv => whnf) | refine RW.nil ?_ | refine EW.tn ?_ | refine IW.seq ?_ | refine IW.reg ?_ | refine IW.regD ?_ | refine DR.nil ?_ | (refine IW.cond ?_; conv => whnf) | refine IW.block ?_ | refine IW.skip ?_ | refine IW.exit ?_ | refine IW.ret ?_ | refine EW.tr ?_ | refine EW.tx ?_ | refine EW.bn ?_ | refine EW.br ?_ | refine EW.bx1 ?_ | refine EW.bx0 rfl ?_ | refine EW.fin ?_ | (refine RQ.n ?_; conv => whnf) | (refine RQ.r ?_; conv => whnf) | refine keepW_f ?_ | (refine DR.b ?_ ?_; conv => whnf) | exact DR.stop | refine LQ.x ?_ | refine LQ.r ?_))
  refine ⟨_, rdN_all (heap_upB_same h2' _) (by rw [ints_size]; exact (outR_len _ _).symm), ?_⟩
  (repeat (first | (refine RW.apS ?_; conv => whnf) | (refine RW.c ?_; conv => whnf) | (refine DR.f ?_; conv => whnf) | (refine DR.o ?_; conv => whnf) | (refine KW.k ?_; conv => whnf) | refine RW.nil ?_ | refine EW.tn ?_ | refine IW.seq ?_ | refine IW.reg ?_ | refine IW.regD ?_ | refine DR.nil ?_ | (refine IW.cond ?_; conv => whnf) | refine IW.block ?_ | refine IW.skip ?_ | refine IW.exit ?_ | refine IW.ret ?_ | refine EW.tr ?_ | refine EW.tx ?_ | refine EW.bn ?_ | refine EW.br ?_ | refine EW.bx1 ?_ | refine EW.bx0 rfl ?_ | refine EW.fin ?_ | (refine RQ.n ?_; conv => whnf) | (refine RQ.r ?_; conv => whnf) | refine keepW_f ?_ | (refine DR.b ?_ ?_; conv => whnf) | exact DR.stop | refine LQ.x ?_ | refine LQ.r ?_))
  exact ⟨rfl, Ext.up (w := w) (ext_trans he3 he4) (Nat.le_refl _) _⟩
end G1
