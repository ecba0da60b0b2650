/- Own layer of the proof: G1Sum2. No conditions. -/
import Derived.Test.YtjklhofmchdaiaaDoorG1Sum
set_option maxRecDepth 100000
set_option linter.unusedVariables false
open Go Go.Sx Go.Proofs Go.RowKit
namespace G1

def padN (n : Nat) : Nat := (120 - n % 64) % 64
def sumL (rest : List Int) (k : Int) : List Int := rest ++ [128] ++ List.replicate (padN (rest.length + 1)) 0 ++ bytes8 (swapF (IntKind.u64.wrap (8 * k))) 8
def sumF (o : Bool) (st rest : List Int) (k : Int) : List Int := outR (absorb ((sumL rest k).length / 64) (if o then st else startT) (sumL rest k)) 8

def sln (e : Env) (i : Nat) : Nat := match find e i with | some (.slice _ n _) => n | _ => 0
def tlB : ICode → ICode
  | .seq _ (.seq _ (.seq _ y)) => y
  | x => x
theorem sum_tail (B b b2 b3 : Nat) (o : Bool) (st0 st rest : List Int) (k : Int) (w0 w : World) (R : Value → World → Prop) (h : HA w B b o st rest k) (hs0 : st0.length = 8) (hr : RoundsAt w)
    (hl : rest.length < 64) (h2 : w.heap[b2]? = some (.cells (ints .u8 (List.replicate 32 0)) 23 (0, 0))) (h3 : w.heap[b3]? = some (.cells (ints .u32 st0) 46 (0, 0)))
    (n23 : b2 ≠ b3) (g2 : w0.heap.size ≤ b2) (g3 : w0.heap.size ≤ b3) (gr : 2 < w0.heap.size) (hx : Ext w0 w)
    (hR : ∀ w', Ext w0 w' → R (.agg (ints .u8 (outR (absorb ((sumL rest k).length / 64) st0 (sumL rest k)) 8))) w') :
    EW PP [.t (tlB sha_Hasher_Sum.ic)] .normal [(0, .pointer (some ⟨b, 0, none⟩)), (2, .pointer (some ⟨b2, 0, none⟩)), (3, .pointer (some ⟨b3, 0, none⟩))] w (RQ PP [.ldN 32 (.tmp 2)] R) := by
  obtain ⟨hBb, hs, p, n, c, hb, ho, hne⟩ := h
  have hn := own_len ho
  (repeat (first | (refine RW.apS ?_; conv => whnf) | (refine RW.c ?_; conv => whnf) | (refine DR.f ?_; conv => whnf) | (refine DR.o ?_; conv => whnf) | (refine KW.k ?_; conv => whnf) | refine RW.nil ?_ | refine EW.tn ?_ | refine IW.seq ?_ | refine IW.reg ?_ | refine IW.regD ?_ | refine DR.nil ?_ | (refine IW.cond ?_; conv => whnf) | refine IW.block ?_ | refine IW.skip ?_ | refine IW.exit ?_ | refine IW.ret ?_ | refine EW.tr ?_ | refine EW.tx ?_ | refine EW.bn ?_ | refine EW.br ?_ | refine EW.bx1 ?_ | refine EW.bx0 rfl ?_ | refine EW.fin ?_ | (refine RQ.n ?_; conv => whnf) | (refine RQ.r ?_; conv => whnf) | refine keepW_f ?_ | (refine DR.b ?_ ?_; conv => whnf) | exact DR.stop | refine LQ.x ?_ | refine LQ.r ?_))
  generalize hw1 : w.alloc (Obj.cells (fillA #[] []) 5) = w1
  have he1 : Ext w w1 := by subst hw1; exact ext_alloc _ _
  have hs1 : w1.heap.size = w.heap.size + 1 := by subst hw1; exact size_alloc _ _
  have hn1 : w1.heap[w.heap.size]? = some (.cells #[] 5 (0, 0)) := by subst hw1; exact heap_new _ _
  have hb1 := he1.heap hb
  refine ⟨_, _, _, (rd_of hb1 _).trans (hc_9 hs), ?_⟩
  (repeat (first | (refine RW.apS ?_; conv => whnf) | (refine RW.c ?_; conv => whnf) | (refine DR.f ?_; conv => whnf) | (refine DR.o ?_; conv => whnf) | (refine KW.k ?_; conv => whnf) | refine RW.nil ?_ | refine EW.tn ?_ | refine IW.seq ?_ | refine IW.reg ?_ | refine IW.regD ?_ | refine DR.nil ?_ | (refine IW.cond ?_; conv => whnf) | refine IW.block ?_ | refine IW.skip ?_ | refine IW.exit ?_ | refine IW.ret ?_ | refine EW.tr ?_ | refine EW.tx ?_ | refine EW.bn ?_ | refine EW.br ?_ | refine EW.bx1 ?_ | refine EW.bx0 rfl ?_ | refine EW.fin ?_ | (refine RQ.n ?_; conv => whnf) | (refine RQ.r ?_; conv => whnf) | refine keepW_f ?_ | (refine DR.b ?_ ?_; conv => whnf) | exact DR.stop | refine LQ.x ?_ | refine LQ.r ?_))
  have ho1 : Own w1 w.heap.size 5 1 (some ⟨w.heap.size, 0, none⟩) 0 0 #[] := ⟨rfl, .inr ⟨_, #[], rfl, Nat.le_refl _, hn1, by simp, Nat.le_refl _, rfl⟩⟩
  refine ⟨_, (ho.ext he1).read, appW_own ho1 (m := n) (by rw [ints_size]; omega) (ints_one _ _) ⟨by omega, by omega⟩ rfl (by omega) ?_⟩
  intro p2 c2 w2 ho2 hg2 _
  have hx2 : Ext w w2 := he1.trans (grown_below hg2 (by omega) (own_blk ho1))
  (repeat (first | (refine RW.apS ?_; conv => whnf) | (refine RW.c ?_; conv => whnf) | (refine DR.f ?_; conv => whnf) | (refine DR.o ?_; conv => whnf) | (refine KW.k ?_; conv => whnf) | refine RW.nil ?_ | refine EW.tn ?_ | refine IW.seq ?_ | refine IW.reg ?_ | refine IW.regD ?_ | refine DR.nil ?_ | (refine IW.cond ?_; conv => whnf) | refine IW.block ?_ | refine IW.skip ?_ | refine IW.exit ?_ | refine IW.ret ?_ | refine EW.tr ?_ | refine EW.tx ?_ | refine EW.bn ?_ | refine EW.br ?_ | refine EW.bx1 ?_ | refine EW.bx0 rfl ?_ | refine EW.fin ?_ | (refine RQ.n ?_; conv => whnf) | (refine RQ.r ?_; conv => whnf) | refine keepW_f ?_ | (refine DR.b ?_ ?_; conv => whnf) | exact DR.stop | refine LQ.x ?_ | refine LQ.r ?_))
  rw [fill1]
  have hx2' : w.heap.size ≤ w2.heap.size := hx2.size
  refine ⟨_, own_one 128 (B := 0) (by omega), appW_own (ho2.ext (ext_alloc _ _)) (m := 1) rfl (ints_one _ _) ⟨by omega, by omega⟩ rfl (by rw [size_alloc]; omega) ?_⟩
  intro p3 c3 w3 ho3 hg3 _
  (repeat (first | (refine RW.apS ?_; conv => whnf) | (refine RW.c ?_; conv => whnf) | (refine DR.f ?_; conv => whnf) | (refine DR.o ?_; conv => whnf) | (refine KW.k ?_; conv => whnf) | refine RW.nil ?_ | refine EW.tn ?_ | refine IW.seq ?_ | refine IW.reg ?_ | refine IW.regD ?_ | refine DR.nil ?_ | (refine IW.cond ?_; conv => whnf) | refine IW.block ?_ | refine IW.skip ?_ | refine IW.exit ?_ | refine IW.ret ?_ | refine EW.tr ?_ | refine EW.tx ?_ | refine EW.bn ?_ | refine EW.br ?_ | refine EW.bx1 ?_ | refine EW.bx0 rfl ?_ | refine EW.fin ?_ | (refine RQ.n ?_; conv => whnf) | (refine RQ.r ?_; conv => whnf) | refine keepW_f ?_ | (refine DR.b ?_ ?_; conv => whnf) | exact DR.stop | refine LQ.x ?_ | refine LQ.r ?_))
  have hx3 : Ext w w3 := hx2.trans ((below_alloc hx2' _).trans (grown_below hg3 (by rw [size_alloc]; omega) (own_blk ho2)))
  rw [show (#[] ++ ints .u8 rest ++ ints .u8 [128] : Array Value) = ints .u8 (rest ++ [128]) by simp [ints]] at ho3
  refine IW.loop (fun e w' => ∃ j p n c, j ≤ padN (rest.length + 1) ∧ e = [(0, .pointer (some ⟨b, 0, none⟩)), (2, .pointer (some ⟨b2, 0, none⟩)), (3, .pointer (some ⟨b3, 0, none⟩)), (4, .slice p n c)] ∧
      Own w' w.heap.size 5 1 p n c (ints .u8 (rest ++ [128] ++ List.replicate j 0)) ∧ Ext w w')
    (fun e _ => 200 - sln e 4) ⟨0, p3, _, c3, by omega, rfl, by simpa using ho3, hx3⟩ ?_
  rintro e w' ⟨j, p4, n4, c4, hj, rfl, ho4, hx4⟩
  have hn4 := own_len ho4
  have hl4 : (rest ++ [128] ++ List.replicate j 0).length = rest.length + 1 + j := by simp; omega
  have hp : padN (rest.length + 1) = (120 - (rest.length + 1) % 64) % 64 := rfl
  by_cases hlt : j < padN (rest.length + 1)
  · refine sum_pad _ _ _ w.heap.size n4 c4 p4 _ w' _ ho4 hx4.size (by rw [hl4]; omega) (by rw [hl4]; omega) ?_
    intro p' c' w'' ho' hx'
    refine LQ.n ⟨j + 1, _, _, _, by omega, rfl, ?_, hx4.trans hx'⟩ ?_
    · rw [List.append_assoc, ← List.replicate_succ'] at ho'
      exact ho'
    · simp [sln, find]; omega
  · refine sum_padend _ _ _ w.heap.size n4 c4 p4 _ w' _ ho4 (by rw [hl4]; omega) ?_
    obtain rfl : j = padN (rest.length + 1) := by omega
    (repeat (first | (refine RW.apS ?_; conv => whnf) | (refine RW.c ?_; conv => whnf) | (refine DR.f ?_; conv => whnf) | (refine DR.o ?_; conv => whnf) | (refine KW.k ?_; conv => whnf) | refine RW.nil ?_ | refine EW.tn ?_ | refine IW.seq ?_ | refine IW.reg ?_ | refine IW.regD ?_ | refine DR.nil ?_ | (refine IW.cond ?_; conv => whnf) | refine IW.block ?_ | refine IW.skip ?_ | refine IW.exit ?_ | refine IW.ret ?_ | refine EW.tr ?_ | refine EW.tx ?_ | refine EW.bn ?_ | refine EW.br ?_ | refine EW.bx1 ?_ | refine EW.bx0 rfl ?_ | refine EW.fin ?_ | (refine RQ.n ?_; conv => whnf) | (refine RQ.r ?_; conv => whnf) | refine keepW_f ?_ | (refine DR.b ?_ ?_; conv => whnf) | exact DR.stop | refine LQ.x ?_ | refine LQ.r ?_))
    refine ⟨_, (rd_of (hx4.heap hb) _).trans (hc_10 hs), ?_⟩
    (repeat (first | (refine RW.apS ?_; conv => whnf) | (refine RW.c ?_; conv => whnf) | (refine DR.f ?_; conv => whnf) | (refine DR.o ?_; conv => whnf) | (refine KW.k ?_; conv => whnf) | refine RW.nil ?_ | refine EW.tn ?_ | refine IW.seq ?_ | refine IW.reg ?_ | refine IW.regD ?_ | refine DR.nil ?_ | (refine IW.cond ?_; conv => whnf) | refine IW.block ?_ | refine IW.skip ?_ | refine IW.exit ?_ | refine IW.ret ?_ | refine EW.tr ?_ | refine EW.tx ?_ | refine EW.bn ?_ | refine EW.br ?_ | refine EW.bx1 ?_ | refine EW.bx0 rfl ?_ | refine EW.fin ?_ | (refine RQ.n ?_; conv => whnf) | (refine RQ.r ?_; conv => whnf) | refine keepW_f ?_ | (refine DR.b ?_ ?_; conv => whnf) | exact DR.stop | refine LQ.x ?_ | refine LQ.r ?_))
    refine (swap_c _ _).mono ?_
    rintro _ _ ⟨rfl, rfl⟩
    (repeat (first | (refine RW.apS ?_; conv => whnf) | (refine RW.c ?_; conv => whnf) | (refine DR.f ?_; conv => whnf) | (refine DR.o ?_; conv => whnf) | (refine KW.k ?_; conv => whnf) | refine RW.nil ?_ | refine EW.tn ?_ | refine IW.seq ?_ | refine IW.reg ?_ | refine IW.regD ?_ | refine DR.nil ?_ | (refine IW.cond ?_; conv => whnf) | refine IW.block ?_ | refine IW.skip ?_ | refine IW.exit ?_ | refine IW.ret ?_ | refine EW.tr ?_ | refine EW.tx ?_ | refine EW.bn ?_ | refine EW.br ?_ | refine EW.bx1 ?_ | refine EW.bx0 rfl ?_ | refine EW.fin ?_ | (refine RQ.n ?_; conv => whnf) | (refine RQ.r ?_; conv => whnf) | refine keepW_f ?_ | (refine DR.b ?_ ?_; conv => whnf) | exact DR.stop | refine LQ.x ?_ | refine LQ.r ?_))
    refine (bytes8_c _ _).mono ?_
    rintro _ w5 ⟨rfl, hx5⟩
    (repeat (first | (refine RW.apS ?_; conv => whnf) | (refine RW.c ?_; conv => whnf) | (refine DR.f ?_; conv => whnf) | (refine DR.o ?_; conv => whnf) | (refine KW.k ?_; conv => whnf) | refine RW.nil ?_ | refine EW.tn ?_ | refine IW.seq ?_ | refine IW.reg ?_ | refine IW.regD ?_ | refine DR.nil ?_ | (refine IW.cond ?_; conv => whnf) | refine IW.block ?_ | refine IW.skip ?_ | refine IW.exit ?_ | refine IW.ret ?_ | refine EW.tr ?_ | refine EW.tx ?_ | refine EW.bn ?_ | refine EW.br ?_ | refine EW.bx1 ?_ | refine EW.bx0 rfl ?_ | refine EW.fin ?_ | (refine RQ.n ?_; conv => whnf) | (refine RQ.r ?_; conv => whnf) | refine keepW_f ?_ | (refine DR.b ?_ ?_; conv => whnf) | exact DR.stop | refine LQ.x ?_ | refine LQ.r ?_))
    have hB8 := strA_toBA (bytes8_bd (swapF (IntKind.u64.wrap (8 * k))) 8)
    have hS8 : (toBA (bytes8 (swapF (IntKind.u64.wrap (8 * k))) 8)).size = 8 := by
      have := congrArg Array.size hB8
      simpa [strA, ints_size, bytes8] using this
    rw [hS8, hB8]
    have hx45 := hx4.trans (hx5.be hx4.size)
    refine AppW.mk (appW_own (bytes := 1) (zero := #[.int .u8 0]) (news := ints .u8 (bytes8 (swapF (IntKind.u64.wrap (8 * k))) 8)) (ho4.ext hx5) (m := 8) (by rw [ints_size]; rfl) (ints_one _ _) ⟨by omega, by omega⟩ rfl hx45.size ?_)
    intro p6 c6 w6 ho6 hg6 _
    have hx6 : Ext w w6 := hx45.trans (grown_below hg6 hx45.size (own_blk ho4))
    rw [ints_append] at ho6
    have hL : rest ++ [128] ++ List.replicate (padN (rest.length + 1)) 0 ++ bytes8 (swapF (IntKind.u64.wrap (8 * k))) 8 = sumL rest k := rfl
    rw [hL] at ho6
    have hn6 := own_len ho6
    have hm6 : (sumL rest k).length % 64 = 0 := by
      have : (sumL rest k).length = rest.length + 1 + padN (rest.length + 1) + 8 := by simp [sumL, bytes8]; omega
      omega
    (repeat (first | (refine RW.apS ?_; conv => whnf) | (refine RW.c ?_; conv => whnf) | (refine DR.f ?_; conv => whnf) | (refine DR.o ?_; conv => whnf) | (refine KW.k ?_; conv => whnf) | refine RW.nil ?_ | refine EW.tn ?_ | refine IW.seq ?_ | refine IW.reg ?_ | refine IW.regD ?_ | refine DR.nil ?_ | (refine IW.cond ?_; conv => whnf) | refine IW.block ?_ | refine IW.skip ?_ | refine IW.exit ?_ | refine IW.ret ?_ | refine EW.tr ?_ | refine EW.tx ?_ | refine EW.bn ?_ | refine EW.br ?_ | refine EW.bx1 ?_ | refine EW.bx0 rfl ?_ | refine EW.fin ?_ | (refine RQ.n ?_; conv => whnf) | (refine RQ.r ?_; conv => whnf) | refine keepW_f ?_ | (refine DR.b ?_ ?_; conv => whnf) | exact DR.stop | refine LQ.x ?_ | refine LQ.r ?_))
    have hb2w : b2 < w.heap.size := lt_of_heap h2
    have hb3w : b3 < w.heap.size := lt_of_heap h3
    have hgr : 2 < w.heap.size := by have := hx.size; omega
    have hlenL : (sumL rest k).length = n4 + 8 := hn6.symm
    rw [← hlenL] at *
    obtain ⟨q, hq, hrow⟩ : ∃ q, w.heap.size ≤ q ∧ p6 = some ⟨q, 0, none⟩ ∧ ∀ j, j < (sumL rest k).length → rd w6 q (0 + j) = some (.int .u8 ((sumL rest k).getD j 0)) := by
      obtain ⟨q, hp, hq, _⟩ := ho6.at_ (i := 0) (ints_get_lt (by omega))
      refine ⟨q, hq, hp, fun j hj => ?_⟩
      obtain ⟨q', hp', _, hr'⟩ := ho6.at_ (i := j) (ints_get_lt hj)
      rw [hp] at hp'
      cases hp'
      rw [Nat.zero_add]; exact hr'
    obtain ⟨rfl, hrow⟩ := hrow
    have hc6 : (sumL rest k).length ≤ c6 := by
      rcases ho6.form with ⟨h, _⟩ | ⟨_, _, _, _, _, _, h, _⟩
      · cases h
      · omega
    refine IW.loop (fun e w' => ∃ st' l q off c p, e = [(2, .pointer (some ⟨b2, 0, none⟩)), (3, .pointer (some ⟨b3, 0, none⟩)), (4, .slice p l.length c)] ∧ w.heap.size ≤ q ∧ (64 ≤ l.length → p = some ⟨q, off, none⟩) ∧
        l.length ≤ c ∧ l.length % 64 = 0 ∧ (∀ j, j < l.length → rd w' q (off + j) = some (.int .u8 (l.getD j 0))) ∧ st'.length = 8 ∧ w'.heap[b3]? = some (.cells (ints .u32 st') 46 (0, 0)) ∧
        w'.heap[b2]? = some (.cells (ints .u8 (List.replicate 32 0)) 23 (0, 0)) ∧ RoundsAt w' ∧ Ext w0 w' ∧ absorb (l.length / 64) st' l = absorb ((sumL rest k).length / 64) st0 (sumL rest k))
      (fun e _ => sln e 4) ⟨st0, sumL rest k, q, 0, c6, _, rfl, hq, fun _ => rfl, hc6, hm6, hrow, hs0, hx6.heap h3, hx6.heap h2, rounds_below hx6 hgr hr, ext_trans hx hx6, rfl⟩ ?_
    rintro e w' ⟨st', l, q, off, c, p, rfl, hq, hp, hc, hm, hrow, hs', h3, h2, hr, hx, ha⟩
    by_cases h64 : 64 ≤ l.length
    · have hp := hp h64
      subst hp
      refine sum_abs _ b3 q off c st' l w' _ hs' h64 hc hr h3 hrow ?_
      intro w1 p' hx1 hp'
      have hld : (l.drop 64).length = l.length - 64 := by rw [List.length_drop]
      refine LQ.n ⟨_, l.drop 64, q, off + 64, c - 64, p', by rw [hld], hq, ?_, by omega, by omega, ?_, mixF_len hs' _, heap_upB_same (hx1.heap h3) _, ?_, ?_, Ext.up (w := w0) (hx.trans (hx1.be hx.size)) g3 _, ?_⟩ ?_
      · intro h; rcases hp' with h' | h'
        · exact h'
        · omega
      · intro j hj
        have := rd_ext hx1 (hrow (64 + j) (by omega))
        unfold rd
        rw [heap_upB_other _ (by omega)]
        unfold rd at this
        rw [show off + 64 + j = off + (64 + j) by omega, this]
        simp [List.getD_eq_getElem?_getD]
      · rw [heap_upB_other _ (Ne.symm n23)]; exact hx1.heap h2
      · refine rounds_below (B := 3) ((hx1.be (by have := lt_of_heap h3; omega)).trans (below_upB (by omega) _)) (by omega) hr
      · rw [← ha, hld, show l.length / 64 = (l.length - 64) / 64 + 1 by omega]; rfl
      · simp [sln, find]; omega
    · have h0 : l.length = 0 := by omega
      rw [h0] at ha
      simp only [h0]
      refine sum_absend _ b3 c p w' _ ?_
      (repeat (first | (refine RW.apS ?_; conv => whnf) | (refine RW.c ?_; conv => whnf) | (refine DR.f ?_; conv => whnf) | (refine DR.o ?_; conv => whnf) | (refine KW.k ?_; conv => whnf) | refine RW.nil ?_ | refine EW.tn ?_ | refine IW.seq ?_ | refine IW.reg ?_ | refine IW.regD ?_ | refine DR.nil ?_ | (refine IW.cond ?_; conv => whnf) | refine IW.block ?_ | refine IW.skip ?_ | refine IW.exit ?_ | refine IW.ret ?_ | refine EW.tr ?_ | refine EW.tx ?_ | refine EW.bn ?_ | refine EW.br ?_ | refine EW.bx1 ?_ | refine EW.bx0 rfl ?_ | refine EW.fin ?_ | (refine RQ.n ?_; conv => whnf) | (refine RQ.r ?_; conv => whnf) | refine keepW_f ?_ | (refine DR.b ?_ ?_; conv => whnf) | exact DR.stop | refine LQ.x ?_ | refine LQ.r ?_))
      have hz : (Value.agg (Array.replicate 32 (.int .u8 0))).cells = ints .u8 (List.replicate 32 0) := (ints_replicate _ _ _).symm
      rw [hz]
      refine ⟨_, rdN_all ((ext_alloc _ _).heap h3) (by rw [ints_size, hs']), ?_⟩
      (repeat (first | (refine RW.apS ?_; conv => whnf) | (refine RW.c ?_; conv => whnf) | (refine DR.f ?_; conv => whnf) | (refine DR.o ?_; conv => whnf) | (refine KW.k ?_; conv => whnf) | refine RW.nil ?_ | refine EW.tn ?_ | refine IW.seq ?_ | refine IW.reg ?_ | refine IW.regD ?_ | refine DR.nil ?_ | (refine IW.cond ?_; conv => whnf) | refine IW.block ?_ | refine IW.skip ?_ | refine IW.exit ?_ | refine IW.ret ?_ | refine EW.tr ?_ | refine EW.tx ?_ | refine EW.bn ?_ | refine EW.br ?_ | refine EW.bx1 ?_ | refine EW.bx0 rfl ?_ | refine EW.fin ?_ | (refine RQ.n ?_; conv => whnf) | (refine RQ.r ?_; conv => whnf) | refine keepW_f ?_ | (refine DR.b ?_ ?_; conv => whnf) | exact DR.stop | refine LQ.x ?_ | refine LQ.r ?_))
      refine IW.loop (fun e w'' => ∃ i : Nat, i ≤ 8 ∧ e = [(2, .pointer (some ⟨b2, 0, none⟩)), (5, .pointer (some ⟨w'.heap.size, 0, none⟩)), (50, .agg (ints .u32 st')), (51, .int .i64 (i : Int))] ∧
          w''.heap[w'.heap.size]? = some (.cells (ints .u8 (outR st' i)) 23 (0, 0)) ∧ w''.heap[b2]? = some (.cells (ints .u8 (List.replicate 32 0)) 23 (0, 0)) ∧ Ext w0 w'')
        (fun e _ => (8 - geti e 51).toNat) ⟨0, by omega, rfl, heap_new _ _, (ext_alloc _ _).heap h2, Ext.al hx _⟩ ?_
      rintro e w'' ⟨i, hi, rfl, h5, h2', hx'⟩
      have hb2' : b2 < w'.heap.size := lt_of_heap h2
      have hlen := outR_len st' i
      by_cases hlt : i < 8
      · refine sum_out _ w'.heap.size i st' w'' _ hs' hlt h5 ?_
        intro w3 h5' hB
        refine LQ.n ⟨i + 1, by omega, rfl, h5', ?_, Below.trans hx' (hB _ hx.size)⟩ ?_
        · rw [(hB (b2 + 1) (by omega)).block b2 (by omega)]; exact h2'
        · simp [geti, find]; omega
      · obtain rfl : i = 8 := by omega
        (repeat (first | (refine RW.apS ?_; conv => whnf) | (refine RW.c ?_; conv => whnf) | (refine DR.f ?_; conv => whnf) | (refine DR.o ?_; conv => whnf) | (refine KW.k ?_; conv => whnf) | refine RW.nil ?_ | refine EW.tn ?_ | refine IW.seq ?_ | refine IW.reg ?_ | refine IW.regD ?_ | refine DR.nil ?_ | (refine IW.cond ?_; conv => whnf) | refine IW.block ?_ | refine IW.skip ?_ | refine IW.exit ?_ | refine IW.ret ?_ | refine EW.tr ?_ | refine EW.tx ?_ | refine EW.bn ?_ | refine EW.br ?_ | refine EW.bx1 ?_ | refine EW.bx0 rfl ?_ | refine EW.fin ?_ | (refine RQ.n ?_; conv => whnf) | (refine RQ.r ?_; conv => whnf) | refine keepW_f ?_ | (refine DR.b ?_ ?_; conv => whnf) | exact DR.stop | refine LQ.x ?_ | refine LQ.r ?_))
        refine ⟨fun h => absurd h (by decide), fun _ => ?_⟩
        (repeat (first | (refine RW.apS ?_; conv => whnf) | (refine RW.c ?_; conv => whnf) | (refine DR.f ?_; conv => whnf) | (refine DR.o ?_; conv => whnf) | (refine KW.k ?_; conv => whnf) | refine RW.nil ?_ | refine EW.tn ?_ | refine IW.seq ?_ | refine IW.reg ?_ | refine IW.regD ?_ | refine DR.nil ?_ | (refine IW.cond ?_; conv => whnf) | refine IW.block ?_ | refine IW.skip ?_ | refine IW.exit ?_ | refine IW.ret ?_ | refine EW.tr ?_ | refine EW.tx ?_ | refine EW.bn ?_ | refine EW.br ?_ | refine EW.bx1 ?_ | refine EW.bx0 rfl ?_ | refine EW.fin ?_ | (refine RQ.n ?_; conv => whnf) | (refine RQ.r ?_; conv => whnf) | refine keepW_f ?_ | (refine DR.b ?_ ?_; conv => whnf) | exact DR.stop | refine LQ.x ?_ | refine LQ.r ?_))
        refine ⟨_, rdN_all h5 (by rw [ints_size, hlen]), ?_⟩
        (repeat (first | (refine RW.apS ?_; conv => whnf) | (refine RW.c ?_; conv => whnf) | (refine DR.f ?_; conv => whnf) | (refine DR.o ?_; conv => whnf) | (refine KW.k ?_; conv => whnf) | refine RW.nil ?_ | refine EW.tn ?_ | refine IW.seq ?_ | refine IW.reg ?_ | refine IW.regD ?_ | refine DR.nil ?_ | (refine IW.cond ?_; conv => whnf) | refine IW.block ?_ | refine IW.skip ?_ | refine IW.exit ?_ | refine IW.ret ?_ | refine EW.tr ?_ | refine EW.tx ?_ | refine EW.bn ?_ | refine EW.br ?_ | refine EW.bx1 ?_ | refine EW.bx0 rfl ?_ | refine EW.fin ?_ | (refine RQ.n ?_; conv => whnf) | (refine RQ.r ?_; conv => whnf) | refine keepW_f ?_ | (refine DR.b ?_ ?_; conv => whnf) | exact DR.stop | refine LQ.x ?_ | refine LQ.r ?_))
        refine ⟨by rw [ints_size, hlen], ints_one _ _, _, _, h2', by rw [ints_size, ints_size, hlen]; simp, ?_⟩
        rw [splice_all (by rw [ints_size, ints_size, hlen]; simp)]
        (repeat (first | (refine RW.apS ?_; conv => whnf) | (refine RW.c ?_; conv => whnf) | (refine DR.f ?_; conv => whnf) | (refine DR.o ?_; conv => whnf) | (refine KW.k ?_; conv => whnf) | refine RW.nil ?_ | refine EW.tn ?_ | refine IW.seq ?_ | refine IW.reg ?_ | refine IW.regD ?_ | refine DR.nil ?_ | (refine IW.cond ?_; conv => whnf) | refine IW.block ?_ | refine IW.skip ?_ | refine IW.exit ?_ | refine IW.ret ?_ | refine EW.tr ?_ | refine EW.tx ?_ | refine EW.bn ?_ | refine EW.br ?_ | refine EW.bx1 ?_ | refine EW.bx0 rfl ?_ | refine EW.fin ?_ | (refine RQ.n ?_; conv => whnf) | (refine RQ.r ?_; conv => whnf) | refine keepW_f ?_ | (refine DR.b ?_ ?_; conv => whnf) | exact DR.stop | refine LQ.x ?_ | refine LQ.r ?_))
        refine ⟨_, rdN_all (heap_upB_same h2' _) (by rw [ints_size, hlen]), ?_⟩
        (repeat (first | (refine RW.apS ?_; conv => whnf) | (refine RW.c ?_; conv => whnf) | (refine DR.f ?_; conv => whnf) | (refine DR.o ?_; conv => whnf) | (refine KW.k ?_; conv => whnf) | refine RW.nil ?_ | refine EW.tn ?_ | refine IW.seq ?_ | refine IW.reg ?_ | refine IW.regD ?_ | refine DR.nil ?_ | (refine IW.cond ?_; conv => whnf) | refine IW.block ?_ | refine IW.skip ?_ | refine IW.exit ?_ | refine IW.ret ?_ | refine EW.tr ?_ | refine EW.tx ?_ | refine EW.bn ?_ | refine EW.br ?_ | refine EW.bx1 ?_ | refine EW.bx0 rfl ?_ | refine EW.fin ?_ | (refine RQ.n ?_; conv => whnf) | (refine RQ.r ?_; conv => whnf) | refine keepW_f ?_ | (refine DR.b ?_ ?_; conv => whnf) | exact DR.stop | refine LQ.x ?_ | refine LQ.r ?_))
        have hst : st' = absorb ((sumL rest k).length / 64) st0 (sumL rest k) := by rw [← ha]; rfl
        subst hst
        exact hR _ (Ext.up hx' g2 _)

theorem HA.ext {w w' : World} {B b : Nat} {o : Bool} {st rest : List Int} {k : Int} (h : HA w B b o st rest k) (he : Ext w w') : HA w' B b o st rest k := by
  obtain ⟨hBb, hs, p, n, c, hb, ho, hne⟩ := h
  exact ⟨hBb, hs, p, n, c, he.heap hb, ho.ext he, hne⟩
theorem sum_c (B b : Nat) (o : Bool) (st rest : List Int) (k : Int) (w : World) (h : HA w B b o st rest k) (hB : B ≤ w.heap.size) (hg : 2 < B) (hst : StartAt w) (hr : RoundsAt w) (hl : rest.length < 64) :
    Ret PP sha_Hasher_Sum.id #[.pointer (some ⟨b, 0, none⟩)] w fun v w' => v = .agg (ints .u8 (sumF o st rest k)) ∧ Ext w w' := by
  refine sha_Hasher_Sum.start (args := [.pointer (some ⟨b, 0, none⟩)]) (by simp) ?_
  have hz : (Value.agg (Array.replicate 32 (.int .u8 0))).cells = ints .u8 (List.replicate 32 0) := (ints_replicate _ _ _).symm
  have hz8 : (Value.agg (Array.replicate 8 (.int .u32 0))).cells = ints .u32 (List.replicate 8 0) := (ints_replicate _ _ _).symm
  (repeat (first | (refine RW.apS ?_; conv => whnf) | (refine RW.c ?_; conv => whnf) | (refine DR.f ?_; conv => whnf) | (refine DR.o ?_; conv => whnf) | (refine KW.k ?_; conv => whnf) | refine RW.nil ?_ | refine EW.tn ?_ | refine IW.seq ?_ | refine IW.reg ?_ | refine IW.regD ?_ | refine DR.nil ?_ | (refine IW.cond ?_; conv => whnf) | refine IW.block ?_ | refine IW.skip ?_ | refine IW.exit ?_ | refine IW.ret ?_ | refine EW.tr ?_ | refine EW.tx ?_ | refine EW.bn ?_ | refine EW.br ?_ | refine EW.bx1 ?_ | refine EW.bx0 rfl ?_ | refine EW.fin ?_ | (refine RQ.n ?_; conv => whnf) | (refine RQ.r ?_; conv => whnf) | refine keepW_f ?_ | (refine DR.b ?_ ?_; conv => whnf) | exact DR.stop | refine LQ.x ?_ | refine LQ.r ?_))
  obtain ⟨t0, z0, hst⟩ := hst
  rw [hz]
  refine ⟨_, rdN_all ((ext_alloc _ _).heap hst) (by decide), ?_⟩
  (repeat (first | (refine RW.apS ?_; conv => whnf) | (refine RW.c ?_; conv => whnf) | (refine DR.f ?_; conv => whnf) | (refine DR.o ?_; conv => whnf) | (refine KW.k ?_; conv => whnf) | refine RW.nil ?_ | refine EW.tn ?_ | refine IW.seq ?_ | refine IW.reg ?_ | refine IW.regD ?_ | refine DR.nil ?_ | (refine IW.cond ?_; conv => whnf) | refine IW.block ?_ | refine IW.skip ?_ | refine IW.exit ?_ | refine IW.ret ?_ | refine EW.tr ?_ | refine EW.tx ?_ | refine EW.bn ?_ | refine EW.br ?_ | refine EW.bx1 ?_ | refine EW.bx0 rfl ?_ | refine EW.fin ?_ | (refine RQ.n ?_; conv => whnf) | (refine RQ.r ?_; conv => whnf) | refine keepW_f ?_ | (refine DR.b ?_ ?_; conv => whnf) | exact DR.stop | refine LQ.x ?_ | refine LQ.r ?_))
  rw [hz8]
  generalize hw1 : w.alloc (Obj.cells (ints .u8 (List.replicate 32 0)) 23) = w1
  have he1 : Ext w w1 := hw1 ▸ ext_alloc _ _
  have s1 : w1.heap.size = w.heap.size + 1 := hw1 ▸ size_alloc _ _
  have h2 : w1.heap[w.heap.size]? = some (.cells (ints .u8 (List.replicate 32 0)) 23 (0, 0)) := hw1 ▸ heap_new _ _
  refine ⟨by decide, ints_one _ _, _, _, heap_new _ _, by decide, ?_⟩
  rw [splice_all (by decide)]
  generalize hw2 : upB (w1.alloc _) w1.heap.size _ = w2
  have he2 : Ext w1 w2 := hw2 ▸ (ext_alloc _ _).up (Nat.le_refl _) _
  have h3 : w2.heap[w1.heap.size]? = some (.cells (ints .u32 startT) 46 (0, 0)) := hw2 ▸ heap_upB_same (heap_new _ _) _
  have h2 := he2.heap h2
  have he := ext_trans he1 he2
  have hh := h.ext he
  obtain ⟨hBb, hs, p, n, c, hb, ho, hne⟩ := hh
  (repeat (first | (refine RW.apS ?_; conv => whnf) | (refine RW.c ?_; conv => whnf) | (refine DR.f ?_; conv => whnf) | (refine DR.o ?_; conv => whnf) | (refine KW.k ?_; conv => whnf) | refine RW.nil ?_ | refine EW.tn ?_ | refine IW.seq ?_ | refine IW.reg ?_ | refine IW.regD ?_ | refine DR.nil ?_ | (refine IW.cond ?_; conv => whnf) | refine IW.block ?_ | refine IW.skip ?_ | refine IW.exit ?_ | refine IW.ret ?_ | refine EW.tr ?_ | refine EW.tx ?_ | refine EW.bn ?_ | refine EW.br ?_ | refine EW.bx1 ?_ | refine EW.bx0 rfl ?_ | refine EW.fin ?_ | (refine RQ.n ?_; conv => whnf) | (refine RQ.r ?_; conv => whnf) | refine keepW_f ?_ | (refine DR.b ?_ ?_; conv => whnf) | exact DR.stop | refine LQ.x ?_ | refine LQ.r ?_))
  refine ⟨_, (rd_of hb _).trans (hc_0 hs), ?_⟩
  (repeat (first | (refine RW.apS ?_; conv => whnf) | (refine RW.c ?_; conv => whnf) | (refine DR.f ?_; conv => whnf) | (refine DR.o ?_; conv => whnf) | (refine KW.k ?_; conv => whnf) | refine RW.nil ?_ | refine EW.tn ?_ | refine IW.seq ?_ | refine IW.reg ?_ | refine IW.regD ?_ | refine DR.nil ?_ | (refine IW.cond ?_; conv => whnf) | refine IW.block ?_ | refine IW.skip ?_ | refine IW.exit ?_ | refine IW.ret ?_ | refine EW.tr ?_ | refine EW.tx ?_ | refine EW.bn ?_ | refine EW.br ?_ | refine EW.bx1 ?_ | refine EW.bx0 rfl ?_ | refine EW.fin ?_ | (refine RQ.n ?_; conv => whnf) | (refine RQ.r ?_; conv => whnf) | refine keepW_f ?_ | (refine DR.b ?_ ?_; conv => whnf) | exact DR.stop | refine LQ.x ?_ | refine LQ.r ?_))
  cases o with
  | false =>
    refine ⟨fun h => absurd h (by decide), fun _ => ?_⟩
    (repeat (first | (refine RW.apS ?_; conv => whnf) | (refine RW.c ?_; conv => whnf) | (refine DR.f ?_; conv => whnf) | (refine DR.o ?_; conv => whnf) | (refine KW.k ?_; conv => whnf) | refine RW.nil ?_ | refine IW.seq ?_ | refine IW.reg ?_ | refine IW.regD ?_ | refine DR.nil ?_ | (refine IW.cond ?_; conv => whnf) | refine IW.block ?_ | refine IW.skip ?_ | refine IW.exit ?_ | refine IW.ret ?_ | refine EW.tr ?_ | refine EW.tx ?_ | refine EW.bn ?_ | refine EW.br ?_ | refine EW.bx1 ?_ | refine EW.bx0 rfl ?_ | refine EW.fin ?_ | (refine RQ.n ?_; conv => whnf) | (refine RQ.r ?_; conv => whnf) | refine keepW_f ?_ | (refine DR.b ?_ ?_; conv => whnf) | exact DR.stop | refine LQ.x ?_ | refine LQ.r ?_))
    exact sum_tail B b _ _ false startT st rest k w w2 _ (h.ext he) rfl (fun j hj => rd_ext he (hr j hj)) hl h2 h3 (by omega) (Nat.le_refl _) (by omega) (by omega) he (fun w' h => ⟨rfl, h⟩)
  | true =>
    refine ⟨fun _ => ?_, fun h => absurd h (by decide)⟩
    (repeat (first | (refine RW.apS ?_; conv => whnf) | (refine RW.c ?_; conv => whnf) | (refine DR.f ?_; conv => whnf) | (refine DR.o ?_; conv => whnf) | (refine KW.k ?_; conv => whnf) | refine RW.nil ?_ | refine IW.seq ?_ | refine IW.reg ?_ | refine IW.regD ?_ | refine DR.nil ?_ | (refine IW.cond ?_; conv => whnf) | refine IW.block ?_ | refine IW.skip ?_ | refine IW.exit ?_ | refine IW.ret ?_ | refine EW.tr ?_ | refine EW.tx ?_ | refine EW.bn ?_ | refine EW.br ?_ | refine EW.bx1 ?_ | refine EW.bx0 rfl ?_ | refine EW.fin ?_ | (refine RQ.n ?_; conv => whnf) | (refine RQ.r ?_; conv => whnf) | refine keepW_f ?_ | (refine DR.b ?_ ?_; conv => whnf) | exact DR.stop | refine LQ.x ?_ | refine LQ.r ?_))
    refine ⟨_, (rdN_of hb (by rw [hc_size hs]; omega)).trans (congrArg some (hc_st hs)), ?_⟩
    (repeat (first | (refine RW.apS ?_; conv => whnf) | (refine RW.c ?_; conv => whnf) | (refine DR.f ?_; conv => whnf) | (refine DR.o ?_; conv => whnf) | (refine KW.k ?_; conv => whnf) | refine RW.nil ?_ | refine IW.seq ?_ | refine IW.reg ?_ | refine IW.regD ?_ | refine DR.nil ?_ | (refine IW.cond ?_; conv => whnf) | refine IW.block ?_ | refine IW.skip ?_ | refine IW.exit ?_ | refine IW.ret ?_ | refine EW.tr ?_ | refine EW.tx ?_ | refine EW.bn ?_ | refine EW.br ?_ | refine EW.bx1 ?_ | refine EW.bx0 rfl ?_ | refine EW.fin ?_ | (refine RQ.n ?_; conv => whnf) | (refine RQ.r ?_; conv => whnf) | refine keepW_f ?_ | (refine DR.b ?_ ?_; conv => whnf) | exact DR.stop | refine LQ.x ?_ | refine LQ.r ?_))
    refine ⟨by rw [ints_size, hs], ints_one _ _, _, _, h3, by rw [ints_size, ints_size, hs]; decide, ?_⟩
    rw [splice_all (by rw [ints_size, ints_size, hs]; rfl)]
    (repeat (first | (refine RW.apS ?_; conv => whnf) | (refine RW.c ?_; conv => whnf) | (refine DR.f ?_; conv => whnf) | (refine DR.o ?_; conv => whnf) | (refine KW.k ?_; conv => whnf) | refine RW.nil ?_ | refine IW.seq ?_ | refine IW.reg ?_ | refine IW.regD ?_ | refine DR.nil ?_ | (refine IW.cond ?_; conv => whnf) | refine IW.block ?_ | refine IW.skip ?_ | refine IW.exit ?_ | refine IW.ret ?_ | refine EW.tr ?_ | refine EW.tx ?_ | refine EW.bn ?_ | refine EW.br ?_ | refine EW.bx1 ?_ | refine EW.bx0 rfl ?_ | refine EW.fin ?_ | (refine RQ.n ?_; conv => whnf) | (refine RQ.r ?_; conv => whnf) | refine keepW_f ?_ | (refine DR.b ?_ ?_; conv => whnf) | exact DR.stop | refine LQ.x ?_ | refine LQ.r ?_))
    have he3 : Ext w (upB w2 w1.heap.size (.cells (ints .u32 st) 46 (0, 0))) := he.up (by omega) _
    exact sum_tail B b _ _ true st st rest k w _ _ (h.ext he3) hs (fun j hj => rd_ext he3 (hr j hj)) hl (by rw [heap_upB_other _ (by omega)]; exact h2) (heap_upB_same h3 _) (by omega) (Nat.le_refl _) (by omega) (by omega) he3 (fun w' h => ⟨rfl, h⟩)
end G1
