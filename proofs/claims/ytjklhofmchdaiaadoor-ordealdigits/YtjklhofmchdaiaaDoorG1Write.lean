/- Own layer of the proof: G1Write. No conditions. -/
import Derived.Test.YtjklhofmchdaiaaDoorG1Mix
set_option maxRecDepth 100000
set_option linter.unusedVariables false
open Go Go.Sx Go.Proofs Go.RowKit
namespace G1

def bytesL (s : ByteArray) : List Int := s.data.toList.map fun b => ((b.toNat : Nat) : Int)
theorem strA_ints (s : ByteArray) : strA s = ints .u8 (bytesL s) := by
  apply Array.toList_inj.1
  simp [strA, ints, bytesL]
theorem bytesL_len (s : ByteArray) : (bytesL s).length = s.size := by simp [bytesL]

def startT : List Int := [1779033703, 3144134277, 1013904242, 2773480762, 1359893119, 2600822924, 528734635, 1541459225]
def StartAt (w : World) : Prop := ∃ t z, w.heap[0]? = some (.cells (ints .u32 startT) t z)

def hcells (o : Bool) (st : List Int) (p : Option Addr) (n c : Nat) (k : Int) : Array Value := #[.bool o] ++ ints .u32 st ++ #[.slice p n c, .int .u64 k]
theorem list8 {l : List Int} (h : l.length = 8) : ∃ a0 a1 a2 a3 a4 a5 a6 a7, l = [a0, a1, a2, a3, a4, a5, a6, a7] := by
  match l, h with
  | [a0, a1, a2, a3, a4, a5, a6, a7], _ => exact ⟨_, _, _, _, _, _, _, _, rfl⟩
section
variable {o : Bool} {st : List Int} {p : Option Addr} {n c : Nat} {k : Int} (h : st.length = 8)
include h
theorem hc_size : (hcells o st p n c k).size = 11 := by simp [hcells, ints_size, h]
theorem hc_0 : (hcells o st p n c k)[0]? = some (.bool o) := by obtain ⟨_, _, _, _, _, _, _, _, rfl⟩ := list8 h; rfl
theorem hc_9 : (hcells o st p n c k)[9]? = some (.slice p n c) := by obtain ⟨_, _, _, _, _, _, _, _, rfl⟩ := list8 h; rfl
theorem hc_10 : (hcells o st p n c k)[10]? = some (.int .u64 k) := by obtain ⟨_, _, _, _, _, _, _, _, rfl⟩ := list8 h; rfl
theorem hc_st : (hcells o st p n c k).extract 1 9 = ints .u32 st := by
  obtain ⟨_, _, _, _, _, _, _, _, rfl⟩ := list8 h
  apply Array.toList_inj.1
  simp [hcells, ints]
theorem hc_set0 (o' : Bool) : (hcells o st p n c k).setIfInBounds 0 (.bool o') = hcells o' st p n c k := by
  obtain ⟨_, _, _, _, _, _, _, _, rfl⟩ := list8 h
  apply Array.toList_inj.1
  simp [hcells, ints]
theorem hc_set9 (p' : Option Addr) (n' c' : Nat) : (hcells o st p n c k).setIfInBounds 9 (.slice p' n' c') = hcells o st p' n' c' k := by
  obtain ⟨_, _, _, _, _, _, _, _, rfl⟩ := list8 h
  apply Array.toList_inj.1
  simp [hcells, ints]
theorem hc_set10 (k' : Int) : (hcells o st p n c k).setIfInBounds 10 (.int .u64 k') = hcells o st p n c k' := by
  obtain ⟨_, _, _, _, _, _, _, _, rfl⟩ := list8 h
  apply Array.toList_inj.1
  simp [hcells, ints]
theorem hc_spl {st' : List Int} (h' : st'.length = 8) : splice (hcells o st p n c k) 1 (ints .u32 st') = hcells o st' p n c k := by
  obtain ⟨_, _, _, _, _, _, _, _, rfl⟩ := list8 h
  obtain ⟨_, _, _, _, _, _, _, _, rfl⟩ := list8 h'
  apply Array.toList_inj.1
  simp [hcells, ints, splice]
end

def absorb : Nat → List Int → List Int → List Int
  | 0, st, _ => st
  | n + 1, st, l => absorb n (mixF st fun j => l.getD j 0) (l.drop 64)
theorem absorb_len : ∀ (n : Nat) (st l : List Int), st.length = 8 → (absorb n st l).length = 8
  | 0, _, _, h => h
  | n + 1, _, l, h => absorb_len n _ _ (mixF_len h _)

/-- A hasher, and its rest of its own. -/
structure HA (w : World) (B b : Nat) (o : Bool) (st rest : List Int) (k : Int) : Prop where
  hB : B ≤ b
  st8 : st.length = 8
  row : ∃ p n c, w.heap[b]? = some (.cells (hcells o st p n c k) 48 (0, 0)) ∧ Own w B 5 1 p n c (ints .u8 rest) ∧ (∀ q, p = some ⟨q, 0, none⟩ → q ≠ b)

theorem slcP_at (b o c l : Nat) (h : c ≠ l) : slcP (some ⟨b, o, none⟩) c l 1 = some ⟨b, o + l, none⟩ := by
  simp only [slcP, h, if_false, Option.map_some, Addr.add]
  split <;> simp_all
theorem slcP_end (b o c : Nat) : slcP (some ⟨b, o, none⟩) c c 1 = some ⟨b, o, none⟩ := by simp [slcP]
theorem slcP_zero (p : Option Addr) (c : Nat) : slcP p c 0 1 = p := by
  cases p with
  | none => simp [slcP]
  | some a => simp [slcP, Addr.add]

theorem write_round (B b : Nat) (st rest : List Int) (k : Int) (w : World) (Q : IExit → Env → World → Prop) (h : HA w B b true st rest k) (hB : B ≤ w.heap.size) (hr : RoundsAt w)
    (hl : 64 ≤ rest.length) (hl2 : rest.length ≤ 10000000)
    (hQ : ∀ w', HA w' B b true (mixF st fun j => rest.getD j 0) (rest.drop 64) k → Below B w w' → Q .normal [(0, .pointer (some ⟨b, 0, none⟩))] w') :
    IW PP sha_Hasher_Write.body0 [] [(0, .pointer (some ⟨b, 0, none⟩))] w Q := by
  obtain ⟨hBb, hs, p, n, c, hb, ho, hne⟩ := h
  have hn : n = rest.length := by have := ho.len; rw [ints_size] at this; omega
  rcases ho.form with ⟨rfl, h0, rfl⟩ | ⟨q, cs, rfl, hBq, hq, hc, hnc, hx⟩
  · omega
  have hqb : q ≠ b := hne q rfl
  have h9 : rd w b (0 + 9) = some (.slice (some ⟨q, 0, none⟩) n c) := by rw [rd_of hb]; exact hc_9 hs
  have h1 : rdN w b (0 + 1) 8 = some (ints .u32 st) := by rw [rdN_of hb (by rw [hc_size hs]; omega)]; exact congrArg some (hc_st hs)
  (repeat (first | (refine RW.apS ?_; conv => whnf) | (refine RW.c ?_; conv => whnf) | (refine DR.f ?_; conv => whnf) | (refine DR.o ?_; conv => whnf) | (refine KW.k ?_; conv => whnf) | refine RW.nil ?_ | refine EW.tn ?_ | refine IW.seq ?_ | refine IW.reg ?_ | refine IW.regD ?_ | refine DR.nil ?_ | (refine IW.cond ?_; conv => whnf) | refine IW.block ?_ | refine IW.skip ?_ | refine IW.exit ?_ | refine IW.ret ?_ | refine EW.tr ?_ | refine EW.tx ?_ | refine EW.bn ?_ | refine EW.br ?_ | refine EW.bx1 ?_ | refine EW.bx0 rfl ?_ | refine EW.fin ?_ | (refine RQ.n ?_; conv => whnf) | (refine RQ.r ?_; conv => whnf) | refine keepW_f ?_ | (refine DR.b ?_ ?_; conv => whnf) | exact DR.stop | refine LQ.x ?_ | refine LQ.r ?_))
  refine ⟨_, _, _, h9, ?_⟩
  (repeat (first | (refine RW.apS ?_; conv => whnf) | (refine RW.c ?_; conv => whnf) | (refine DR.f ?_; conv => whnf) | (refine DR.o ?_; conv => whnf) | (refine KW.k ?_; conv => whnf) | refine RW.nil ?_ | refine EW.tn ?_ | refine IW.seq ?_ | refine IW.reg ?_ | refine IW.regD ?_ | refine DR.nil ?_ | (refine IW.cond ?_; conv => whnf) | refine IW.block ?_ | refine IW.skip ?_ | refine IW.exit ?_ | refine IW.ret ?_ | refine EW.tr ?_ | refine EW.tx ?_ | refine EW.bn ?_ | refine EW.br ?_ | refine EW.bx1 ?_ | refine EW.bx0 rfl ?_ | refine EW.fin ?_ | (refine RQ.n ?_; conv => whnf) | (refine RQ.r ?_; conv => whnf) | refine keepW_f ?_ | (refine DR.b ?_ ?_; conv => whnf) | exact DR.stop | refine LQ.x ?_ | refine LQ.r ?_))
  refine ⟨fun _ => ?_, fun h => absurd h (by simp; omega)⟩
  (repeat (first | (refine RW.apS ?_; conv => whnf) | (refine RW.c ?_; conv => whnf) | (refine DR.f ?_; conv => whnf) | (refine DR.o ?_; conv => whnf) | (refine KW.k ?_; conv => whnf) | refine RW.nil ?_ | refine EW.tn ?_ | refine IW.seq ?_ | refine IW.reg ?_ | refine IW.regD ?_ | refine DR.nil ?_ | (refine IW.cond ?_; conv => whnf) | refine IW.block ?_ | refine IW.skip ?_ | refine IW.exit ?_ | refine IW.ret ?_ | refine EW.tr ?_ | refine EW.tx ?_ | refine EW.bn ?_ | refine EW.br ?_ | refine EW.bx1 ?_ | refine EW.bx0 rfl ?_ | refine EW.fin ?_ | (refine RQ.n ?_; conv => whnf) | (refine RQ.r ?_; conv => whnf) | refine keepW_f ?_ | (refine DR.b ?_ ?_; conv => whnf) | exact DR.stop | refine LQ.x ?_ | refine LQ.r ?_))
  refine ⟨_, h1, ?_⟩
  (repeat (first | (refine RW.apS ?_; conv => whnf) | (refine RW.c ?_; conv => whnf) | (refine DR.f ?_; conv => whnf) | (refine DR.o ?_; conv => whnf) | (refine KW.k ?_; conv => whnf) | refine RW.nil ?_ | refine EW.tn ?_ | refine IW.seq ?_ | refine IW.reg ?_ | refine IW.regD ?_ | refine DR.nil ?_ | (refine IW.cond ?_; conv => whnf) | refine IW.block ?_ | refine IW.skip ?_ | refine IW.exit ?_ | refine IW.ret ?_ | refine EW.tr ?_ | refine EW.tx ?_ | refine EW.bn ?_ | refine EW.br ?_ | refine EW.bx1 ?_ | refine EW.bx0 rfl ?_ | refine EW.fin ?_ | (refine RQ.n ?_; conv => whnf) | (refine RQ.r ?_; conv => whnf) | refine keepW_f ?_ | (refine DR.b ?_ ?_; conv => whnf) | exact DR.stop | refine LQ.x ?_ | refine LQ.r ?_))
  refine ⟨_, _, _, h9, ?_⟩
  (repeat (first | (refine RW.apS ?_; conv => whnf) | (refine RW.c ?_; conv => whnf) | (refine DR.f ?_; conv => whnf) | (refine DR.o ?_; conv => whnf) | (refine KW.k ?_; conv => whnf) | refine RW.nil ?_ | refine EW.tn ?_ | refine IW.seq ?_ | refine IW.reg ?_ | refine IW.regD ?_ | refine DR.nil ?_ | (refine IW.cond ?_; conv => whnf) | refine IW.block ?_ | refine IW.skip ?_ | refine IW.exit ?_ | refine IW.ret ?_ | refine EW.tr ?_ | refine EW.tx ?_ | refine EW.bn ?_ | refine EW.br ?_ | refine EW.bx1 ?_ | refine EW.bx0 rfl ?_ | refine EW.fin ?_ | (refine RQ.n ?_; conv => whnf) | (refine RQ.r ?_; conv => whnf) | refine keepW_f ?_ | (refine DR.b ?_ ?_; conv => whnf) | exact DR.stop | refine LQ.x ?_ | refine LQ.r ?_))
  refine ⟨⟨by omega, by omega⟩, ?_⟩
  (repeat (first | (refine RW.apS ?_; conv => whnf) | (refine RW.c ?_; conv => whnf) | (refine DR.f ?_; conv => whnf) | (refine DR.o ?_; conv => whnf) | (refine KW.k ?_; conv => whnf) | refine RW.nil ?_ | refine EW.tn ?_ | refine IW.seq ?_ | refine IW.reg ?_ | refine IW.regD ?_ | refine DR.nil ?_ | (refine IW.cond ?_; conv => whnf) | refine IW.block ?_ | refine IW.skip ?_ | refine IW.exit ?_ | refine IW.ret ?_ | refine EW.tr ?_ | refine EW.tx ?_ | refine EW.bn ?_ | refine EW.br ?_ | refine EW.bx1 ?_ | refine EW.bx0 rfl ?_ | refine EW.fin ?_ | (refine RQ.n ?_; conv => whnf) | (refine RQ.r ?_; conv => whnf) | refine keepW_f ?_ | (refine DR.b ?_ ?_; conv => whnf) | exact DR.stop | refine LQ.x ?_ | refine LQ.r ?_))
  rw [slcP_zero]
  have hblk : Blk64 w.drew q 0 (fun j => rest.getD j 0) := by
    intro j hj
    show rd w q (0 + j) = _
    rw [Nat.zero_add]
    obtain ⟨b', hp', _, hr'⟩ := ho.at_ (i := j) (ints_get_lt (by omega))
    cases hp'
    exact hr'
  refine (mix_c st q 0 _ (fun j => rest.getD j 0) w.drew hs hblk hr).mono ?_
  rintro _ w1 ⟨rfl, he⟩
  have he : Ext w w1 := ext_trans (ext_drew _) he
  (repeat (first | (refine RW.apS ?_; conv => whnf) | (refine RW.c ?_; conv => whnf) | (refine DR.f ?_; conv => whnf) | (refine DR.o ?_; conv => whnf) | (refine KW.k ?_; conv => whnf) | refine RW.nil ?_ | refine EW.tn ?_ | refine IW.seq ?_ | refine IW.reg ?_ | refine IW.regD ?_ | refine DR.nil ?_ | (refine IW.cond ?_; conv => whnf) | refine IW.block ?_ | refine IW.skip ?_ | refine IW.exit ?_ | refine IW.ret ?_ | refine EW.tr ?_ | refine EW.tx ?_ | refine EW.bn ?_ | refine EW.br ?_ | refine EW.bx1 ?_ | refine EW.bx0 rfl ?_ | refine EW.fin ?_ | (refine RQ.n ?_; conv => whnf) | (refine RQ.r ?_; conv => whnf) | refine keepW_f ?_ | (refine DR.b ?_ ?_; conv => whnf) | exact DR.stop | refine LQ.x ?_ | refine LQ.r ?_))
  refine ⟨by rw [ints_size, mixF_len hs], ints_one _ _, _, _, he.heap hb, by rw [ints_size, mixF_len hs, hc_size hs]; omega, ?_⟩
  rw [show (0 : Nat) + 1 = 1 from rfl, hc_spl hs (mixF_len hs _)]
  generalize hw2 : upB w1 b _ = w2
  have hb2 : w2.heap[b]? = some (.cells (hcells true (mixF st fun j => rest.getD j 0) (some ⟨q, 0, none⟩) n c k) 48 (0, 0)) := by
    subst hw2; exact heap_upB_same (he.heap hb) _
  have hx2 : Below B w w2 := by
    subst hw2; exact (Below.mono he hB).trans (below_upB hBb _)
  have hs2 : w1.heap.size = w2.heap.size := by subst hw2; simp [upB]
  have hq2 : w2.heap[q]? = some (.cells cs 5 (0, 0)) := by
    subst hw2; rw [heap_upB_other _ (Ne.symm hqb)]; exact he.heap hq
  (repeat (first | (refine RW.apS ?_; conv => whnf) | (refine RW.c ?_; conv => whnf) | (refine DR.f ?_; conv => whnf) | (refine DR.o ?_; conv => whnf) | (refine KW.k ?_; conv => whnf) | refine RW.nil ?_ | refine EW.tn ?_ | refine IW.seq ?_ | refine IW.reg ?_ | refine IW.regD ?_ | refine DR.nil ?_ | (refine IW.cond ?_; conv => whnf) | refine IW.block ?_ | refine IW.skip ?_ | refine IW.exit ?_ | refine IW.ret ?_ | refine EW.tr ?_ | refine EW.tx ?_ | refine EW.bn ?_ | refine EW.br ?_ | refine EW.bx1 ?_ | refine EW.bx0 rfl ?_ | refine EW.fin ?_ | (refine RQ.n ?_; conv => whnf) | (refine RQ.r ?_; conv => whnf) | refine keepW_f ?_ | (refine DR.b ?_ ?_; conv => whnf) | exact DR.stop | refine LQ.x ?_ | refine LQ.r ?_))
  have hbw : b < w2.heap.size := lt_of_heap hb2
  have hqw : q < w2.heap.size := lt_of_heap hq2
  generalize hw3 : w2.alloc (Obj.cells (fillA #[] []) 5) = w3
  have hs3 : w3.heap.size = w2.heap.size + 1 := by subst hw3; exact size_alloc _ _
  have he3 : Ext w2 w3 := by subst hw3; exact ext_alloc _ _
  have hn3 : w3.heap[w2.heap.size]? = some (.cells #[] 5 (0, 0)) := by subst hw3; exact heap_new _ _
  have hx3 : Below B w w3 := hx2.trans (he3.be (by have := hx2.size; omega))
  have hb3 := he3.heap hb2
  have hq3 := he3.heap hq2
  refine ⟨_, _, _, (rd_of hb3 _).trans (hc_9 (mixF_len hs _)), ?_⟩
  (repeat (first | (refine RW.apS ?_; conv => whnf) | (refine RW.c ?_; conv => whnf) | (refine DR.f ?_; conv => whnf) | (refine DR.o ?_; conv => whnf) | (refine KW.k ?_; conv => whnf) | refine RW.nil ?_ | refine EW.tn ?_ | refine IW.seq ?_ | refine IW.reg ?_ | refine IW.regD ?_ | refine DR.nil ?_ | (refine IW.cond ?_; conv => whnf) | refine IW.block ?_ | refine IW.skip ?_ | refine IW.exit ?_ | refine IW.ret ?_ | refine EW.tr ?_ | refine EW.tx ?_ | refine EW.bn ?_ | refine EW.br ?_ | refine EW.bx1 ?_ | refine EW.bx0 rfl ?_ | refine EW.fin ?_ | (refine RQ.n ?_; conv => whnf) | (refine RQ.r ?_; conv => whnf) | refine keepW_f ?_ | (refine DR.b ?_ ?_; conv => whnf) | exact DR.stop | refine LQ.x ?_ | refine LQ.r ?_))
  refine ⟨⟨by omega, by omega⟩, ?_⟩
  (repeat (first | (refine RW.apS ?_; conv => whnf) | (refine RW.c ?_; conv => whnf) | (refine DR.f ?_; conv => whnf) | (refine DR.o ?_; conv => whnf) | (refine KW.k ?_; conv => whnf) | refine RW.nil ?_ | refine EW.tn ?_ | refine IW.seq ?_ | refine IW.reg ?_ | refine IW.regD ?_ | refine DR.nil ?_ | (refine IW.cond ?_; conv => whnf) | refine IW.block ?_ | refine IW.skip ?_ | refine IW.exit ?_ | refine IW.ret ?_ | refine EW.tr ?_ | refine EW.tx ?_ | refine EW.bn ?_ | refine EW.br ?_ | refine EW.bx1 ?_ | refine EW.bx0 rfl ?_ | refine EW.fin ?_ | (refine RQ.n ?_; conv => whnf) | (refine RQ.r ?_; conv => whnf) | refine keepW_f ?_ | (refine DR.b ?_ ?_; conv => whnf) | exact DR.stop | refine LQ.x ?_ | refine LQ.r ?_))
  have hsl : rdS w3 (slcP (some ⟨q, 0, none⟩) c 64 1) ((n - 64) * 1) = some (ints .u8 (rest.drop 64)) := by
    by_cases hc64 : c = 64
    · subst hc64
      rw [slcP_end]
      have hd : rest.drop 64 = [] := by apply List.drop_eq_nil_of_le; omega
      rw [hd, show (n - 64) * 1 = 0 by omega]
      show rdN w3 q 0 0 = _
      rw [rdN_of hq3 (by omega)]
      simp [ints]
    · rw [slcP_at _ _ _ _ hc64]
      show rdN w3 q (0 + 64) _ = _
      rw [rdN_of hq3 (by omega)]
      have e1 : cs.extract (0 + 64) (0 + 64 + (n - 64) * 1) = (cs.extract 0 (n * 1)).extract 64 n := by
        rw [Array.extract_extract]; congr 1 <;> omega
      rw [e1, hx, ints_extract]
      have : (rest.drop 64).take (n - 64) = rest.drop 64 := by apply List.take_of_length_le; simp; omega
      rw [this]
  have ho3 : Own w3 B 5 1 (some ⟨w2.heap.size, 0, none⟩) 0 0 #[] := ⟨rfl, .inr ⟨_, #[], rfl, by have := hx2.size; omega, hn3, by simp, Nat.le_refl _, rfl⟩⟩
  refine ⟨_, hsl, appW_own ho3 (m := n - 64) (by rw [ints_size]; simp; omega) (ints_one _ _) ⟨by omega, by omega⟩ rfl (by have := hx3.size; omega) ?_⟩
  intro p' c' w4 ho4 hg hp'
  (repeat (first | (refine RW.apS ?_; conv => whnf) | (refine RW.c ?_; conv => whnf) | (refine DR.f ?_; conv => whnf) | (refine DR.o ?_; conv => whnf) | (refine KW.k ?_; conv => whnf) | refine RW.nil ?_ | refine EW.tn ?_ | refine IW.seq ?_ | refine IW.reg ?_ | refine IW.regD ?_ | refine DR.nil ?_ | (refine IW.cond ?_; conv => whnf) | refine IW.block ?_ | refine IW.skip ?_ | refine IW.exit ?_ | refine IW.ret ?_ | refine EW.tr ?_ | refine EW.tx ?_ | refine EW.bn ?_ | refine EW.br ?_ | refine EW.bx1 ?_ | refine EW.bx0 rfl ?_ | refine EW.fin ?_ | (refine RQ.n ?_; conv => whnf) | (refine RQ.r ?_; conv => whnf) | refine keepW_f ?_ | (refine DR.b ?_ ?_; conv => whnf) | exact DR.stop | refine LQ.x ?_ | refine LQ.r ?_))
  have hb4 : w4.heap[b]? = _ := (hg.block b (by omega) (by simp [blkOf]; omega)).trans hb3
  refine ⟨_, _, hb4, by rw [hc_size (mixF_len hs _)]; omega, ?_⟩
  rw [show (0 : Nat) + 9 = 9 from rfl, hc_set9 (mixF_len hs _)]
  have hpb : ∀ q, p' = some ⟨q, 0, none⟩ → q ≠ b := by
    rintro q rfl
    simp [blkOf] at hp'
    omega
  (repeat (first | (refine RW.apS ?_; conv => whnf) | (refine RW.c ?_; conv => whnf) | (refine DR.f ?_; conv => whnf) | (refine DR.o ?_; conv => whnf) | (refine KW.k ?_; conv => whnf) | refine RW.nil ?_ | refine EW.tn ?_ | refine IW.seq ?_ | refine IW.reg ?_ | refine IW.regD ?_ | refine DR.nil ?_ | (refine IW.cond ?_; conv => whnf) | refine IW.block ?_ | refine IW.skip ?_ | refine IW.exit ?_ | refine IW.ret ?_ | refine EW.tr ?_ | refine EW.tx ?_ | refine EW.bn ?_ | refine EW.br ?_ | refine EW.bx1 ?_ | refine EW.bx0 rfl ?_ | refine EW.fin ?_ | (refine RQ.n ?_; conv => whnf) | (refine RQ.r ?_; conv => whnf) | refine keepW_f ?_ | (refine DR.b ?_ ?_; conv => whnf) | exact DR.stop | refine LQ.x ?_ | refine LQ.r ?_))
  refine hQ _ ⟨hBb, mixF_len hs _, p', _, c', heap_upB_same hb4 _, ?_, hpb⟩ ?_
  · refine Own.keep (w := w4) ?_ (fun q' h => heap_upB_other _ (Ne.symm (hpb q' h)))
    simpa using ho4
  · exact (hx3.trans (grown_below hg (by have := hx3.size; omega) (fun k hk => by simp [blkOf] at hk; have := hx2.size; omega))).trans (below_upB hBb _)

theorem write_end (B b : Nat) (st rest : List Int) (k : Int) (w : World) (Q : IExit → Env → World → Prop) (h : HA w B b true st rest k) (hl : rest.length < 64) (hQ : Q (.exit 0) [] w) :
    IW PP sha_Hasher_Write.body0 [] [(0, .pointer (some ⟨b, 0, none⟩))] w Q := by
  obtain ⟨hBb, hs, p, n, c, hb, ho, hne⟩ := h
  have hn : n = rest.length := by have := ho.len; rw [ints_size] at this; omega
  (repeat (first | (refine RW.apS ?_; conv => whnf) | (refine RW.c ?_; conv => whnf) | (refine DR.f ?_; conv => whnf) | (refine DR.o ?_; conv => whnf) | (refine KW.k ?_; conv => whnf) | refine RW.nil ?_ | refine EW.tn ?_ | refine IW.seq ?_ | refine IW.reg ?_ | refine IW.regD ?_ | refine DR.nil ?_ | (refine IW.cond ?_; conv => whnf) | refine IW.block ?_ | refine IW.skip ?_ | refine IW.exit ?_ | refine IW.ret ?_ | refine EW.tr ?_ | refine EW.tx ?_ | refine EW.bn ?_ | refine EW.br ?_ | refine EW.bx1 ?_ | refine EW.bx0 rfl ?_ | refine EW.fin ?_ | (refine RQ.n ?_; conv => whnf) | (refine RQ.r ?_; conv => whnf) | refine keepW_f ?_ | (refine DR.b ?_ ?_; conv => whnf) | exact DR.stop | refine LQ.x ?_ | refine LQ.r ?_))
  refine ⟨_, _, _, (rd_of hb _).trans (hc_9 hs), ?_⟩
  (repeat (first | (refine RW.apS ?_; conv => whnf) | (refine RW.c ?_; conv => whnf) | (refine DR.f ?_; conv => whnf) | (refine DR.o ?_; conv => whnf) | (refine KW.k ?_; conv => whnf) | refine RW.nil ?_ | refine EW.tn ?_ | refine IW.seq ?_ | refine IW.reg ?_ | refine IW.regD ?_ | refine DR.nil ?_ | (refine IW.cond ?_; conv => whnf) | refine IW.block ?_ | refine IW.skip ?_ | refine IW.exit ?_ | refine IW.ret ?_ | refine EW.tr ?_ | refine EW.tx ?_ | refine EW.bn ?_ | refine EW.br ?_ | refine EW.bx1 ?_ | refine EW.bx0 rfl ?_ | refine EW.fin ?_ | (refine RQ.n ?_; conv => whnf) | (refine RQ.r ?_; conv => whnf) | refine keepW_f ?_ | (refine DR.b ?_ ?_; conv => whnf) | exact DR.stop | refine LQ.x ?_ | refine LQ.r ?_))
  refine ⟨fun h => absurd h (by simp; omega), fun _ => ?_⟩
  (repeat (first | (refine RW.apS ?_; conv => whnf) | (refine RW.c ?_; conv => whnf) | (refine DR.f ?_; conv => whnf) | (refine DR.o ?_; conv => whnf) | (refine KW.k ?_; conv => whnf) | refine RW.nil ?_ | refine EW.tn ?_ | refine IW.seq ?_ | refine IW.reg ?_ | refine IW.regD ?_ | refine DR.nil ?_ | (refine IW.cond ?_; conv => whnf) | refine IW.block ?_ | refine IW.skip ?_ | refine IW.exit ?_ | refine IW.ret ?_ | refine EW.tr ?_ | refine EW.tx ?_ | refine EW.bn ?_ | refine EW.br ?_ | refine EW.bx1 ?_ | refine EW.bx0 rfl ?_ | refine EW.fin ?_ | (refine RQ.n ?_; conv => whnf) | (refine RQ.r ?_; conv => whnf) | refine keepW_f ?_ | (refine DR.b ?_ ?_; conv => whnf) | exact DR.stop | refine LQ.x ?_ | refine LQ.r ?_))
  exact hQ
def restLen (w : World) (b : Nat) : Nat := match rd w b 9 with | some (.slice _ n _) => n | _ => 0
theorem HA.restLen {w : World} {B b : Nat} {o : Bool} {st rest : List Int} {k : Int} (h : HA w B b o st rest k) : restLen w b = rest.length := by
  obtain ⟨hBb, hs, p, n, c, hb, ho, hne⟩ := h
  have hn : n = rest.length := by have := ho.len; rw [ints_size] at this; omega
  have : rd w b 9 = some (.slice p n c) := (rd_of hb _).trans (hc_9 hs)
  simp only [G1.restLen, this, hn]
def tlA : ICode → ICode
  | .seq _ y => y
  | x => x
theorem rounds_below {w w' : World} {B : Nat} (h : Below B w w') (hB : 2 < B) (hr : RoundsAt w) : RoundsAt w' := by
  intro j hj
  have := hr j hj
  unfold rd at this ⊢
  rw [h.block 2 hB]
  exact this
theorem write_loop (B b : Nat) (st rest : List Int) (k : Int) (w : World) (s : List Fr) (Q : QT) (h : HA w B b true st rest k) (hB : B ≤ w.heap.size) (hg : 2 < B) (hr : RoundsAt w) (hl : rest.length ≤ 10000000)
    (hQ : ∀ w', HA w' B b true (absorb (rest.length / 64) st rest) (rest.drop (64 * (rest.length / 64))) k → Below B w w' → EW PP s (.exit 0) [] w' Q) :
    IW PP (.loop sha_Hasher_Write.body0) s [(0, .pointer (some ⟨b, 0, none⟩))] w Q := by
  refine IW.loop (fun e w' => ∃ st' l, e = [(0, .pointer (some ⟨b, 0, none⟩))] ∧ HA w' B b true st' l k ∧ Below B w w' ∧ l.length ≤ 10000000 ∧
      absorb (l.length / 64) st' l = absorb (rest.length / 64) st rest ∧ l.drop (64 * (l.length / 64)) = rest.drop (64 * (rest.length / 64)))
    (fun _ w' => restLen w' b) ⟨st, rest, rfl, h, Below.refl _ _, hl, rfl, rfl⟩ ?_
  rintro e w' ⟨st', l, rfl, h, hx, hl, h1, h2⟩
  by_cases h64 : 64 ≤ l.length
  · refine write_round B b st' l k w' _ h (by have := hx.size; omega) (rounds_below hx hg hr) h64 hl ?_
    intro w2 hw2 hx2
    have e1 : l.length / 64 = (l.drop 64).length / 64 + 1 := by rw [List.length_drop]; omega
    refine LQ.n ⟨_, _, rfl, hw2, hx.trans hx2, by rw [List.length_drop]; omega, ?_, ?_⟩ ?_
    · rw [← h1, e1]; rfl
    · rw [← h2, e1, List.drop_drop]; congr 1; omega
    · rw [hw2.restLen, h.restLen, List.length_drop]; omega
  · refine write_end B b st' l k w' _ h (by omega) ?_
    refine LQ.x ?_
    have e0 : l.length / 64 = 0 := by omega
    rw [e0] at h1 h2
    simp only [absorb, Nat.mul_zero, List.drop_zero] at h1 h2
    subst h1 h2
    exact hQ _ h hx
theorem write_tail (B b : Nat) (st rest : List Int) (k : Int) (s : ByteArray) (w : World) (R : Value → World → Prop) (h : HA w B b true st rest k) (hB : B ≤ w.heap.size) (hg : 2 < B) (hr : RoundsAt w)
    (hl : rest.length < 64) (hsz : s.size ≤ 1000000)
    (hR : ∀ w', HA w' B b true (absorb ((rest ++ bytesL s).length / 64) st (rest ++ bytesL s)) ((rest ++ bytesL s).drop (64 * ((rest ++ bytesL s).length / 64))) (IntKind.u64.wrap (k + IntKind.u64.wrap s.size)) → Below B w w' →
      R (.tuple #[]) w') :
    EW PP [.t (tlA sha_Hasher_Write.ic)] .normal [(0, .pointer (some ⟨b, 0, none⟩)), (1, .string s)] w (RQ PP [] R) := by
  obtain ⟨hBb, hs, p, n, c, hb, ho, hne⟩ := h
  have hn : n = rest.length := by have := ho.len; rw [ints_size] at this; omega
  (repeat (first | (refine RW.apS ?_; conv => whnf) | (refine RW.c ?_; conv => whnf) | (refine DR.f ?_; conv => whnf) | (refine DR.o ?_; conv => whnf) | (refine KW.k ?_; conv => whnf) | refine RW.nil ?_ | refine EW.tn ?_ | refine IW.seq ?_ | refine IW.reg ?_ | refine IW.regD ?_ | refine DR.nil ?_ | (refine IW.cond ?_; conv => whnf) | refine IW.block ?_ | refine IW.skip ?_ | refine IW.exit ?_ | refine IW.ret ?_ | refine EW.tr ?_ | refine EW.tx ?_ | refine EW.bn ?_ | refine EW.br ?_ | refine EW.bx1 ?_ | refine EW.bx0 rfl ?_ | refine EW.fin ?_ | (refine RQ.n ?_; conv => whnf) | (refine RQ.r ?_; conv => whnf) | refine keepW_f ?_ | (refine DR.b ?_ ?_; conv => whnf) | exact DR.stop | refine LQ.x ?_ | refine LQ.r ?_))
  refine ⟨_, (rd_of hb _).trans (hc_10 hs), ?_⟩
  (repeat (first | (refine RW.apS ?_; conv => whnf) | (refine RW.c ?_; conv => whnf) | (refine DR.f ?_; conv => whnf) | (refine DR.o ?_; conv => whnf) | (refine KW.k ?_; conv => whnf) | refine RW.nil ?_ | refine EW.tn ?_ | refine IW.seq ?_ | refine IW.reg ?_ | refine IW.regD ?_ | refine DR.nil ?_ | (refine IW.cond ?_; conv => whnf) | refine IW.block ?_ | refine IW.skip ?_ | refine IW.exit ?_ | refine IW.ret ?_ | refine EW.tr ?_ | refine EW.tx ?_ | refine EW.bn ?_ | refine EW.br ?_ | refine EW.bx1 ?_ | refine EW.bx0 rfl ?_ | refine EW.fin ?_ | (refine RQ.n ?_; conv => whnf) | (refine RQ.r ?_; conv => whnf) | refine keepW_f ?_ | (refine DR.b ?_ ?_; conv => whnf) | exact DR.stop | refine LQ.x ?_ | refine LQ.r ?_))
  refine ⟨_, _, hb, by rw [hc_size hs]; omega, ?_⟩
  rw [show (0 : Nat) + 10 = 10 from rfl, hc_set10 hs]
  generalize hw2 : upB w b _ = w2
  have hb2 : w2.heap[b]? = some (.cells (hcells true st p n c (IntKind.u64.wrap (k + IntKind.u64.wrap s.size))) 48 (0, 0)) := by
    subst hw2; exact heap_upB_same hb _
  have hx2 : Below B w w2 := by subst hw2; exact below_upB hBb _
  have ho2 : Own w2 B 5 1 p n c (ints .u8 rest) := by subst hw2; exact ho.keep fun q h => heap_upB_other _ (Ne.symm (hne q h))
  (repeat (first | (refine RW.apS ?_; conv => whnf) | (refine RW.c ?_; conv => whnf) | (refine DR.f ?_; conv => whnf) | (refine DR.o ?_; conv => whnf) | (refine KW.k ?_; conv => whnf) | refine RW.nil ?_ | refine EW.tn ?_ | refine IW.seq ?_ | refine IW.reg ?_ | refine IW.regD ?_ | refine DR.nil ?_ | (refine IW.cond ?_; conv => whnf) | refine IW.block ?_ | refine IW.skip ?_ | refine IW.exit ?_ | refine IW.ret ?_ | refine EW.tr ?_ | refine EW.tx ?_ | refine EW.bn ?_ | refine EW.br ?_ | refine EW.bx1 ?_ | refine EW.bx0 rfl ?_ | refine EW.fin ?_ | (refine RQ.n ?_; conv => whnf) | (refine RQ.r ?_; conv => whnf) | refine keepW_f ?_ | (refine DR.b ?_ ?_; conv => whnf) | exact DR.stop | refine LQ.x ?_ | refine LQ.r ?_))
  refine ⟨_, _, _, (rd_of hb2 _).trans (hc_9 hs), ?_⟩
  (repeat (first | (refine RW.apS ?_; conv => whnf) | (refine RW.c ?_; conv => whnf) | (refine DR.f ?_; conv => whnf) | (refine DR.o ?_; conv => whnf) | (refine KW.k ?_; conv => whnf) | refine RW.nil ?_ | refine EW.tn ?_ | refine IW.seq ?_ | refine IW.reg ?_ | refine IW.regD ?_ | refine DR.nil ?_ | (refine IW.cond ?_; conv => whnf) | refine IW.block ?_ | refine IW.skip ?_ | refine IW.exit ?_ | refine IW.ret ?_ | refine EW.tr ?_ | refine EW.tx ?_ | refine EW.bn ?_ | refine EW.br ?_ | refine EW.bx1 ?_ | refine EW.bx0 rfl ?_ | refine EW.fin ?_ | (refine RQ.n ?_; conv => whnf) | (refine RQ.r ?_; conv => whnf) | refine keepW_f ?_ | (refine DR.b ?_ ?_; conv => whnf) | exact DR.stop | refine LQ.x ?_ | refine LQ.r ?_))
  refine AppW.mk (appW_own (bytes := 1) (zero := #[.int .u8 0]) (news := strA s) ho2 (m := s.size) (by rw [strA_ints, ints_size, bytesL_len]; omega) (by rw [strA_ints]; exact ints_one _ _) ⟨by omega, by omega⟩ rfl (by have := hx2.size; omega) ?_)
  intro p' c' w3 ho3 hg3 hp'
  have hbw : b < w2.heap.size := lt_of_heap hb2
  (repeat (first | (refine RW.apS ?_; conv => whnf) | (refine RW.c ?_; conv => whnf) | (refine DR.f ?_; conv => whnf) | (refine DR.o ?_; conv => whnf) | (refine KW.k ?_; conv => whnf) | refine RW.nil ?_ | refine EW.tn ?_ | refine IW.seq ?_ | refine IW.reg ?_ | refine IW.regD ?_ | refine DR.nil ?_ | (refine IW.cond ?_; conv => whnf) | refine IW.block ?_ | refine IW.skip ?_ | refine IW.exit ?_ | refine IW.ret ?_ | refine EW.tr ?_ | refine EW.tx ?_ | refine EW.bn ?_ | refine EW.br ?_ | refine EW.bx1 ?_ | refine EW.bx0 rfl ?_ | refine EW.fin ?_ | (refine RQ.n ?_; conv => whnf) | (refine RQ.r ?_; conv => whnf) | refine keepW_f ?_ | (refine DR.b ?_ ?_; conv => whnf) | exact DR.stop | refine LQ.x ?_ | refine LQ.r ?_))
  have hb3 : w3.heap[b]? = _ := (hg3.block b hbw (by
    cases p with
    | none => simp [blkOf]
    | some a =>
      rcases ho2.form with ⟨h, _⟩ | ⟨q, cs, h, _⟩
      · cases h
      · have := hne q h
        rw [h]; simp [blkOf]; omega)).trans hb2
  refine ⟨_, _, hb3, by rw [hc_size hs]; omega, ?_⟩
  rw [show (0 : Nat) + 9 = 9 from rfl, hc_set9 hs]
  have hpb : ∀ q, p' = some ⟨q, 0, none⟩ → q ≠ b := by
    rintro q rfl
    rcases hp' with hp' | hp'
    · rcases ho2.form with ⟨h, _⟩ | ⟨q', cs, h, _⟩
      · rw [h] at hp'; simp [blkOf] at hp'
      · have := hne q' h
        rw [h] at hp'; simp [blkOf] at hp'; omega
    · simp [blkOf] at hp'; omega
  have hbk : ∀ k, blkOf p = some k → B ≤ k := by
    intro k hk
    rcases ho2.form with ⟨h, _⟩ | ⟨q', cs, h, hBq, _⟩
    · rw [h] at hk; simp [blkOf] at hk
    · rw [h] at hk; simp [blkOf] at hk; omega
  have hx3 : Below B w w3 := hx2.trans (grown_below hg3 (by have := hx2.size; omega) hbk)
  (repeat (first | (refine RW.apS ?_; conv => whnf) | (refine RW.c ?_; conv => whnf) | (refine DR.f ?_; conv => whnf) | (refine DR.o ?_; conv => whnf) | (refine KW.k ?_; conv => whnf) | refine RW.nil ?_ | refine EW.tn ?_ | refine IW.seq ?_ | refine IW.reg ?_ | refine IW.regD ?_ | refine DR.nil ?_ | (refine IW.cond ?_; conv => whnf) | refine IW.block ?_ | refine IW.skip ?_ | refine IW.exit ?_ | refine IW.ret ?_ | refine EW.tr ?_ | refine EW.tx ?_ | refine EW.bn ?_ | refine EW.br ?_ | refine EW.bx1 ?_ | refine EW.bx0 rfl ?_ | refine EW.fin ?_ | (refine RQ.n ?_; conv => whnf) | (refine RQ.r ?_; conv => whnf) | refine keepW_f ?_ | (refine DR.b ?_ ?_; conv => whnf) | exact DR.stop | refine LQ.x ?_ | refine LQ.r ?_))
  have hl0 : (rest ++ bytesL s).length ≤ 10000000 := by rw [List.length_append, bytesL_len]; omega
  refine write_loop B b st (rest ++ bytesL s) (IntKind.u64.wrap (k + IntKind.u64.wrap s.size)) _ _ _ ⟨hBb, hs, p', n + s.size, c', heap_upB_same hb3 _, ?_, hpb⟩ (by have := hx3.size; simp [upB]; omega) hg (rounds_below (hx3.trans (below_upB hBb _)) hg hr) hl0 ?_
  · refine Own.keep (w := w3) ?_ (fun q' h => heap_upB_other _ (Ne.symm (hpb q' h)))
    rw [strA_ints, ints_append] at ho3
    exact ho3
  · intro w5 hw5 hx5
    (repeat (first | (refine RW.apS ?_; conv => whnf) | (refine RW.c ?_; conv => whnf) | (refine DR.f ?_; conv => whnf) | (refine DR.o ?_; conv => whnf) | (refine KW.k ?_; conv => whnf) | refine RW.nil ?_ | refine EW.tn ?_ | refine IW.seq ?_ | refine IW.reg ?_ | refine IW.regD ?_ | refine DR.nil ?_ | (refine IW.cond ?_; conv => whnf) | refine IW.block ?_ | refine IW.skip ?_ | refine IW.exit ?_ | refine IW.ret ?_ | refine EW.tr ?_ | refine EW.tx ?_ | refine EW.bn ?_ | refine EW.br ?_ | refine EW.bx1 ?_ | refine EW.bx0 rfl ?_ | refine EW.fin ?_ | (refine RQ.n ?_; conv => whnf) | (refine RQ.r ?_; conv => whnf) | refine keepW_f ?_ | (refine DR.b ?_ ?_; conv => whnf) | exact DR.stop | refine LQ.x ?_ | refine LQ.r ?_))
    exact hR _ hw5 ((hx3.trans (below_upB hBb _)).trans hx5)

theorem write_c (B b : Nat) (o : Bool) (st rest : List Int) (k : Int) (s : ByteArray) (w : World) (h : HA w B b o st rest k) (hB : B ≤ w.heap.size) (hg : 2 < B) (hst : StartAt w) (hr : RoundsAt w)
    (hl : rest.length < 64) (hsz : s.size ≤ 1000000) :
    Ret PP sha_Hasher_Write.id #[.pointer (some ⟨b, 0, none⟩), .string s] w fun v w' =>
      HA w' B b true (absorb ((rest ++ bytesL s).length / 64) (if o then st else startT) (rest ++ bytesL s)) ((rest ++ bytesL s).drop (64 * ((rest ++ bytesL s).length / 64))) (IntKind.u64.wrap (k + IntKind.u64.wrap s.size)) ∧
      Below B w w' := by
  refine sha_Hasher_Write.start (args := [.pointer (some ⟨b, 0, none⟩), .string s]) (by simp) ?_
  have h0 := h
  obtain ⟨hBb, hs, p, n, c, hb, ho, hne⟩ := h
  (repeat (first | (refine RW.apS ?_; conv => whnf) | (refine RW.c ?_; conv => whnf) | (refine DR.f ?_; conv => whnf) | (refine DR.o ?_; conv => whnf) | (refine KW.k ?_; conv => whnf) | refine RW.nil ?_ | refine EW.tn ?_ | refine IW.seq ?_ | refine IW.reg ?_ | refine IW.regD ?_ | refine DR.nil ?_ | (refine IW.cond ?_; conv => whnf) | refine IW.block ?_ | refine IW.skip ?_ | refine IW.exit ?_ | refine IW.ret ?_ | refine EW.tr ?_ | refine EW.tx ?_ | refine EW.bn ?_ | refine EW.br ?_ | refine EW.bx1 ?_ | refine EW.bx0 rfl ?_ | refine EW.fin ?_ | (refine RQ.n ?_; conv => whnf) | (refine RQ.r ?_; conv => whnf) | refine keepW_f ?_ | (refine DR.b ?_ ?_; conv => whnf) | exact DR.stop | refine LQ.x ?_ | refine LQ.r ?_))
  refine ⟨_, (rd_of hb _).trans (hc_0 hs), ?_⟩
  (repeat (first | (refine RW.apS ?_; conv => whnf) | (refine RW.c ?_; conv => whnf) | (refine DR.f ?_; conv => whnf) | (refine DR.o ?_; conv => whnf) | (refine KW.k ?_; conv => whnf) | refine RW.nil ?_ | refine EW.tn ?_ | refine IW.seq ?_ | refine IW.reg ?_ | refine IW.regD ?_ | refine DR.nil ?_ | (refine IW.cond ?_; conv => whnf) | refine IW.block ?_ | refine IW.skip ?_ | refine IW.exit ?_ | refine IW.ret ?_ | refine EW.tr ?_ | refine EW.tx ?_ | refine EW.bn ?_ | refine EW.br ?_ | refine EW.bx1 ?_ | refine EW.bx0 rfl ?_ | refine EW.fin ?_ | (refine RQ.n ?_; conv => whnf) | (refine RQ.r ?_; conv => whnf) | refine keepW_f ?_ | (refine DR.b ?_ ?_; conv => whnf) | exact DR.stop | refine LQ.x ?_ | refine LQ.r ?_))
  cases o with
  | true =>
    refine ⟨fun h => absurd h (by decide), fun _ => ?_⟩
    (repeat (first | (refine RW.apS ?_; conv => whnf) | (refine RW.c ?_; conv => whnf) | (refine DR.f ?_; conv => whnf) | (refine DR.o ?_; conv => whnf) | (refine KW.k ?_; conv => whnf) | refine RW.nil ?_ | refine IW.seq ?_ | refine IW.reg ?_ | refine IW.regD ?_ | refine DR.nil ?_ | (refine IW.cond ?_; conv => whnf) | refine IW.block ?_ | refine IW.skip ?_ | refine IW.exit ?_ | refine IW.ret ?_ | refine EW.tr ?_ | refine EW.tx ?_ | refine EW.bn ?_ | refine EW.br ?_ | refine EW.bx1 ?_ | refine EW.bx0 rfl ?_ | refine EW.fin ?_ | (refine RQ.n ?_; conv => whnf) | (refine RQ.r ?_; conv => whnf) | refine keepW_f ?_ | (refine DR.b ?_ ?_; conv => whnf) | exact DR.stop | refine LQ.x ?_ | refine LQ.r ?_))
    exact write_tail B b st rest k s w _ h0 hB hg hr hl hsz fun w' h1 h2 => ⟨h1, h2⟩
  | false =>
    refine ⟨fun _ => ?_, fun h => absurd h (by decide)⟩
    (repeat (first | (refine RW.apS ?_; conv => whnf) | (refine RW.c ?_; conv => whnf) | (refine DR.f ?_; conv => whnf) | (refine DR.o ?_; conv => whnf) | (refine KW.k ?_; conv => whnf) | refine RW.nil ?_ | refine IW.seq ?_ | refine IW.reg ?_ | refine IW.regD ?_ | refine DR.nil ?_ | (refine IW.cond ?_; conv => whnf) | refine IW.block ?_ | refine IW.skip ?_ | refine IW.exit ?_ | refine IW.ret ?_ | refine EW.tr ?_ | refine EW.tx ?_ | refine EW.bn ?_ | refine EW.br ?_ | refine EW.bx1 ?_ | refine EW.bx0 rfl ?_ | refine EW.fin ?_ | (refine RQ.n ?_; conv => whnf) | (refine RQ.r ?_; conv => whnf) | refine keepW_f ?_ | (refine DR.b ?_ ?_; conv => whnf) | exact DR.stop | refine LQ.x ?_ | refine LQ.r ?_))
    obtain ⟨t0, z0, hst⟩ := hst
    refine ⟨_, rdN_all hst (by decide), ?_⟩
    (repeat (first | (refine RW.apS ?_; conv => whnf) | (refine RW.c ?_; conv => whnf) | (refine DR.f ?_; conv => whnf) | (refine DR.o ?_; conv => whnf) | (refine KW.k ?_; conv => whnf) | refine RW.nil ?_ | refine IW.seq ?_ | refine IW.reg ?_ | refine IW.regD ?_ | refine DR.nil ?_ | (refine IW.cond ?_; conv => whnf) | refine IW.block ?_ | refine IW.skip ?_ | refine IW.exit ?_ | refine IW.ret ?_ | refine EW.tr ?_ | refine EW.tx ?_ | refine EW.bn ?_ | refine EW.br ?_ | refine EW.bx1 ?_ | refine EW.bx0 rfl ?_ | refine EW.fin ?_ | (refine RQ.n ?_; conv => whnf) | (refine RQ.r ?_; conv => whnf) | refine keepW_f ?_ | (refine DR.b ?_ ?_; conv => whnf) | exact DR.stop | refine LQ.x ?_ | refine LQ.r ?_))
    refine ⟨_, _, hb, by rw [hc_size hs]; omega, ?_⟩
    rw [hc_set0 hs]
    (repeat (first | (refine RW.apS ?_; conv => whnf) | (refine RW.c ?_; conv => whnf) | (refine DR.f ?_; conv => whnf) | (refine DR.o ?_; conv => whnf) | (refine KW.k ?_; conv => whnf) | refine RW.nil ?_ | refine IW.seq ?_ | refine IW.reg ?_ | refine IW.regD ?_ | refine DR.nil ?_ | (refine IW.cond ?_; conv => whnf) | refine IW.block ?_ | refine IW.skip ?_ | refine IW.exit ?_ | refine IW.ret ?_ | refine EW.tr ?_ | refine EW.tx ?_ | refine EW.bn ?_ | refine EW.br ?_ | refine EW.bx1 ?_ | refine EW.bx0 rfl ?_ | refine EW.fin ?_ | (refine RQ.n ?_; conv => whnf) | (refine RQ.r ?_; conv => whnf) | refine keepW_f ?_ | (refine DR.b ?_ ?_; conv => whnf) | exact DR.stop | refine LQ.x ?_ | refine LQ.r ?_))
    refine ⟨by decide, ints_one _ _, _, _, heap_upB_same hb _, by rw [hc_size hs]; decide, ?_⟩
    rw [show (0 : Nat) + 1 = 1 from rfl, hc_spl hs (show startT.length = 8 from rfl)]
    (repeat (first | (refine RW.apS ?_; conv => whnf) | (refine RW.c ?_; conv => whnf) | (refine DR.f ?_; conv => whnf) | (refine DR.o ?_; conv => whnf) | (refine KW.k ?_; conv => whnf) | refine RW.nil ?_ | refine IW.seq ?_ | refine IW.reg ?_ | refine IW.regD ?_ | refine DR.nil ?_ | (refine IW.cond ?_; conv => whnf) | refine IW.block ?_ | refine IW.skip ?_ | refine IW.exit ?_ | refine IW.ret ?_ | refine EW.tr ?_ | refine EW.tx ?_ | refine EW.bn ?_ | refine EW.br ?_ | refine EW.bx1 ?_ | refine EW.bx0 rfl ?_ | refine EW.fin ?_ | (refine RQ.n ?_; conv => whnf) | (refine RQ.r ?_; conv => whnf) | refine keepW_f ?_ | (refine DR.b ?_ ?_; conv => whnf) | exact DR.stop | refine LQ.x ?_ | refine LQ.r ?_))
    have hx : Below B w (upB (upB w b (.cells (hcells true st p n c k) 48 (0, 0))) b (.cells (hcells true startT p n c k) 48 (0, 0))) := (below_upB hBb _).trans (below_upB hBb _)
    refine write_tail B b startT rest k s _ _ ⟨hBb, rfl, p, n, c, heap_upB_same (heap_upB_same hb _) _, ?_, hne⟩ (by have := hx.size; omega) hg (rounds_below hx hg hr) hl hsz fun w' h1 h2 => ⟨h1, hx.trans h2⟩
    exact (ho.keep fun q h => heap_upB_other _ (Ne.symm (hne q h))).keep fun q h => heap_upB_other _ (Ne.symm (hne q h))
end G1
