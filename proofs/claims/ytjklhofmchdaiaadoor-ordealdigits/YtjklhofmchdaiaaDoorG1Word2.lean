/- Own layer of the proof: G1Word2. No conditions. -/
import Derived.Test.YtjklhofmchdaiaaDoorG1Word
set_option maxRecDepth 100000
set_option linter.unusedVariables false
open Go Go.Sx Go.Proofs Go.RowKit
namespace G1

theorem count7_c (w : World) : Ret PP word_Count.id #[.int .u64 7] w fun r w' => r = .int .i64 3 ∧ w' = w := by
  refine word_Count.start (args := [.int .u64 7]) (by simp) ?_
  (repeat (first | (refine RW.apS ?_; conv => whnf) | (refine RW.c ?_; conv => whnf) | (refine DR.f ?_; conv => whnf) | (refine DR.o ?_; conv => whnf) | (refine KW.k ?_; conv => whnf) | refine RW.nil ?_ | refine EW.tn ?_ | refine IW.seq ?_ | refine IW.reg ?_ | refine IW.regD ?_ | refine DR.nil ?_ | (refine IW.cond ?_; conv => whnf) | refine IW.block ?_ | refine IW.skip ?_ | refine IW.exit ?_ | refine IW.ret ?_ | refine EW.tr ?_ | refine EW.tx ?_ | refine EW.bn ?_ | refine EW.br ?_ | refine EW.bx1 ?_ | refine EW.bx0 rfl ?_ | refine EW.fin ?_ | (refine RQ.n ?_; conv => whnf) | (refine RQ.r ?_; conv => whnf) | refine keepW_f ?_ | (refine DR.b ?_ ?_; conv => whnf) | exact DR.stop | refine LQ.x ?_ | refine LQ.r ?_))
  refine IW.loop (fun e w' => ∃ v n : Int, e = [(0, .int .u64 v), (3, .int .i64 n)] ∧ w' = w ∧ ((v = 7 ∧ n = 0) ∨ (v = 6 ∧ n = 1) ∨ (v = 4 ∧ n = 2) ∨ (v = 0 ∧ n = 3))) (fun e _ => (10 - geti e 3).toNat) ⟨7, 0, rfl, rfl, .inl ⟨rfl, rfl⟩⟩ ?_
  rintro e w' ⟨v, n, rfl, rfl, h⟩
  (repeat (first | (refine RW.apS ?_; conv => whnf) | (refine RW.c ?_; conv => whnf) | (refine DR.f ?_; conv => whnf) | (refine DR.o ?_; conv => whnf) | (refine KW.k ?_; conv => whnf) | refine RW.nil ?_ | refine EW.tn ?_ | refine IW.seq ?_ | refine IW.reg ?_ | refine IW.regD ?_ | refine DR.nil ?_ | (refine IW.cond ?_; conv => whnf) | refine IW.block ?_ | refine IW.skip ?_ | refine IW.exit ?_ | refine IW.ret ?_ | refine EW.tr ?_ | refine EW.tx ?_ | refine EW.bn ?_ | refine EW.br ?_ | refine EW.bx1 ?_ | refine EW.bx0 rfl ?_ | refine EW.fin ?_ | (refine RQ.n ?_; conv => whnf) | (refine RQ.r ?_; conv => whnf) | refine keepW_f ?_ | (refine DR.b ?_ ?_; conv => whnf) | exact DR.stop | refine LQ.x ?_ | refine LQ.r ?_))
  refine ⟨fun hne => ?_, fun he => ?_⟩
  · (repeat (first | (refine RW.apS ?_; conv => whnf) | (refine RW.c ?_; conv => whnf) | (refine DR.f ?_; conv => whnf) | (refine DR.o ?_; conv => whnf) | (refine KW.k ?_; conv => whnf) | refine RW.nil ?_ | refine EW.tn ?_ | refine IW.seq ?_ | refine IW.reg ?_ | refine IW.regD ?_ | refine DR.nil ?_ | (refine IW.cond ?_; conv => whnf) | refine IW.block ?_ | refine IW.skip ?_ | refine IW.exit ?_ | refine IW.ret ?_ | refine EW.tr ?_ | refine EW.tx ?_ | refine EW.bn ?_ | refine EW.br ?_ | refine EW.bx1 ?_ | refine EW.bx0 rfl ?_ | refine EW.fin ?_ | (refine RQ.n ?_; conv => whnf) | (refine RQ.r ?_; conv => whnf) | refine keepW_f ?_ | (refine DR.b ?_ ?_; conv => whnf) | exact DR.stop | refine LQ.x ?_ | refine LQ.r ?_))
    rcases h with ⟨rfl, rfl⟩ | ⟨rfl, rfl⟩ | ⟨rfl, rfl⟩ | ⟨rfl, rfl⟩
    · exact LQ.n ⟨6, 1, rfl, rfl, by simp⟩ (by decide)
    · exact LQ.n ⟨4, 2, rfl, rfl, by simp⟩ (by decide)
    · exact LQ.n ⟨0, 3, rfl, rfl, by simp⟩ (by decide)
    · exact absurd hne (by decide)
  · (repeat (first | (refine RW.apS ?_; conv => whnf) | (refine RW.c ?_; conv => whnf) | (refine DR.f ?_; conv => whnf) | (refine DR.o ?_; conv => whnf) | (refine KW.k ?_; conv => whnf) | refine RW.nil ?_ | refine EW.tn ?_ | refine IW.seq ?_ | refine IW.reg ?_ | refine IW.regD ?_ | refine DR.nil ?_ | (refine IW.cond ?_; conv => whnf) | refine IW.block ?_ | refine IW.skip ?_ | refine IW.exit ?_ | refine IW.ret ?_ | refine EW.tr ?_ | refine EW.tx ?_ | refine EW.bn ?_ | refine EW.br ?_ | refine EW.bx1 ?_ | refine EW.bx0 rfl ?_ | refine EW.fin ?_ | (refine RQ.n ?_; conv => whnf) | (refine RQ.r ?_; conv => whnf) | refine keepW_f ?_ | (refine DR.b ?_ ?_; conv => whnf) | exact DR.stop | refine LQ.x ?_ | refine LQ.r ?_))
    rcases h with ⟨rfl, rfl⟩ | ⟨rfl, rfl⟩ | ⟨rfl, rfl⟩ | ⟨rfl, rfl⟩
    · exact absurd he (by decide)
    · exact absurd he (by decide)
    · exact absurd he (by decide)
    · exact ⟨rfl, rfl⟩
theorem first8_c (w : World) : Ret PP word_First.id #[.int .u64 8] w fun r w' => r = .int .i64 3 ∧ w' = w := by
  refine word_First.start (args := [.int .u64 8]) (by simp) ?_
  (repeat (first | (refine RW.apS ?_; conv => whnf) | (refine RW.c ?_; conv => whnf) | (refine DR.f ?_; conv => whnf) | (refine DR.o ?_; conv => whnf) | (refine KW.k ?_; conv => whnf) | refine RW.nil ?_ | refine EW.tn ?_ | refine IW.seq ?_ | refine IW.reg ?_ | refine IW.regD ?_ | refine DR.nil ?_ | (refine IW.cond ?_; conv => whnf) | refine IW.block ?_ | refine IW.skip ?_ | refine IW.exit ?_ | refine IW.ret ?_ | refine EW.tr ?_ | refine EW.tx ?_ | refine EW.bn ?_ | refine EW.br ?_ | refine EW.bx1 ?_ | refine EW.bx0 rfl ?_ | refine EW.fin ?_ | (refine RQ.n ?_; conv => whnf) | (refine RQ.r ?_; conv => whnf) | refine keepW_f ?_ | (refine DR.b ?_ ?_; conv => whnf) | exact DR.stop | refine LQ.x ?_ | refine LQ.r ?_))
  refine ⟨fun h => absurd h (by decide), fun _ => ?_⟩
  (repeat (first | (refine RW.apS ?_; conv => whnf) | (refine RW.c ?_; conv => whnf) | (refine DR.f ?_; conv => whnf) | (refine DR.o ?_; conv => whnf) | (refine KW.k ?_; conv => whnf) | refine RW.nil ?_ | refine EW.tn ?_ | refine IW.seq ?_ | refine IW.reg ?_ | refine IW.regD ?_ | refine DR.nil ?_ | (refine IW.cond ?_; conv => whnf) | refine IW.block ?_ | refine IW.skip ?_ | refine IW.exit ?_ | refine IW.ret ?_ | refine EW.tr ?_ | refine EW.tx ?_ | refine EW.bn ?_ | refine EW.br ?_ | refine EW.bx1 ?_ | refine EW.bx0 rfl ?_ | refine EW.fin ?_ | (refine RQ.n ?_; conv => whnf) | (refine RQ.r ?_; conv => whnf) | refine keepW_f ?_ | (refine DR.b ?_ ?_; conv => whnf) | exact DR.stop | refine LQ.x ?_ | refine LQ.r ?_))
  have e : IntKind.u64.wrap (bits .and .u64 8 (IntKind.u64.wrap (0 - 8)) - 1) = 7 := by decide
  rw [e]
  refine (count7_c w).mono ?_
  rintro v w' ⟨rfl, rfl⟩
  (repeat (first | (refine RW.apS ?_; conv => whnf) | (refine RW.c ?_; conv => whnf) | (refine DR.f ?_; conv => whnf) | (refine DR.o ?_; conv => whnf) | (refine KW.k ?_; conv => whnf) | refine RW.nil ?_ | refine EW.tn ?_ | refine IW.seq ?_ | refine IW.reg ?_ | refine IW.regD ?_ | refine DR.nil ?_ | (refine IW.cond ?_; conv => whnf) | refine IW.block ?_ | refine IW.skip ?_ | refine IW.exit ?_ | refine IW.ret ?_ | refine EW.tr ?_ | refine EW.tx ?_ | refine EW.bn ?_ | refine EW.br ?_ | refine EW.bx1 ?_ | refine EW.bx0 rfl ?_ | refine EW.fin ?_ | (refine RQ.n ?_; conv => whnf) | (refine RQ.r ?_; conv => whnf) | refine keepW_f ?_ | (refine DR.b ?_ ?_; conv => whnf) | exact DR.stop | refine LQ.x ?_ | refine LQ.r ?_))
  exact ⟨rfl, rfl⟩

def swapF (v : Int) : Int :=
  let v := bits .or .u64 (bits .and .u64 (v / 2 ^ 8) 71777214294589695) (IntKind.u64.wrap (bits .and .u64 v 71777214294589695 * 2 ^ 8))
  let v := bits .or .u64 (bits .and .u64 (v / 2 ^ 16) 281470681808895) (IntKind.u64.wrap (bits .and .u64 v 281470681808895 * 2 ^ 16))
  bits .or .u64 (v / 2 ^ 32) (IntKind.u64.wrap (v * 2 ^ 32))
theorem swap_c (v : Int) (w : World) : Ret PP word_Swap.id #[.int .u64 v] w fun r w' => r = .int .u64 (swapF v) ∧ w' = w := by
  refine word_Swap.start (args := [.int .u64 v]) (by simp) ?_
  (repeat (first | (refine RW.apS ?_; conv => whnf) | (refine RW.c ?_; conv => whnf) | (refine DR.f ?_; conv => whnf) | (refine DR.o ?_; conv => whnf) | (refine KW.k ?_; conv => whnf) | refine RW.nil ?_ | refine EW.tn ?_ | refine IW.seq ?_ | refine IW.reg ?_ | refine IW.regD ?_ | refine DR.nil ?_ | (refine IW.cond ?_; conv => whnf) | refine IW.block ?_ | refine IW.skip ?_ | refine IW.exit ?_ | refine IW.ret ?_ | refine EW.tr ?_ | refine EW.tx ?_ | refine EW.bn ?_ | refine EW.br ?_ | refine EW.bx1 ?_ | refine EW.bx0 rfl ?_ | refine EW.fin ?_ | (refine RQ.n ?_; conv => whnf) | (refine RQ.r ?_; conv => whnf) | refine keepW_f ?_ | (refine DR.b ?_ ?_; conv => whnf) | exact DR.stop | refine LQ.x ?_ | refine LQ.r ?_))
  exact ⟨rfl, rfl⟩

def byteN (v : Int) (i : Nat) : Int := IntKind.u8.wrap (v.fdiv (2 ^ min (8 * i) 64))
def bytes8 (v : Int) (k : Nat) : List Int := (List.range 8).map fun i => if i < k then byteN v i else 0
def toBA (l : List Int) : ByteArray := ⟨(l.map fun x => UInt8.ofNat x.toNat).toArray⟩
theorem strA_toBA {l : List Int} (h : ∀ x ∈ l, 0 ≤ x ∧ x < 256) : strA (toBA l) = ints .u8 l := by
  simp only [strA, toBA, ints, List.map_toArray, List.map_map]
  congr 1
  apply List.map_congr_left
  intro x hx
  have := h x hx
  simp only [Function.comp, UInt8.toNat_ofNat']
  congr 1
  rw [Nat.mod_eq_of_lt (by omega)]
  omega
theorem byteN_bd (v : Int) (i : Nat) : 0 ≤ byteN v i ∧ byteN v i < 256 := wrap_u8_bd _
theorem bytes8_bd (v : Int) (k : Nat) : ∀ x ∈ bytes8 v k, 0 ≤ x ∧ x < 256 := by
  intro x hx
  simp only [bytes8, List.mem_map] at hx
  obtain ⟨i, _, rfl⟩ := hx
  split
  · exact byteN_bd v i
  · omega
theorem bytes8_set (v : Int) (k : Nat) (hk : k < 8) : (bytes8 v k).set k (byteN v k) = bytes8 v (k + 1) := by
  apply List.ext_getElem
  · simp [bytes8]
  · intro i h1 h2
    simp only [bytes8, List.length_map, List.length_range] at h2
    simp only [bytes8, List.getElem_set, List.getElem_map, List.getElem_range]
    by_cases h : k = i
    · subst h; simp
    · rw [if_neg h]
      by_cases h3 : i < k
      · rw [if_pos h3, if_pos (by omega)]
      · rw [if_neg h3, if_neg (by omega)]
theorem bytes8_c (v : Int) (w : World) : Ret PP word_Bytes.id #[.int .u64 v, .int .i64 8] w fun r w' => r = .string (toBA (bytes8 v 8)) ∧ Ext w w' := by
  refine word_Bytes.start (args := [.int .u64 v, .int .i64 8]) (by simp) ?_
  (repeat (first | (refine RW.apS ?_; conv => whnf) | (refine RW.c ?_; conv => whnf) | (refine DR.f ?_; conv => whnf) | (refine DR.o ?_; conv => whnf) | (refine KW.k ?_; conv => whnf) | refine RW.nil ?_ | refine EW.tn ?_ | refine IW.seq ?_ | refine IW.reg ?_ | refine IW.regD ?_ | refine DR.nil ?_ | (refine IW.cond ?_; conv => whnf) | refine IW.block ?_ | refine IW.skip ?_ | refine IW.exit ?_ | refine IW.ret ?_ | refine EW.tr ?_ | refine EW.tx ?_ | refine EW.bn ?_ | refine EW.br ?_ | refine EW.bx1 ?_ | refine EW.bx0 rfl ?_ | refine EW.fin ?_ | (refine RQ.n ?_; conv => whnf) | (refine RQ.r ?_; conv => whnf) | refine keepW_f ?_ | (refine DR.b ?_ ?_; conv => whnf) | exact DR.stop | refine LQ.x ?_ | refine LQ.r ?_))
  refine ⟨by decide, ?_⟩
  have e8 : (if (8 : Int) < (if (0 : Int) > 8 then 0 else 8) then (8 : Int) else if (0 : Int) > 8 then 0 else 8) = 8 := by decide
  simp only [e8]
  (repeat (first | (refine RW.apS ?_; conv => whnf) | (refine RW.c ?_; conv => whnf) | (refine DR.f ?_; conv => whnf) | (refine DR.o ?_; conv => whnf) | (refine KW.k ?_; conv => whnf) | refine RW.nil ?_ | refine EW.tn ?_ | refine IW.seq ?_ | refine IW.reg ?_ | refine IW.regD ?_ | refine DR.nil ?_ | (refine IW.cond ?_; conv => whnf) | refine IW.block ?_ | refine IW.skip ?_ | refine IW.exit ?_ | refine IW.ret ?_ | refine EW.tr ?_ | refine EW.tx ?_ | refine EW.bn ?_ | refine EW.br ?_ | refine EW.bx1 ?_ | refine EW.bx0 rfl ?_ | refine EW.fin ?_ | (refine RQ.n ?_; conv => whnf) | (refine RQ.r ?_; conv => whnf) | refine keepW_f ?_ | (refine DR.b ?_ ?_; conv => whnf) | exact DR.stop | refine LQ.x ?_ | refine LQ.r ?_))
  refine IW.loop (fun e w' => ∃ i : Nat, i ≤ 8 ∧ e = [(0, .int .u64 v), (5, .slice (some ⟨w.heap.size, 0, none⟩) 8 8), (12, .int .i64 8), (13, .int .i64 i)] ∧ w'.heap[w.heap.size]? = some (.cells (ints .u8 (bytes8 v i)) 5 (0, 0)) ∧ Ext w w')
    (fun e _ => (8 - geti e 13).toNat) ⟨0, by omega, rfl, by rw [heap_new, range_one, show (Int.toNat 8 * 1) = 8 from rfl, ← ints_replicate]; rfl, ext_alloc _ _⟩ ?_
  rintro e w' ⟨i, hi, rfl, hb, hw⟩
  (repeat (first | (refine RW.apS ?_; conv => whnf) | (refine RW.c ?_; conv => whnf) | (refine DR.f ?_; conv => whnf) | (refine DR.o ?_; conv => whnf) | (refine KW.k ?_; conv => whnf) | refine RW.nil ?_ | refine EW.tn ?_ | refine IW.seq ?_ | refine IW.reg ?_ | refine IW.regD ?_ | refine DR.nil ?_ | (refine IW.cond ?_; conv => whnf) | refine IW.block ?_ | refine IW.skip ?_ | refine IW.exit ?_ | refine IW.ret ?_ | refine EW.tr ?_ | refine EW.tx ?_ | refine EW.bn ?_ | refine EW.br ?_ | refine EW.bx1 ?_ | refine EW.bx0 rfl ?_ | refine EW.fin ?_ | (refine RQ.n ?_; conv => whnf) | (refine RQ.r ?_; conv => whnf) | refine keepW_f ?_ | (refine DR.b ?_ ?_; conv => whnf) | exact DR.stop | refine LQ.x ?_ | refine LQ.r ?_))
  refine ⟨fun hlt => ?_, fun hge => ?_⟩
  · have hlt : i < 8 := by simp at hlt; omega
    have e1 : IntKind.i64.wrap (8 * (i : Int)) = ((8 * i : Nat) : Int) := by rw [wrap_i64 (by omega) (by omega)]; omega
    (repeat (first | (refine RW.apS ?_; conv => whnf) | (refine RW.c ?_; conv => whnf) | (refine DR.f ?_; conv => whnf) | (refine DR.o ?_; conv => whnf) | (refine KW.k ?_; conv => whnf) | refine RW.nil ?_ | refine EW.tn ?_ | refine IW.seq ?_ | refine IW.reg ?_ | refine IW.regD ?_ | refine DR.nil ?_ | (refine IW.cond ?_; conv => whnf) | refine IW.block ?_ | refine IW.skip ?_ | refine IW.exit ?_ | refine IW.ret ?_ | refine EW.tr ?_ | refine EW.tx ?_ | refine EW.bn ?_ | refine EW.br ?_ | refine EW.bx1 ?_ | refine EW.bx0 rfl ?_ | refine EW.fin ?_ | (refine RQ.n ?_; conv => whnf) | (refine RQ.r ?_; conv => whnf) | refine keepW_f ?_ | (refine DR.b ?_ ?_; conv => whnf) | exact DR.stop | refine LQ.x ?_ | refine LQ.r ?_))
    rw [e1]
    refine ⟨by omega, ?_⟩
    (repeat (first | (refine RW.apS ?_; conv => whnf) | (refine RW.c ?_; conv => whnf) | (refine DR.f ?_; conv => whnf) | (refine DR.o ?_; conv => whnf) | (refine KW.k ?_; conv => whnf) | refine RW.nil ?_ | refine EW.tn ?_ | refine IW.seq ?_ | refine IW.reg ?_ | refine IW.regD ?_ | refine DR.nil ?_ | (refine IW.cond ?_; conv => whnf) | refine IW.block ?_ | refine IW.skip ?_ | refine IW.exit ?_ | refine IW.ret ?_ | refine EW.tr ?_ | refine EW.tx ?_ | refine EW.bn ?_ | refine EW.br ?_ | refine EW.bx1 ?_ | refine EW.bx0 rfl ?_ | refine EW.fin ?_ | (refine RQ.n ?_; conv => whnf) | (refine RQ.r ?_; conv => whnf) | refine keepW_f ?_ | (refine DR.b ?_ ?_; conv => whnf) | exact DR.stop | refine LQ.x ?_ | refine LQ.r ?_))
    refine ⟨⟨by omega, by omega⟩, _, _, rfl, ?_⟩
    (repeat (first | (refine RW.apS ?_; conv => whnf) | (refine RW.c ?_; conv => whnf) | (refine DR.f ?_; conv => whnf) | (refine DR.o ?_; conv => whnf) | (refine KW.k ?_; conv => whnf) | refine RW.nil ?_ | refine EW.tn ?_ | refine IW.seq ?_ | refine IW.reg ?_ | refine IW.regD ?_ | refine DR.nil ?_ | (refine IW.cond ?_; conv => whnf) | refine IW.block ?_ | refine IW.skip ?_ | refine IW.exit ?_ | refine IW.ret ?_ | refine EW.tr ?_ | refine EW.tx ?_ | refine EW.bn ?_ | refine EW.br ?_ | refine EW.bx1 ?_ | refine EW.bx0 rfl ?_ | refine EW.fin ?_ | (refine RQ.n ?_; conv => whnf) | (refine RQ.r ?_; conv => whnf) | refine keepW_f ?_ | (refine DR.b ?_ ?_; conv => whnf) | exact DR.stop | refine LQ.x ?_ | refine LQ.r ?_))
    refine ⟨_, _, hb, by simp [ints, bytes8]; omega, ?_⟩
    (repeat (first | (refine RW.apS ?_; conv => whnf) | (refine RW.c ?_; conv => whnf) | (refine DR.f ?_; conv => whnf) | (refine DR.o ?_; conv => whnf) | (refine KW.k ?_; conv => whnf) | refine RW.nil ?_ | refine EW.tn ?_ | refine IW.seq ?_ | refine IW.reg ?_ | refine IW.regD ?_ | refine DR.nil ?_ | (refine IW.cond ?_; conv => whnf) | refine IW.block ?_ | refine IW.skip ?_ | refine IW.exit ?_ | refine IW.ret ?_ | refine EW.tr ?_ | refine EW.tx ?_ | refine EW.bn ?_ | refine EW.br ?_ | refine EW.bx1 ?_ | refine EW.bx0 rfl ?_ | refine EW.fin ?_ | (refine RQ.n ?_; conv => whnf) | (refine RQ.r ?_; conv => whnf) | refine keepW_f ?_ | (refine DR.b ?_ ?_; conv => whnf) | exact DR.stop | refine LQ.x ?_ | refine LQ.r ?_))
    have e2 : IntKind.i64.wrap ((i : Int) + 1) = ((i + 1 : Nat) : Int) := by rw [wrap_i64 (by omega) (by omega)]; omega
    refine LQ.n ⟨i + 1, by omega, by rw [e2], ?_, ?_⟩ ?_
    · rw [heap_upB_same hb]
      have : 0 + (i : Int).toNat * 1 = i := by omega
      rw [this, ints_set]
      have e3 : IntKind.u8.wrap (v.fdiv (2 ^ min ((8 * i : Nat) : Int).toNat IntKind.u64.bits)) = byteN v i := by
        have : ((8 * i : Nat) : Int).toNat = 8 * i := by omega
        simp only [this, byteN]; rfl
      rw [e3, bytes8_set v i hlt]
    · exact hw.trans (below_upB (Nat.le_refl _) _)
    · simp [geti, find, e2]; omega
  · have hge : i = 8 := by simp at hge; omega
    subst hge
    (repeat (first | (refine RW.apS ?_; conv => whnf) | (refine RW.c ?_; conv => whnf) | (refine DR.f ?_; conv => whnf) | (refine DR.o ?_; conv => whnf) | (refine KW.k ?_; conv => whnf) | refine RW.nil ?_ | refine EW.tn ?_ | refine IW.seq ?_ | refine IW.reg ?_ | refine IW.regD ?_ | refine DR.nil ?_ | (refine IW.cond ?_; conv => whnf) | refine IW.block ?_ | refine IW.skip ?_ | refine IW.exit ?_ | refine IW.ret ?_ | refine EW.tr ?_ | refine EW.tx ?_ | refine EW.bn ?_ | refine EW.br ?_ | refine EW.bx1 ?_ | refine EW.bx0 rfl ?_ | refine EW.fin ?_ | (refine RQ.n ?_; conv => whnf) | (refine RQ.r ?_; conv => whnf) | refine keepW_f ?_ | (refine DR.b ?_ ?_; conv => whnf) | exact DR.stop | refine LQ.x ?_ | refine LQ.r ?_))
    refine ⟨toBA (bytes8 v 8), ?_, ?_⟩
    · show rdN _ _ _ _ = _
      rw [strA_toBA (bytes8_bd v 8)]
      exact rdN_all hb (by simp [ints, bytes8])
    · (repeat (first | (refine RW.apS ?_; conv => whnf) | (refine RW.c ?_; conv => whnf) | (refine DR.f ?_; conv => whnf) | (refine DR.o ?_; conv => whnf) | (refine KW.k ?_; conv => whnf) | refine RW.nil ?_ | refine EW.tn ?_ | refine IW.seq ?_ | refine IW.reg ?_ | refine IW.regD ?_ | refine DR.nil ?_ | (refine IW.cond ?_; conv => whnf) | refine IW.block ?_ | refine IW.skip ?_ | refine IW.exit ?_ | refine IW.ret ?_ | refine EW.tr ?_ | refine EW.tx ?_ | refine EW.bn ?_ | refine EW.br ?_ | refine EW.bx1 ?_ | refine EW.bx0 rfl ?_ | refine EW.fin ?_ | (refine RQ.n ?_; conv => whnf) | (refine RQ.r ?_; conv => whnf) | refine keepW_f ?_ | (refine DR.b ?_ ?_; conv => whnf) | exact DR.stop | refine LQ.x ?_ | refine LQ.r ?_))
      exact ⟨rfl, hw⟩
end G1
