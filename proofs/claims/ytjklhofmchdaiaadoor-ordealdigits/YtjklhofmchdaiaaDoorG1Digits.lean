/- Own layer of the proof: G1Digits. No conditions. -/
import Derived.Test.YtjklhofmchdaiaaDoorG1Live
import Derived.Test.YtjklhofmchdaiaaDoorG1Word
import Derived.Test.YtjklhofmchdaiaaDoorSxG
set_option maxRecDepth 100000
set_option linter.unusedVariables false
open Go Go.Sx Go.Proofs Go.RowKit
namespace G1
theorem bAt_toBA {l : List Int} (h : ∀ x ∈ l, 0 ≤ x ∧ x < 256) {i : Nat} (hi : i < l.length) : bAt (toBA l) i = l.getD i 0 := by
  have hm := h l[i] (List.getElem_mem _)
  unfold bAt toBA
  rw [Array.getD_eq_getD_getElem?, List.getD_eq_getElem?_getD]
  simp [hi]
  omega
theorem textL_get (h : List Int) : ∀ (n i : Nat), i < 2 * n → (textL h n).getD i 0 = if i % 2 = 0 then bAt digS (h.getD (i / 2) 0 / 2 ^ 4).toNat else bAt digS (bits .and .u8 (h.getD (i / 2) 0) 15).toNat
  | 0, i, hi => by omega
  | n + 1, i, hi => by
    simp only [textL]
    by_cases hlt : i < 2 * n
    · rw [List.getD_eq_getElem?_getD, List.getElem?_append_left (by rw [textL_len]; exact hlt), ← List.getD_eq_getElem?_getD]
      exact textL_get h n i hlt
    · rw [List.getD_eq_getElem?_getD, List.getElem?_append_right (by rw [textL_len]; omega), ← List.getD_eq_getElem?_getD, textL_len]
      have : i = 2 * n ∨ i = 2 * n + 1 := by omega
      rcases this with rfl | rfl
      · simp
      · have e1 : (2 * n + 1) % 2 = 1 := by omega
        have e2 : (2 * n + 1) / 2 = n := by omega
        have e3 : 2 * n + 1 - 2 * n = 1 := by omega
        rw [e1, e2, e3]
        rfl
theorem nib_eq (x : Int) (hx : 0 ≤ x ∧ x < 256) : (x / 2 ^ 4).toNat = x.toNat / 2 ^ 4 % 2 ^ 4 ∧ (bits .and .u8 x 15).toNat = x.toNat / 2 ^ 0 % 2 ^ 4 := by
  obtain ⟨n, rfl⟩ := Int.eq_ofNat_of_zero_le hx.1
  have h := u8_and n 15 (by omega) (by decide)
  have e : bits .and .u8 (n : Int) 15 = ((n &&& 15 : Nat) : Int) := h
  have e' : n &&& 15 = n % 16 := Nat.and_two_pow_sub_one_eq_mod n 4
  rw [e, e']
  refine ⟨?_, ?_⟩
  · have : ((n : Int) / 2 ^ 4) = ((n / 16 : Nat) : Int) := by simp
    rw [this, Int.toNat_natCast, Int.toNat_natCast]; omega
  · rw [Int.toNat_natCast, Int.toNat_natCast]; omega
theorem digit_eq (t : ByteArray) (i : Nat) (hlt : i < 64) : bAt (toBA (textL (shaF t) 32)) (i : Int).toNat = bAt digS (((shaF t).getD (i / 2) 0).toNat / 2 ^ (4 - 4 * (i % 2)) % 2 ^ 4) := by
  have hx := shaF_bd t ((shaF t).getD (i / 2) 0) (by rw [List.getD_eq_getElem?_getD, List.getElem?_eq_getElem (by rw [shaF_len]; omega)]; exact List.getElem_mem _)
  rw [Int.toNat_natCast, bAt_toBA (textL_bd _ _) (by rw [textL_len]; omega), textL_get _ _ _ (by omega)]
  generalize (shaF t).getD (i / 2) 0 = x at hx
  by_cases h0 : i % 2 = 0
  · rw [if_pos h0, h0, (nib_eq x hx).1]
  · have h1 : i % 2 = 1 := by omega
    rw [if_neg h0, h1, (nib_eq x hx).2]
set_option maxHeartbeats 1000000
theorem digits_c (s : ByteArray) (w : World) (h : Gl w) : Ret PP ordealtop_OrdealDigits.id #[.string s] w fun v w' => v = .bool true ∧ Ext w w' := by
  refine ordealtop_OrdealDigits.start (args := [.string s]) (by simp) ?_
  (repeat (first | (refine RW.apS ?_; conv => whnf) | (refine RW.st ?_; conv => whnf) | (refine RW.stN ?_; conv => whnf) | (refine RW.app ?_; conv => whnf) | (refine RW.c ?_; conv => whnf) | (refine DR.f ?_; conv => whnf) | (refine DR.st ?_; conv => whnf) | (refine DR.stN ?_; conv => whnf) | (refine DR.app ?_; conv => whnf) | (refine DR.appS ?_; conv => whnf) | (refine DR.o ?_; conv => whnf) | (refine KW.k ?_; conv => whnf) | refine RW.nil ?_ | refine EW.tn ?_ | refine IW.seq ?_ | refine IW.reg ?_ | refine IW.regD ?_ | refine DR.nil ?_ | (refine IW.cond ?_; conv => whnf) | refine IW.block ?_ | refine IW.skip ?_ | refine IW.exit ?_ | refine IW.ret ?_ | refine EW.tr ?_ | refine EW.tx ?_ | refine EW.bn ?_ | refine EW.br ?_ | refine EW.bx1 ?_ | refine EW.bx0 rfl ?_ | refine EW.fin ?_ | (refine RQ.n ?_; conv => whnf) | (refine RQ.r ?_; conv => whnf) | refine keepW_f ?_ | (refine DR.b ?_ ?_; conv => whnf) | exact DR.stop | refine LQ.x ?_ | refine LQ.r ?_))
  refine (cut_c s 200 w).mono ?_
  rintro _ w' ⟨rfl, rfl⟩
  (repeat (first | (refine RW.apS ?_; conv => whnf) | (refine RW.st ?_; conv => whnf) | (refine RW.stN ?_; conv => whnf) | (refine RW.app ?_; conv => whnf) | (refine RW.c ?_; conv => whnf) | (refine DR.f ?_; conv => whnf) | (refine DR.st ?_; conv => whnf) | (refine DR.stN ?_; conv => whnf) | (refine DR.app ?_; conv => whnf) | (refine DR.appS ?_; conv => whnf) | (refine DR.o ?_; conv => whnf) | (refine KW.k ?_; conv => whnf) | refine RW.nil ?_ | refine EW.tn ?_ | refine IW.seq ?_ | refine IW.reg ?_ | refine IW.regD ?_ | refine DR.nil ?_ | (refine IW.cond ?_; conv => whnf) | refine IW.block ?_ | refine IW.skip ?_ | refine IW.exit ?_ | refine IW.ret ?_ | refine EW.tr ?_ | refine EW.tx ?_ | refine EW.bn ?_ | refine EW.br ?_ | refine EW.bx1 ?_ | refine EW.bx0 rfl ?_ | refine EW.fin ?_ | (refine RQ.n ?_; conv => whnf) | (refine RQ.r ?_; conv => whnf) | refine keepW_f ?_ | (refine DR.b ?_ ?_; conv => whnf) | exact DR.stop | refine LQ.x ?_ | refine LQ.r ?_))
  generalize hs : (if s.size > 200 then s.extract 0 200 else s) = t
  have ht : t.size ≤ 1000000 := by
    rw [← hs]; split
    · simp; omega
    · omega
  refine (of_c t w' h.g h.start h.rounds ht).mono ?_
  rintro _ w1 ⟨rfl, he1⟩
  (repeat (first | (refine RW.apS ?_; conv => whnf) | (refine RW.st ?_; conv => whnf) | (refine RW.stN ?_; conv => whnf) | (refine RW.app ?_; conv => whnf) | (refine RW.c ?_; conv => whnf) | (refine DR.f ?_; conv => whnf) | (refine DR.st ?_; conv => whnf) | (refine DR.stN ?_; conv => whnf) | (refine DR.app ?_; conv => whnf) | (refine DR.appS ?_; conv => whnf) | (refine DR.o ?_; conv => whnf) | (refine KW.k ?_; conv => whnf) | refine RW.nil ?_ | refine EW.tn ?_ | refine IW.seq ?_ | refine IW.reg ?_ | refine IW.regD ?_ | refine DR.nil ?_ | (refine IW.cond ?_; conv => whnf) | refine IW.block ?_ | refine IW.skip ?_ | refine IW.exit ?_ | refine IW.ret ?_ | refine EW.tr ?_ | refine EW.tx ?_ | refine EW.bn ?_ | refine EW.br ?_ | refine EW.bx1 ?_ | refine EW.bx0 rfl ?_ | refine EW.fin ?_ | (refine RQ.n ?_; conv => whnf) | (refine RQ.r ?_; conv => whnf) | refine keepW_f ?_ | (refine DR.b ?_ ?_; conv => whnf) | exact DR.stop | refine LQ.x ?_ | refine LQ.r ?_))
  refine StNW.new (by rw [ints_size]; exact shaF_len _) (ints_one _ _) (by rw [ints_size, shaF_len]; simp [Value.cells]) ?_
  generalize hw2 : w1.alloc _ = w2
  have h2 : w2.heap[w1.heap.size]? = some (.cells (ints .u8 (shaF t)) 23 (0, 0)) := hw2 ▸ heap_new _ _
  have he2 : Ext w1 w2 := hw2 ▸ ext_alloc _ _
  (repeat (first | (refine RW.apS ?_; conv => whnf) | (refine RW.st ?_; conv => whnf) | (refine RW.stN ?_; conv => whnf) | (refine RW.app ?_; conv => whnf) | (refine RW.c ?_; conv => whnf) | (refine DR.f ?_; conv => whnf) | (refine DR.st ?_; conv => whnf) | (refine DR.stN ?_; conv => whnf) | (refine DR.app ?_; conv => whnf) | (refine DR.appS ?_; conv => whnf) | (refine DR.o ?_; conv => whnf) | (refine KW.k ?_; conv => whnf) | refine RW.nil ?_ | refine EW.tn ?_ | refine IW.seq ?_ | refine IW.reg ?_ | refine IW.regD ?_ | refine DR.nil ?_ | (refine IW.cond ?_; conv => whnf) | refine IW.block ?_ | refine IW.skip ?_ | refine IW.exit ?_ | refine IW.ret ?_ | refine EW.tr ?_ | refine EW.tx ?_ | refine EW.bn ?_ | refine EW.br ?_ | refine EW.bx1 ?_ | refine EW.bx0 rfl ?_ | refine EW.fin ?_ | (refine RQ.n ?_; conv => whnf) | (refine RQ.r ?_; conv => whnf) | refine keepW_f ?_ | (refine DR.b ?_ ?_; conv => whnf) | exact DR.stop | refine LQ.x ?_ | refine LQ.r ?_))
  refine ⟨_, rdN_all h2 (by rw [ints_size, shaF_len]), ?_⟩
  (repeat (first | (refine RW.apS ?_; conv => whnf) | (refine RW.st ?_; conv => whnf) | (refine RW.stN ?_; conv => whnf) | (refine RW.app ?_; conv => whnf) | (refine RW.c ?_; conv => whnf) | (refine DR.f ?_; conv => whnf) | (refine DR.st ?_; conv => whnf) | (refine DR.stN ?_; conv => whnf) | (refine DR.app ?_; conv => whnf) | (refine DR.appS ?_; conv => whnf) | (refine DR.o ?_; conv => whnf) | (refine KW.k ?_; conv => whnf) | refine RW.nil ?_ | refine EW.tn ?_ | refine IW.seq ?_ | refine IW.reg ?_ | refine IW.regD ?_ | refine DR.nil ?_ | (refine IW.cond ?_; conv => whnf) | refine IW.block ?_ | refine IW.skip ?_ | refine IW.exit ?_ | refine IW.ret ?_ | refine EW.tr ?_ | refine EW.tx ?_ | refine EW.bn ?_ | refine EW.br ?_ | refine EW.bx1 ?_ | refine EW.bx0 rfl ?_ | refine EW.fin ?_ | (refine RQ.n ?_; conv => whnf) | (refine RQ.r ?_; conv => whnf) | refine keepW_f ?_ | (refine DR.b ?_ ?_; conv => whnf) | exact DR.stop | refine LQ.x ?_ | refine LQ.r ?_))
  refine (text_c (shaF t) w2 (shaF_len _) (shaF_bd _)).mono ?_
  rintro _ w3 ⟨rfl, he3⟩
  have hl : (toBA (textL (shaF t) 32)).size = 64 := by rw [toBA_size, textL_len]
  have h3 := he3.heap h2
  have he : Ext w' w3 := ext_trans he1 (ext_trans he2 he3)
  (repeat (first | (refine RW.apS ?_; conv => whnf) | (refine RW.st ?_; conv => whnf) | (refine RW.stN ?_; conv => whnf) | (refine RW.app ?_; conv => whnf) | (refine RW.c ?_; conv => whnf) | (refine DR.f ?_; conv => whnf) | (refine DR.st ?_; conv => whnf) | (refine DR.stN ?_; conv => whnf) | (refine DR.app ?_; conv => whnf) | (refine DR.appS ?_; conv => whnf) | (refine DR.o ?_; conv => whnf) | (refine KW.k ?_; conv => whnf) | refine RW.nil ?_ | refine EW.tn ?_ | refine IW.seq ?_ | refine IW.reg ?_ | refine IW.regD ?_ | refine DR.nil ?_ | (refine IW.cond ?_; conv => whnf) | refine IW.block ?_ | refine IW.skip ?_ | refine IW.exit ?_ | refine IW.ret ?_ | refine EW.tr ?_ | refine EW.tx ?_ | refine EW.bn ?_ | refine EW.br ?_ | refine EW.bx1 ?_ | refine EW.bx0 rfl ?_ | refine EW.fin ?_ | (refine RQ.n ?_; conv => whnf) | (refine RQ.r ?_; conv => whnf) | refine keepW_f ?_ | (refine DR.b ?_ ?_; conv => whnf) | exact DR.stop | refine LQ.x ?_ | refine LQ.r ?_))
  rw [hl]
  refine ⟨fun h => absurd h (by decide), fun _ => ?_⟩
  (repeat (first | (refine RW.apS ?_; conv => whnf) | (refine RW.st ?_; conv => whnf) | (refine RW.stN ?_; conv => whnf) | (refine RW.app ?_; conv => whnf) | (refine RW.c ?_; conv => whnf) | (refine DR.f ?_; conv => whnf) | (refine DR.st ?_; conv => whnf) | (refine DR.stN ?_; conv => whnf) | (refine DR.app ?_; conv => whnf) | (refine DR.appS ?_; conv => whnf) | (refine DR.o ?_; conv => whnf) | (refine KW.k ?_; conv => whnf) | refine RW.nil ?_ | refine EW.tn ?_ | refine IW.seq ?_ | refine IW.reg ?_ | refine IW.regD ?_ | refine DR.nil ?_ | (refine IW.cond ?_; conv => whnf) | refine IW.block ?_ | refine IW.skip ?_ | refine IW.exit ?_ | refine IW.ret ?_ | refine EW.tr ?_ | refine EW.tx ?_ | refine EW.bn ?_ | refine EW.br ?_ | refine EW.bx1 ?_ | refine EW.bx0 rfl ?_ | refine EW.fin ?_ | (refine RQ.n ?_; conv => whnf) | (refine RQ.r ?_; conv => whnf) | refine keepW_f ?_ | (refine DR.b ?_ ?_; conv => whnf) | exact DR.stop | refine LQ.x ?_ | refine LQ.r ?_))
  refine IW.loop (fun e w' => ∃ i : Nat, i ≤ 64 ∧ e = [(3, .pointer (some ⟨w1.heap.size, 0, none⟩)), (4, .string (toBA (textL (shaF t) 32))), (5, .int .i64 (i : Int))] ∧ Ext w3 w')
    (fun e _ => (64 - geti e 5).toNat) ⟨0, by omega, rfl, ext_refl _⟩ ?_
  rintro e w4 ⟨i, hi, rfl, he4⟩
  have h4 := he4.heap h3
  (repeat (first | (refine RW.apS ?_; conv => whnf) | (refine RW.st ?_; conv => whnf) | (refine RW.stN ?_; conv => whnf) | (refine RW.app ?_; conv => whnf) | (refine RW.c ?_; conv => whnf) | (refine DR.f ?_; conv => whnf) | (refine DR.st ?_; conv => whnf) | (refine DR.stN ?_; conv => whnf) | (refine DR.app ?_; conv => whnf) | (refine DR.appS ?_; conv => whnf) | (refine DR.o ?_; conv => whnf) | (refine KW.k ?_; conv => whnf) | refine RW.nil ?_ | refine EW.tn ?_ | refine IW.seq ?_ | refine IW.reg ?_ | refine IW.regD ?_ | refine DR.nil ?_ | (refine IW.cond ?_; conv => whnf) | refine IW.block ?_ | refine IW.skip ?_ | refine IW.exit ?_ | refine IW.ret ?_ | refine EW.tr ?_ | refine EW.tx ?_ | refine EW.bn ?_ | refine EW.br ?_ | refine EW.bx1 ?_ | refine EW.bx0 rfl ?_ | refine EW.fin ?_ | (refine RQ.n ?_; conv => whnf) | (refine RQ.r ?_; conv => whnf) | refine keepW_f ?_ | (refine DR.b ?_ ?_; conv => whnf) | exact DR.stop | refine LQ.x ?_ | refine LQ.r ?_))
  refine ⟨fun hlt => ?_, fun hge => ?_⟩
  · have hlt : i < 64 := by have := of_decide_eq_true hlt; omega
    (repeat (first | (refine RW.apS ?_; conv => whnf) | (refine RW.st ?_; conv => whnf) | (refine RW.stN ?_; conv => whnf) | (refine RW.app ?_; conv => whnf) | (refine RW.c ?_; conv => whnf) | (refine DR.f ?_; conv => whnf) | (refine DR.st ?_; conv => whnf) | (refine DR.stN ?_; conv => whnf) | (refine DR.app ?_; conv => whnf) | (refine DR.appS ?_; conv => whnf) | (refine DR.o ?_; conv => whnf) | (refine KW.k ?_; conv => whnf) | refine RW.nil ?_ | refine EW.tn ?_ | refine IW.seq ?_ | refine IW.reg ?_ | refine IW.regD ?_ | refine DR.nil ?_ | (refine IW.cond ?_; conv => whnf) | refine IW.block ?_ | refine IW.skip ?_ | refine IW.exit ?_ | refine IW.ret ?_ | refine EW.tr ?_ | refine EW.tx ?_ | refine EW.bn ?_ | refine EW.br ?_ | refine EW.bx1 ?_ | refine EW.bx0 rfl ?_ | refine EW.fin ?_ | (refine RQ.n ?_; conv => whnf) | (refine RQ.r ?_; conv => whnf) | refine keepW_f ?_ | (refine DR.b ?_ ?_; conv => whnf) | exact DR.stop | refine LQ.x ?_ | refine LQ.r ?_))
    refine ⟨by decide, ?_⟩
    (repeat (first | (refine RW.apS ?_; conv => whnf) | (refine RW.st ?_; conv => whnf) | (refine RW.stN ?_; conv => whnf) | (refine RW.app ?_; conv => whnf) | (refine RW.c ?_; conv => whnf) | (refine DR.f ?_; conv => whnf) | (refine DR.st ?_; conv => whnf) | (refine DR.stN ?_; conv => whnf) | (refine DR.app ?_; conv => whnf) | (refine DR.appS ?_; conv => whnf) | (refine DR.o ?_; conv => whnf) | (refine KW.k ?_; conv => whnf) | refine RW.nil ?_ | refine EW.tn ?_ | refine IW.seq ?_ | refine IW.reg ?_ | refine IW.regD ?_ | refine DR.nil ?_ | (refine IW.cond ?_; conv => whnf) | refine IW.block ?_ | refine IW.skip ?_ | refine IW.exit ?_ | refine IW.ret ?_ | refine EW.tr ?_ | refine EW.tx ?_ | refine EW.bn ?_ | refine EW.br ?_ | refine EW.bx1 ?_ | refine EW.bx0 rfl ?_ | refine EW.fin ?_ | (refine RQ.n ?_; conv => whnf) | (refine RQ.r ?_; conv => whnf) | refine keepW_f ?_ | (refine DR.b ?_ ?_; conv => whnf) | exact DR.stop | refine LQ.x ?_ | refine LQ.r ?_))
    have e1 : IntKind.i64.wrap (Int.tdiv (i : Int) 2) = ((i / 2 : Nat) : Int) := by
      rw [Int.tdiv_eq_ediv_of_nonneg (by omega), wrap_i64 (by omega) (by omega)]; omega
    rw [e1]
    refine ⟨⟨by omega, by omega⟩, ?_⟩
    (repeat (first | (refine RW.apS ?_; conv => whnf) | (refine RW.st ?_; conv => whnf) | (refine RW.stN ?_; conv => whnf) | (refine RW.app ?_; conv => whnf) | (refine RW.c ?_; conv => whnf) | (refine DR.f ?_; conv => whnf) | (refine DR.st ?_; conv => whnf) | (refine DR.stN ?_; conv => whnf) | (refine DR.app ?_; conv => whnf) | (refine DR.appS ?_; conv => whnf) | (refine DR.o ?_; conv => whnf) | (refine KW.k ?_; conv => whnf) | refine RW.nil ?_ | refine EW.tn ?_ | refine IW.seq ?_ | refine IW.reg ?_ | refine IW.regD ?_ | refine DR.nil ?_ | (refine IW.cond ?_; conv => whnf) | refine IW.block ?_ | refine IW.skip ?_ | refine IW.exit ?_ | refine IW.ret ?_ | refine EW.tr ?_ | refine EW.tx ?_ | refine EW.bn ?_ | refine EW.br ?_ | refine EW.bx1 ?_ | refine EW.bx0 rfl ?_ | refine EW.fin ?_ | (refine RQ.n ?_; conv => whnf) | (refine RQ.r ?_; conv => whnf) | refine keepW_f ?_ | (refine DR.b ?_ ?_; conv => whnf) | exact DR.stop | refine LQ.x ?_ | refine LQ.r ?_))
    refine ⟨_, (rd_of h4 _).trans (ints_get_lt (i := 0 + ((i / 2 : Nat) : Int).toNat * 1) (by rw [shaF_len]; omega)), ?_⟩
    (repeat (first | (refine RW.apS ?_; conv => whnf) | (refine RW.st ?_; conv => whnf) | (refine RW.stN ?_; conv => whnf) | (refine RW.app ?_; conv => whnf) | (refine RW.c ?_; conv => whnf) | (refine DR.f ?_; conv => whnf) | (refine DR.st ?_; conv => whnf) | (refine DR.stN ?_; conv => whnf) | (refine DR.app ?_; conv => whnf) | (refine DR.appS ?_; conv => whnf) | (refine DR.o ?_; conv => whnf) | (refine KW.k ?_; conv => whnf) | refine RW.nil ?_ | refine EW.tn ?_ | refine IW.seq ?_ | refine IW.reg ?_ | refine IW.regD ?_ | refine DR.nil ?_ | (refine IW.cond ?_; conv => whnf) | refine IW.block ?_ | refine IW.skip ?_ | refine IW.exit ?_ | refine IW.ret ?_ | refine EW.tr ?_ | refine EW.tx ?_ | refine EW.bn ?_ | refine EW.br ?_ | refine EW.bx1 ?_ | refine EW.bx0 rfl ?_ | refine EW.fin ?_ | (refine RQ.n ?_; conv => whnf) | (refine RQ.r ?_; conv => whnf) | refine keepW_f ?_ | (refine DR.b ?_ ?_; conv => whnf) | exact DR.stop | refine LQ.x ?_ | refine LQ.r ?_))
    (refine ⟨by decide, ?_⟩; try conv => whnf); (repeat (first | (refine RW.apS ?_; conv => whnf) | (refine RW.st ?_; conv => whnf) | (refine RW.stN ?_; conv => whnf) | (refine RW.app ?_; conv => whnf) | (refine RW.c ?_; conv => whnf) | (refine DR.f ?_; conv => whnf) | (refine DR.st ?_; conv => whnf) | (refine DR.stN ?_; conv => whnf) | (refine DR.app ?_; conv => whnf) | (refine DR.appS ?_; conv => whnf) | (refine DR.o ?_; conv => whnf) | (refine KW.k ?_; conv => whnf) | refine RW.nil ?_ | refine EW.tn ?_ | refine IW.seq ?_ | refine IW.reg ?_ | refine IW.regD ?_ | refine DR.nil ?_ | (refine IW.cond ?_; conv => whnf) | refine IW.block ?_ | refine IW.skip ?_ | refine IW.exit ?_ | refine IW.ret ?_ | refine EW.tr ?_ | refine EW.tx ?_ | refine EW.bn ?_ | refine EW.br ?_ | refine EW.bx1 ?_ | refine EW.bx0 rfl ?_ | refine EW.fin ?_ | (refine RQ.n ?_; conv => whnf) | (refine RQ.r ?_; conv => whnf) | refine keepW_f ?_ | (refine DR.b ?_ ?_; conv => whnf) | exact DR.stop | refine LQ.x ?_ | refine LQ.r ?_))
    have hx := shaF_bd t ((shaF t).getD (i / 2) 0) (by rw [List.getD_eq_getElem?_getD, List.getElem?_eq_getElem (by rw [shaF_len]; omega)]; exact List.getElem_mem _)
    have e0 : 0 + ((i / 2 : Nat) : Int).toNat * 1 = i / 2 := by omega
    rw [e0]
    have e2 : IntKind.u64.wrap ((shaF t).getD (i / 2) 0) = (((shaF t).getD (i / 2) 0).toNat : Int) := by rw [wrap_u64 (by omega) (by omega)]; omega
    have e3 : IntKind.i64.wrap (4 - IntKind.i64.wrap (4 * Int.tmod (i : Int) 2)) = ((4 - 4 * (i % 2) : Nat) : Int) := by
      rw [Int.tmod_eq_emod_of_nonneg (by omega), wrap_i64 (n := 4 * _) (by omega) (by omega), wrap_i64 (by omega) (by omega)]; omega
    rw [e2, e3]
    refine (field_c _ _ 4 w4 (by omega) (by omega) (by decide) (by decide)).mono ?_
    rintro _ w5 ⟨rfl, rfl⟩
    (repeat (first | (refine RW.apS ?_; conv => whnf) | (refine RW.st ?_; conv => whnf) | (refine RW.stN ?_; conv => whnf) | (refine RW.app ?_; conv => whnf) | (refine RW.c ?_; conv => whnf) | (refine DR.f ?_; conv => whnf) | (refine DR.st ?_; conv => whnf) | (refine DR.stN ?_; conv => whnf) | (refine DR.app ?_; conv => whnf) | (refine DR.appS ?_; conv => whnf) | (refine DR.o ?_; conv => whnf) | (refine KW.k ?_; conv => whnf) | refine RW.nil ?_ | refine EW.tn ?_ | refine IW.seq ?_ | refine IW.reg ?_ | refine IW.regD ?_ | refine DR.nil ?_ | (refine IW.cond ?_; conv => whnf) | refine IW.block ?_ | refine IW.skip ?_ | refine IW.exit ?_ | refine IW.ret ?_ | refine EW.tr ?_ | refine EW.tx ?_ | refine EW.bn ?_ | refine EW.br ?_ | refine EW.bx1 ?_ | refine EW.bx0 rfl ?_ | refine EW.fin ?_ | (refine RQ.n ?_; conv => whnf) | (refine RQ.r ?_; conv => whnf) | refine keepW_f ?_ | (refine DR.b ?_ ?_; conv => whnf) | exact DR.stop | refine LQ.x ?_ | refine LQ.r ?_))
    refine ⟨⟨by omega, by omega⟩, ?_⟩
    (repeat (first | (refine RW.apS ?_; conv => whnf) | (refine RW.st ?_; conv => whnf) | (refine RW.stN ?_; conv => whnf) | (refine RW.app ?_; conv => whnf) | (refine RW.c ?_; conv => whnf) | (refine DR.f ?_; conv => whnf) | (refine DR.st ?_; conv => whnf) | (refine DR.stN ?_; conv => whnf) | (refine DR.app ?_; conv => whnf) | (refine DR.appS ?_; conv => whnf) | (refine DR.o ?_; conv => whnf) | (refine KW.k ?_; conv => whnf) | refine RW.nil ?_ | refine EW.tn ?_ | refine IW.seq ?_ | refine IW.reg ?_ | refine IW.regD ?_ | refine DR.nil ?_ | (refine IW.cond ?_; conv => whnf) | refine IW.block ?_ | refine IW.skip ?_ | refine IW.exit ?_ | refine IW.ret ?_ | refine EW.tr ?_ | refine EW.tx ?_ | refine EW.bn ?_ | refine EW.br ?_ | refine EW.bx1 ?_ | refine EW.bx0 rfl ?_ | refine EW.fin ?_ | (refine RQ.n ?_; conv => whnf) | (refine RQ.r ?_; conv => whnf) | refine keepW_f ?_ | (refine DR.b ?_ ?_; conv => whnf) | exact DR.stop | refine LQ.x ?_ | refine LQ.r ?_))
    have hn : ((shaF t).getD (i / 2) 0).toNat / 2 ^ (4 - 4 * (i % 2)) % 2 ^ 4 < 16 := by rw [show 2 ^ 4 = 16 from rfl]; omega
    refine ⟨⟨by omega, ?_⟩, ?_⟩
    · show _ < ((16 : Nat) : Int)
      omega
    (repeat (first | (refine RW.apS ?_; conv => whnf) | (refine RW.st ?_; conv => whnf) | (refine RW.stN ?_; conv => whnf) | (refine RW.app ?_; conv => whnf) | (refine RW.c ?_; conv => whnf) | (refine DR.f ?_; conv => whnf) | (refine DR.st ?_; conv => whnf) | (refine DR.stN ?_; conv => whnf) | (refine DR.app ?_; conv => whnf) | (refine DR.appS ?_; conv => whnf) | (refine DR.o ?_; conv => whnf) | (refine KW.k ?_; conv => whnf) | refine RW.nil ?_ | refine EW.tn ?_ | refine IW.seq ?_ | refine IW.reg ?_ | refine IW.regD ?_ | refine DR.nil ?_ | (refine IW.cond ?_; conv => whnf) | refine IW.block ?_ | refine IW.skip ?_ | refine IW.exit ?_ | refine IW.ret ?_ | refine EW.tr ?_ | refine EW.tx ?_ | refine EW.bn ?_ | refine EW.br ?_ | refine EW.bx1 ?_ | refine EW.bx0 rfl ?_ | refine EW.fin ?_ | (refine RQ.n ?_; conv => whnf) | (refine RQ.r ?_; conv => whnf) | refine keepW_f ?_ | (refine DR.b ?_ ?_; conv => whnf) | exact DR.stop | refine LQ.x ?_ | refine LQ.r ?_))
    have e5 := digit_eq t i hlt
    have e6 : (bAt (toBA (textL (shaF t) 32)) (i : Int).toNat != bAt digS (((((shaF t).getD (i / 2) 0).toNat / 2 ^ (4 - 4 * (i % 2)) % 2 ^ 4 : Nat) : Int)).toNat) = false := by
      rw [e5, Int.toNat_natCast]; exact bne_self_eq_false _
    refine ⟨fun h => absurd (e6.symm.trans h) (by decide), fun _ => ?_⟩
    (repeat (first | (refine RW.apS ?_; conv => whnf) | (refine RW.st ?_; conv => whnf) | (refine RW.stN ?_; conv => whnf) | (refine RW.app ?_; conv => whnf) | (refine RW.c ?_; conv => whnf) | (refine DR.f ?_; conv => whnf) | (refine DR.st ?_; conv => whnf) | (refine DR.stN ?_; conv => whnf) | (refine DR.app ?_; conv => whnf) | (refine DR.appS ?_; conv => whnf) | (refine DR.o ?_; conv => whnf) | (refine KW.k ?_; conv => whnf) | refine RW.nil ?_ | refine EW.tn ?_ | refine IW.seq ?_ | refine IW.reg ?_ | refine IW.regD ?_ | refine DR.nil ?_ | (refine IW.cond ?_; conv => whnf) | refine IW.block ?_ | refine IW.skip ?_ | refine IW.exit ?_ | refine IW.ret ?_ | refine EW.tr ?_ | refine EW.tx ?_ | refine EW.bn ?_ | refine EW.br ?_ | refine EW.bx1 ?_ | refine EW.bx0 rfl ?_ | refine EW.fin ?_ | (refine RQ.n ?_; conv => whnf) | (refine RQ.r ?_; conv => whnf) | refine keepW_f ?_ | (refine DR.b ?_ ?_; conv => whnf) | exact DR.stop | refine LQ.x ?_ | refine LQ.r ?_))
    have e7 : IntKind.i64.wrap ((i : Int) + 1) = ((i + 1 : Nat) : Int) := by rw [wrap_i64 (by omega) (by omega)]; omega
    rw [e7]
    refine LQ.n ⟨i + 1, by omega, rfl, ext_trans he4 (ext_drew _)⟩ ?_
    simp [geti, find]; omega
  · have hge : ¬ i < 64 := by have := of_decide_eq_false hge; omega
    (repeat (first | (refine RW.apS ?_; conv => whnf) | (refine RW.st ?_; conv => whnf) | (refine RW.stN ?_; conv => whnf) | (refine RW.app ?_; conv => whnf) | (refine RW.c ?_; conv => whnf) | (refine DR.f ?_; conv => whnf) | (refine DR.st ?_; conv => whnf) | (refine DR.stN ?_; conv => whnf) | (refine DR.app ?_; conv => whnf) | (refine DR.appS ?_; conv => whnf) | (refine DR.o ?_; conv => whnf) | (refine KW.k ?_; conv => whnf) | refine RW.nil ?_ | refine EW.tn ?_ | refine IW.seq ?_ | refine IW.reg ?_ | refine IW.regD ?_ | refine DR.nil ?_ | (refine IW.cond ?_; conv => whnf) | refine IW.block ?_ | refine IW.skip ?_ | refine IW.exit ?_ | refine IW.ret ?_ | refine EW.tr ?_ | refine EW.tx ?_ | refine EW.bn ?_ | refine EW.br ?_ | refine EW.bx1 ?_ | refine EW.bx0 rfl ?_ | refine EW.fin ?_ | (refine RQ.n ?_; conv => whnf) | (refine RQ.r ?_; conv => whnf) | refine keepW_f ?_ | (refine DR.b ?_ ?_; conv => whnf) | exact DR.stop | refine LQ.x ?_ | refine LQ.r ?_))
    refine (live_c w4 (h.ext (ext_trans he he4))).mono ?_
    rintro _ w5 ⟨rfl, he5⟩
    (repeat (first | (refine RW.apS ?_; conv => whnf) | (refine RW.st ?_; conv => whnf) | (refine RW.stN ?_; conv => whnf) | (refine RW.app ?_; conv => whnf) | (refine RW.c ?_; conv => whnf) | (refine DR.f ?_; conv => whnf) | (refine DR.st ?_; conv => whnf) | (refine DR.stN ?_; conv => whnf) | (refine DR.app ?_; conv => whnf) | (refine DR.appS ?_; conv => whnf) | (refine DR.o ?_; conv => whnf) | (refine KW.k ?_; conv => whnf) | refine RW.nil ?_ | refine EW.tn ?_ | refine IW.seq ?_ | refine IW.reg ?_ | refine IW.regD ?_ | refine DR.nil ?_ | (refine IW.cond ?_; conv => whnf) | refine IW.block ?_ | refine IW.skip ?_ | refine IW.exit ?_ | refine IW.ret ?_ | refine EW.tr ?_ | refine EW.tx ?_ | refine EW.bn ?_ | refine EW.br ?_ | refine EW.bx1 ?_ | refine EW.bx0 rfl ?_ | refine EW.fin ?_ | (refine RQ.n ?_; conv => whnf) | (refine RQ.r ?_; conv => whnf) | refine keepW_f ?_ | (refine DR.b ?_ ?_; conv => whnf) | exact DR.stop | refine LQ.x ?_ | refine LQ.r ?_))
    exact ⟨rfl, ext_trans (ext_trans he he4) he5⟩
end G1
