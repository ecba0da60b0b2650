/- Own layer of the proof: SxV. No conditions. -/
import Derived.Test.YtjklhofmchdaiaaDoorSxU
set_option linter.unusedVariables false
set_option linter.unusedSimpArgs false
namespace Go.Sx
open Go.RowKit

/-! ### rows of numbers -/
def ints (k : IntKind) (l : List Int) : Array Value := (l.map (Value.int k)).toArray
theorem ints_size (k : IntKind) (l : List Int) : (ints k l).size = l.length := by simp [ints]
theorem ints_get (k : IntKind) (l : List Int) (i : Nat) : (ints k l)[i]? = (l[i]?).map (Value.int k) := by simp [ints]
theorem ints_get_lt {k : IntKind} {l : List Int} {i : Nat} (h : i < l.length) : (ints k l)[i]? = some (.int k (l.getD i 0)) := by
  rw [ints_get]; simp [h]
theorem ints_set (k : IntKind) (l : List Int) (i : Nat) (v : Int) : (ints k l).setIfInBounds i (.int k v) = ints k (l.set i v) := by
  simp [ints, List.map_set]
theorem ints_append (k : IntKind) (l m : List Int) : ints k l ++ ints k m = ints k (l ++ m) := by simp [ints]
theorem ints_extract (k : IntKind) (l : List Int) (i j : Nat) : (ints k l).extract i j = ints k ((l.drop i).take (j - i)) := by
  apply Array.ext_getElem?
  intro n
  rw [ints_get, Array.getElem?_extract, ints_get, ints_size]
  simp only [List.getElem?_take, List.getElem?_drop]
  by_cases h : n < j - i
  · rw [if_pos h]
    by_cases h2 : n < min j l.length - i
    · rw [if_pos h2]
    · rw [if_neg h2, List.getElem?_eq_none (by omega)]; rfl
  · rw [if_neg h, if_neg (by omega)]; rfl
theorem ints_one (k : IntKind) (l : List Int) : (ints k l).all one = true := by
  rw [Array.all_eq_true_iff_forall_mem]
  intro x hx
  simp only [ints, List.mem_toArray, List.mem_map] at hx
  obtain ⟨a, _, rfl⟩ := hx
  rfl
theorem map_int_inj (k : IntKind) : ∀ {l m : List Int}, l.map (Value.int k) = m.map (Value.int k) → l = m
  | [], [], _ => rfl
  | [], _ :: _, h => by simp at h
  | _ :: _, [], h => by simp at h
  | x :: l, y :: m, h => by simp at h; rw [h.1, map_int_inj k h.2]
theorem ints_inj {k : IntKind} {l m : List Int} (h : ints k l = ints k m) : l = m := by
  have h := congrArg Array.toList h
  simp only [ints] at h
  exact map_int_inj k h
theorem splice_all {c us : Array Value} (h : us.size = c.size) : splice c 0 us = us := by
  unfold splice; rw [show 0 + us.size = c.size by omega]; simp
theorem ints_replicate (k : IntKind) (n : Nat) (v : Int) : ints k (List.replicate n v) = Array.replicate n (.int k v) := by
  simp [ints]

theorem range_one (n : Nat) (z : Value) : (Array.range n).map (fun i => #[z][i % 1]!) = Array.replicate n z := by
  apply Array.ext
  · simp
  · intro i h1 h2
    simp [Nat.mod_one]
/-! ### a row of the call's own -/
structure Own (w : World) (B el size : Nat) (p : Option Addr) (n c : Nat) (xs : Array Value) : Prop where
  len : xs.size = n * size
  form : (p = none ∧ n = 0 ∧ c = 0) ∨ ∃ b cs, p = some ⟨b, 0, none⟩ ∧ B ≤ b ∧ w.heap[b]? = some (.cells cs el (0, 0)) ∧ c * size ≤ cs.size ∧ n ≤ c ∧ cs.extract 0 (n * size) = xs
theorem Own.nil (w : World) (B el size : Nat) : Own w B el size none 0 0 #[] := ⟨by simp, .inl ⟨rfl, rfl, rfl⟩⟩
theorem Own.keep {w w' : World} {B el size n c : Nat} {p : Option Addr} {xs : Array Value} (h : Own w B el size p n c xs)
    (hk : ∀ b, p = some ⟨b, 0, none⟩ → w'.heap[b]? = w.heap[b]?) : Own w' B el size p n c xs :=
  ⟨h.len, h.form.imp id fun ⟨b, cs, hp, hB, hb, h1, h2, h3⟩ => ⟨b, cs, hp, hB, (hk b hp).trans hb, h1, h2, h3⟩⟩
theorem Own.ext {w w' : World} {B el size n c : Nat} {p : Option Addr} {xs : Array Value} (h : Own w B el size p n c xs) (he : Ext w w') : Own w' B el size p n c xs := by
  refine ⟨h.len, h.form.imp id fun ⟨b, cs, hp, hB, hb, h1, h2, h3⟩ => ⟨b, cs, hp, hB, ext_heap he hb, h1, h2, h3⟩⟩
theorem Own.more {w : World} {B B' el size n c : Nat} {p : Option Addr} {xs : Array Value} (h : Own w B el size p n c xs) (hB : B' ≤ B) : Own w B' el size p n c xs :=
  ⟨h.len, h.form.imp id fun ⟨b, cs, hp, hb, r⟩ => ⟨b, cs, hp, Nat.le_trans hB hb, r⟩⟩
theorem extract_add {cs : Array Value} {i j k : Nat} (h : i + j + k ≤ cs.size) : (cs.extract i (i + j + k)).extract j (j + k) = cs.extract (i + j) (i + j + k) := by
  simp [Array.extract_extract]
  congr 1
  omega
theorem Own.read {w : World} {B el size n c : Nat} {p : Option Addr} {xs : Array Value} (h : Own w B el size p n c xs) : rdS w p (n * size) = some xs := by
  rcases h.form with ⟨rfl, rfl, rfl⟩ | ⟨b, cs, rfl, _, hb, h1, h2, h3⟩
  · have := h.len
    simp at this
    simp [rdS, this]
  · have hle : n * size ≤ c * size := Nat.mul_le_mul_right _ h2
    show rdN w b 0 (n * size) = some xs
    rw [rdN_of hb (by omega), Nat.zero_add, h3]
theorem Own.at_ {w : World} {B el size n c : Nat} {p : Option Addr} {xs : Array Value} (h : Own w B el size p n c xs) {i : Nat} {v : Value} (hv : xs[i]? = some v) :
    ∃ b, p = some ⟨b, 0, none⟩ ∧ B ≤ b ∧ rd w b i = some v := by
  have hi : i < n * size := by
    rw [← h.len]; exact (Array.getElem?_eq_some_iff.1 hv).1
  rcases h.form with ⟨rfl, rfl, rfl⟩ | ⟨b, cs, rfl, hB, hb, h1, h2, h3⟩
  · simp at hi
  · refine ⟨b, rfl, hB, ?_⟩
    rw [rd_of hb]
    rw [← h3, Array.getElem?_extract] at hv
    have hle : n * size ≤ c * size := Nat.mul_le_mul_right _ h2
    rw [if_pos (by omega), Nat.zero_add] at hv
    exact hv

theorem grown_upB {w : World} {b : Nat} (o : Obj) : w.grownBy (upB w b o) (some b) :=
  ⟨rfl, rfl, rfl, by simp [upB], fun k _ hne => by simp only [upB, Array.getElem?_setIfInBounds]; rw [if_neg (fun h => hne (by rw [h]))]⟩
theorem grown_ext {w w' : World} (h : Ext w w') (r : Option Nat) : w.grownBy w' r := ⟨h.os, h.tape, h.output, h.size, fun i hi _ => h.block i hi⟩
theorem grown_refl (w : World) (r : Option Nat) : w.grownBy w r := grown_ext (ext_refl w) r
theorem grown_trans {a b c : World} {r : Option Nat} (h : a.grownBy b r) (k : b.grownBy c r) : a.grownBy c r :=
  ⟨k.os.trans h.os, k.tape.trans h.tape, k.output.trans h.output, Nat.le_trans h.size k.size, fun i hi hne => (k.block i (Nat.lt_of_lt_of_le hi h.size) hne).trans (h.block i hi hne)⟩
theorem grown_below {a b : World} {r : Option Nat} {B : Nat} (h : a.grownBy b r) (hB : B ≤ a.heap.size) (hr : ∀ k, r = some k → B ≤ k) : Below B a b :=
  ⟨h.os, h.tape, h.output, h.size, fun i hi => h.block i (by omega) (fun he => by have := hr i he.symm; omega)⟩
def blkOf (p : Option Addr) : Option Nat := p.map (·.block)

/-- 'append' to a row of the call's own. -/
theorem appW_own {el bytes size n c m B : Nat} {zero news xs : Array Value} {w : World} {p : Option Addr} {K : Value → World → Prop} (h : Own w B el size p n c xs) (hnews : news.size = m * size) (hone : news.all one = true)
    (hbound : n + m ≤ 9223372036854775807 ∧ (2 * (n + m) + 200) * bytes ≤ 281474976710656) (hz : zero.size = size) (hB : B ≤ w.heap.size)
    (hK : ∀ p' c' w', Own w' B el size p' (n + m) c' (xs ++ news) → w.grownBy w' (blkOf p) → (blkOf p' = blkOf p ∨ blkOf p' = some w.heap.size) → K (.slice p' (n + m) c') w') :
    appW el bytes size zero w p n c m news K := by
  have hlen : (xs ++ news).size = (n + m) * size := by rw [Array.size_append, h.len, hnews, Nat.add_mul]
  refine ⟨fun hle => ?_, fun hgt => ?_⟩
  · rcases h.form with ⟨rfl, rfl, rfl⟩ | ⟨b, cs, rfl, hBb, hb, h1, h2, h3⟩
    · have hm : m = 0 := by omega
      subst hm
      refine hK none 0 w ⟨hlen, .inl ⟨rfl, rfl, rfl⟩⟩ (grown_refl _ _) (.inl rfl)
    · have hle2 : (n + m) * size ≤ c * size := Nat.mul_le_mul_right _ hle
      have hfit : 0 + n * size + news.size ≤ cs.size := by rw [hnews, Nat.zero_add, ← Nat.add_mul]; omega
      refine ⟨hone, cs, el, hb, hfit, hK _ _ _ ⟨hlen, .inr ⟨b, _, rfl, hBb, heap_upB_same hb _, ?_, by omega, ?_⟩⟩ (grown_upB _) (.inl rfl)⟩
      · rw [size_splice hfit]; exact h1
      · apply Array.ext_getElem?
        intro j
        have hn : xs.size = n * size := h.len
        rw [Array.getElem?_extract, getElem?_splice hfit, Array.getElem?_append, size_splice hfit, hnews, hn]
        have e1 : (n + m) * size = n * size + m * size := Nat.add_mul ..
        simp only [Nat.zero_add]
        rw [hnews] at hfit
        by_cases hj : j < n * size
        · rw [if_pos (by omega), if_neg (by omega), if_pos hj, ← h3, Array.getElem?_extract, if_pos (by omega), Nat.zero_add]
        · rw [if_neg hj]
          by_cases hj2 : j < n * size + m * size
          · rw [if_pos (by omega), if_pos (by omega)]
          · rw [if_neg (by omega), Array.getElem?_eq_none (by omega)]
  · refine ⟨hbound, xs, h.read, fun cap' hcap => hK _ _ _ ⟨hlen, .inr ⟨w.heap.size, xs ++ news ++ zerosA zero (cap' - (n + m)), rfl, hB, ?_, ?_, hcap, ?_⟩⟩ ?_ (.inr rfl)⟩
    · exact heap_new w.drew _
    · have e : zerosA zero (cap' - (n + m)) = (Array.range ((cap' - (n + m)) * zero.size)).map fun i => zero[i % zero.size]! := rfl
      rw [Array.size_append, hlen, e, Array.size_map, Array.size_range, hz, ← Nat.add_mul]
      exact Nat.mul_le_mul_right _ (by omega)
    · have e1 := hlen
      apply Array.ext_getElem?
      intro j
      rw [Array.getElem?_extract, Array.getElem?_append, Nat.zero_add]
      by_cases hj : j < (n + m) * size
      · rw [if_pos (by rw [Array.size_append]; omega), if_pos (by omega)]
      · rw [if_neg (by omega), Array.getElem?_eq_none (by omega)]
    · exact grown_ext (ext_trans (ext_drew w) (ext_alloc _ _)) _
end Go.Sx
