/- Own layer of the proof: SxW. No conditions. -/
import Derived.Test.YtjklhofmchdaiaaDoorSxL
set_option linter.unusedVariables false
set_option linter.unusedSimpArgs false
namespace Go.Sx
open Go.RowKit
section
variable {P : Program} {N : Nat} {e : Env} {a : Act} {w : World}

theorem setCell_upB {w : World} {b o : Nat} {c : Array Value} {t : TypeId} {z : Nat × Nat} (hb : w.heap[b]? = some (.cells c t z)) (v : Value) :
    w.setCell ⟨b, o, none⟩ v = upB w b (.cells (c.setIfInBounds o v) t z) := by
  unfold World.setCell upB
  congr 1
  apply Array.ext_getElem?
  intro i
  rw [Array.getElem?_modify, Array.getElem?_setIfInBounds]
  obtain ⟨hlt, hg⟩ := Array.getElem?_eq_some_iff.1 hb
  by_cases h : b = i
  · subst h; simp [hlt, hg]
  · simp [h]
theorem upB_heap {w : World} {b : Nat} {o : Obj} (h : b < w.heap.size) (i : Nat) : (upB w b o).heap[i]? = if b = i then some o else w.heap[i]? := by
  unfold upB
  rw [Array.getElem?_setIfInBounds]
  by_cases hb : b = i
  · subst hb; simp [h]
  · simp [hb]
theorem upB_upB (w : World) (b : Nat) (o o' : Obj) : upB (upB w b o) b o' = upB w b o' := by
  unfold upB
  simp
theorem upB_self {w : World} {b : Nat} {o : Obj} (h : w.heap[b]? = some o) : upB w b o = w := by
  unfold upB
  have : w.heap.setIfInBounds b o = w.heap := by
    apply Array.ext_getElem?
    intro i
    rw [Array.getElem?_setIfInBounds]
    by_cases hb : b = i
    · subst hb
      rw [if_pos rfl, if_pos (Array.getElem?_eq_some_iff.1 h).1, h]
    · simp [hb]
  rw [this]
theorem upB_size (w : World) (b : Nat) (o : Obj) : (upB w b o).heap.size = w.heap.size := by simp [upB]

theorem one_oneCell {v : Value} (h : one v = true) : v.oneCell' = true := by cases v <;> simp_all [one, Value.oneCell']
theorem one_cells {v : Value} (h : one v = true) : v.cells = #[v] := by cases v <;> simp_all [one, Value.cells]
theorem run_store_at {w : World} {b o : Nat} {c : Array Value} {t : TypeId} (hb : w.heap[b]? = some (.cells c t (0, 0))) (ho : o < c.size) {v : Value} (hv : one v = true) :
    (store ⟨b, o, none⟩ v).run P w = .ok () (upB w b (.cells (c.setIfInBounds o v) t (0, 0))) := by
  rw [run_store P w _ v _ (one_oneCell hv)]
  have h1 : w.cell? ⟨b, o, none⟩ = some c[o] := by simp [World.cell?, hb, ho]
  have h2 : w.frozen? ⟨b, o, none⟩ = false := by simp [World.frozen?, hb]
  simp only [h1, h2, setCell_upB hb]
  rfl
theorem run_storeCells {b o : Nat} {t : TypeId} : ∀ (l : List Value) (i : Nat) (c : Array Value) (w : World), w.heap[b]? = some (.cells c t (0, 0)) → o + i + l.length ≤ c.size → l.all one = true →
    (storeCells ⟨b, o, none⟩ l i).run P w = .ok () (upB w b (.cells ((l.zipIdx i).foldl (fun (cs : Array Value) (x : Value × Nat) => cs.setIfInBounds (o + x.2) x.1) c) t (0, 0)))
  | [], i, c, w, hb, _, _ => by simp [storeCells, upB_self hb]
  | v :: l, i, c, w, hb, hle, hall => by
    simp only [List.all_cons, Bool.and_eq_true] at hall
    simp only [List.length_cons] at hle
    have hlt : b < w.heap.size := (Array.getElem?_eq_some_iff.1 hb).1
    simp only [storeCells, Sem.run_bind, add_plain, run_store_at hb (show o + i < c.size by omega) hall.1, Result.andThen_ok, List.zipIdx_cons, List.foldl_cons]
    rw [run_storeCells l (i + 1) (c.setIfInBounds (o + i) v) _ (by rw [upB_heap hlt, if_pos rfl]) (by simp; omega) hall.2, upB_upB]
theorem run_storeArr {b o : Nat} {t : TypeId} {us c : Array Value} {w : World} (hb : w.heap[b]? = some (.cells c t (0, 0))) (hle : o + us.size ≤ c.size) (hall : us.all one = true) :
    (storeCells ⟨b, o, none⟩ us.toList).run P w = .ok () (upB w b (.cells (splice c o us) t (0, 0))) := by
  rw [run_storeCells us.toList 0 c w hb (by simpa using hle) (by simpa using hall), ← foldl_splice hle]
  congr 4
  rw [← Array.foldl_toList]; simp

/-- What an operation comes to. -/
def Done (P : Program) (o : Oper) (a : Act) (w : World) (K : Value → World → Prop) : Prop :=
  ∃ v w', K v w' ∧ ((execOp a.eval o).run P w = .ok (.value v) w' ∨ (v = undef ∧ (execOp a.eval o).run P w = .ok .skip w'))

variable (dst : Option Tmp) (type : TypeId) (pos : String) (after : Array Edge) (guard : Option (Nat × Bool))

theorem opW_store (t : TypeId) (x v : Operand) {io : IOp} (hc : compOp P (.store t x v) = some io) (hf : Fits N e a) {K : Value → World → Prop} (h : opW P io e w K) : Done P ⟨dst, .store t x v, type, pos, after, guard⟩ a w K := by
  simp only [compOp] at hc
  split at hc
  · split at hc
    · rename_i hsz
      cases hc
      obtain ⟨b, o, hx, h⟩ := withAddr_eval hf h
      have h := withV_eval hf h
      split at h
      · rename_i hone
        obtain ⟨c, ty, hb, ho, hK⟩ := h
        refine ⟨_, _, hK, .inr ⟨rfl, ?_⟩⟩
        have hst := run_store_at (P := P) hb ho hone
        simp [execOp, hx, Instr.storeAt, Instr.sureAddr, storeVar, one_cells hone, sizeOf_of_n hsz, storeCells, add_plain, hst]
      · exact h.elim
    · cases hc
  · cases hn : tyN P t with
    | none => rw [hn] at hc; cases hc
    | some n =>
      rw [hn] at hc
      cases hc
      obtain ⟨b, o, hx, h⟩ := withAddr_eval hf h
      obtain ⟨us, hv, hs, hall, c, ty, hb, ho, hK⟩ := withAgg_eval hf h
      refine ⟨_, _, hK, .inr ⟨rfl, ?_⟩⟩
      have hst := run_storeArr (P := P) hb ho hall
      simp only [execOp, hx, hv, Instr.storeAt, Instr.sureAddr, storeVar, Value.cells, Sem.run_bind, Sem.run_pure, Result.andThen_ok, sizeOf_of_n (tySize_of_n hn), hs, ne_eq, not_true, if_false, hst]

theorem opW_box (t : TypeId) (x : Operand) {io : IOp} (hc : compOp P (.box t x) = some io) (hf : Fits N e a) {K : Value → World → Prop} (h : opW P io e w K) : Done P ⟨dst, .box t x, type, pos, after, guard⟩ a w K := by
  cases hc
  have h := withV_eval hf h
  exact ⟨_, _, h, .inl (by simp [execOp, Instr.box, newVar, newRow])⟩
theorem opW_alloc (t : TypeId) {io : IOp} (hc : compOp P (.alloc t) = some io) (hf : Fits N e a) {K : Value → World → Prop} (h : opW P io e w K) : Done P ⟨dst, .alloc t, type, pos, after, guard⟩ a w K := by
  simp only [compOp] at hc
  split at hc
  · rename_i i hi
    cases hz : i.zero with
    | none => rw [hz] at hc; cases hc
    | some z =>
      rw [hz] at hc
      cases hc
      exact ⟨_, _, h, .inl (by simp [execOp, Instr.alloc, newVar, newRow, zeroValue, typeInfo, hi, hz])⟩
  · cases hc
theorem opW_buildSlice (t : TypeId) (len : Nat) (parts : Array (Nat × Operand)) {io : IOp} (hc : compOp P (.buildSlice t len parts) = some io) (hf : Fits N e a) {K : Value → World → Prop} (h : opW P io e w K) : Done P ⟨dst, .buildSlice t len parts, type, pos, after, guard⟩ a w K := by
  simp only [compOp] at hc
  split at hc
  · rename_i el hu
    split at hc
    · rename_i i hi
      split at hc
      · rename_i z hz
        split at hc
        · rename_i hle
          cases hp : partsOf (len * i.size) parts (fun j => some (j * i.size, i.size)) with
          | none => rw [hp] at hc; cases hc
          | some ps =>
            rw [hp] at hc
            cases hc
            obtain ⟨vs, hK, hfill⟩ := fill_ok hf parts.toList ps _ ((Array.range (len * i.size)).map fun j => z.cells[j % i.size]!) (by simpa using hp) h (by simp)
            refine ⟨_, _, hK, .inl ?_⟩
            have hsz : ∀ w' : World, (sizeOf el).run P w' = .ok i.size w' := fun w' => by simp [sizeOf, typeInfo, hi]
            have hzero : ∀ w' : World, (zeroValue el).run P w' = .ok z w' := fun w' => by simp [zeroValue, typeInfo, hi, hz]
            have hbig : ¬ len * i.size > 2 ^ 24 := by omega
            simp only [execOp, Instr.buildSlice, Sem.run_bind, run_underlying hu, Result.andThen_ok, hsz]
            rw [if_neg hbig]
            by_cases h0 : len * i.size = 0
            · have hfill0 : Instr.fill (fun j => some (j * i.size, i.size)) ((Array.range (len * i.size)).map fun j => (#[] : Array Value)[j % (#[] : Array Value).size]!) (parts.map fun (j, x) => (j, a.eval x)).toList = some (fillA ((Array.range (len * i.size)).map fun j => z.cells[j % i.size]!) vs) := by
                rw [Array.toList_map, ← hfill]
                have e0 : ∀ f g : Nat → Value, (Array.range (len * i.size)).map f = (Array.range (len * i.size)).map g := by intro f g; rw [h0]; simp
                rw [e0 (fun j => (#[] : Array Value)[j % (#[] : Array Value).size]!) (fun j => z.cells[j % i.size]!)]
              simp only [h0, if_true, Sem.run_bind, Sem.run_pure, Result.andThen_ok]
              rw [h0] at hfill0
              simp only [hfill0]
              simp [newRow]
            · have hfill1 : Instr.fill (fun j => some (j * i.size, i.size)) ((Array.range (len * i.size)).map fun j => z.cells[j % z.cells.size]!) (parts.map fun (j, x) => (j, a.eval x)).toList = some (fillA ((Array.range (len * i.size)).map fun j => z.cells[j % i.size]!) vs) := by
                rw [Array.toList_map, hle.2]
                exact hfill
              simp only [h0, if_false, Sem.run_bind, hzero, Sem.run_pure, Result.andThen_ok]
              simp only [hfill1]
              simp [newRow]
        · cases hc
      · cases hc
    · cases hc
  · cases hc
theorem opW_makeMap (t : TypeId) (r : Option Operand) {io : IOp} (hc : compOp P (.makeMap t r) = some io) (hf : Fits N e a) {K : Value → World → Prop} (h : opW P io e w K) : Done P ⟨dst, .makeMap t r, type, pos, after, guard⟩ a w K := by
  simp only [compOp] at hc
  split at hc
  · cases hc
    exact ⟨_, _, h, .inl (by simp [execOp, Instr.makeMap])⟩
  · cases hc
theorem opW_makeSlice (t : TypeId) (l c : Operand) {io : IOp} (hc : compOp P (.makeSlice t l c) = some io) (hf : Fits N e a) {K : Value → World → Prop} (h : opW P io e w K) : Done P ⟨dst, .makeSlice t l c, type, pos, after, guard⟩ a w K := by
  simp only [compOp] at hc
  split at hc
  · rename_i el hu
    split at hc
    · rename_i i hi
      split at hc
      · rename_i z hz
        split at hc
        · rename_i hle
          cases hc
          obtain ⟨k, lv, hl, h⟩ := withInt_eval hf h
          obtain ⟨k', cv, hcv, ⟨h0, h1, h2, h3⟩, hK⟩ := withInt_eval hf h
          refine ⟨_, _, hK, .inl ?_⟩
          have hsz : ∀ w' : World, (sizeOf el).run P w' = .ok i.size w' := fun w' => by simp [sizeOf, typeInfo, hi]
          have hti : ∀ w' : World, (typeInfo el).run P w' = .ok i w' := fun w' => by simp [typeInfo, hi]
          have hzero : ∀ w' : World, (zeroValue el).run P w' = .ok z w' := fun w' => by simp [zeroValue, typeInfo, hi, hz]
          have wl : IntKind.i64.wrap lv = lv := by unfold IntKind.wrap; simp [IntKind.bits, IntKind.signed]; omega
          have wc : IntKind.i64.wrap cv = cv := by unfold IntKind.wrap; simp [IntKind.bits, IntKind.signed]; omega
          have hcond : ((decide (cv < 0) || decide ((i.bytes : Int) * cv > 2 ^ 48) || decide (lv < 0) || decide (lv > cv)) : Bool) = false := by
            simp; omega
          simp only [execOp, Instr.makeSlice, Sem.run_bind, run_underlying hu, Result.andThen_ok, hl, hcv, asInt, asIntOf, Sem.run_pure, hti, wl, wc, hcond, hsz, run_askRoom]
          simp only [Bool.false_eq_true, if_false, Sem.run_bind, run_askRoom, Result.andThen_ok, hsz]
          by_cases hn : cv.toNat * i.size = 0
          · have e0 : ∀ f g : Nat → Value, (Array.range 0).map f = (Array.range 0).map g := by intro f g; simp
            simp [hn, newRow]
            rw [e0]
          · simp [hn, newRow, hzero, hle]
        · cases hc
      · cases hc
    · cases hc
  · cases hc
end
end Go.Sx
