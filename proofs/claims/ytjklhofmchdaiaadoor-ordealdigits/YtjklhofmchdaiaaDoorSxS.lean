/- Own layer of the proof: SxS. No conditions. -/
import Derived.Test.YtjklhofmchdaiaaDoorSx
set_option linter.unusedVariables false
set_option linter.unusedSimpArgs false
namespace Go.Sx
open Go.RowKit

/-! ### the compiler -/
def tyCK (P : Program) (t : TypeId) : Option CK :=
  match P.underlying t with
  | some (.int k) => some (.int k)
  | some .bool => some .bool
  | some .string => some .string
  | some (.pointer _) => some .pointer
  | some (.slice _) => some .slice
  | some (.map ..) => some .map
  | some (.func ..) => some .func
  | _ => none
def tyN (P : Program) (t : TypeId) : Option Nat :=
  match P.underlying t with
  | some (.struct _) | some (.array ..) => (P.info? t).map (·.size)
  | _ => none
def tySize (P : Program) (t : TypeId) : Option Nat := (P.info? t).map (·.size)

def compCall (P : Program) (c : Call) : Option IOp :=
  match c.callee with
  | .builtin b =>
    match b, c.args.toList, c.argTypes.toList with
    | .len, [x], [t] =>
      match P.underlying t with
      | some .string => some (.lenS x)
      | some (.slice _) => some (.lenL x)
      | some (.map ..) => some (.lenM x)
      | some (.array n _) => some (.lenC n)
      | _ => none
    | .min, [x, y], _ => some (.minI x y)
    | .max, [x, y], _ => some (.maxI x y)
    | .append, [s, x], [t, u] =>
      match P.underlying t, P.underlying u with
      | some (.slice el), some (.slice _) =>
        match P.info? el with
        | some i => match i.zero with
          | some z => some (.app el i.bytes i.size z.cells s x)
          | none => none
        | none => none
      | some (.slice el), some .string => match P.info? el with
        | some i => if i.size = 1 ∧ i.bytes = 1 then (match i.zero with | some (.int .u8 (.ofNat 0)) => some (.appS el s x) | _ => none) else none
        | none => none
      | _, _ => none
    | _, _, _ => none
  | .value g => match g with
    | .func f => if callable P f then some (.call f c.args.toList) else none
    | g => some (.callV g c.args.toList)
  | _ => none

def partsOf (z : Nat) (parts : Array (Nat × Operand)) (place : Nat → Option (Nat × Nat)) : Option (List (Nat × Nat × Operand)) :=
  parts.toList.mapM fun (i, x) => (place i).bind fun (o, n) => if o + n ≤ z then some (o, n, x) else none

def compOp (P : Program) (op : Op) : Option IOp :=
  match op with
  | .move x | .assign x => some (.mv x)
  | .pick c x y => some (.pick c x y)
  | .binOp op t x y _ =>
    match op, y with
    | .shl, .const (.int _ n) => if 0 ≤ n then some (.shlC n.toNat x) else none
    | .shr, .const (.int _ n) => if 0 ≤ n then some (.shrC n.toNat x) else none
    | op, y => match op, P.underlying t with
      | .eql, some .bool => some (.eqBool false x y)
      | .neq, some .bool => some (.eqBool true x y)
      | op, _ => some (.bin op x y)
  | .unOp op _ x => some (.un op x)
  | .convert src dst x =>
    match P.underlying src, P.underlying dst with
    | some (.int _), some (.int k) => some (.cvInt k x)
    | some .string, some (.slice el) => if P.underlying el matches some (.int .u8) then some (.cvBytes el x) else none
    | some (.slice el), some .string => if P.underlying el matches some (.int .u8) then some (.cvStr x) else none
    | _, _ => none
  | .load t x =>
    match tyCK P t with
    | some ck => some (.ld ck x)
    | none => (tyN P t).map fun n => .ldN n x
  | .store t x v =>
    match tyCK P t with
    | some _ => if tySize P t = some 1 then some (.st x v) else none
    | none => (tyN P t).map fun n => .stN n x v
  | .box t x => some (.box t x)
  | .alloc t => match P.info? t with
    | some i => i.zero.map fun z => .alloc t z
    | none => none
  | .nilCheck x => some (.nilck x)
  | .fieldAddr s x f =>
    match P.underlying s with
    | some (.struct fs) =>
      match fs[f]? with
      | some fd => match tySize P fd.type with
        | some (_ + 1) => some (.fldA fd.offset x)
        | _ => none
      | none => none
    | _ => none
  | .field s x f =>
    match P.underlying s with
    | some (.struct fs) =>
      match fs[f]? with
      | some fd => match tyCK P fd.type with
        | some ck => some (.fld ck fd.offset x)
        | none => (tyN P fd.type).map fun n => .fldN fd.offset n x
      | none => none
    | _ => none
  | .indexAddr t x i =>
    match P.underlying t with
    | some (.slice el) => (tySize P el).map fun n => .idxL n x i
    | some (.array len el) => (tySize P el).map fun n => .idxA len n x i
    | _ => none
  | .index t x i =>
    match P.underlying t with
    | some .string => some (.idxS x i)
    | some (.array len el) => match tyCK P el with
      | some ck => if tySize P el = some 1 then some (.idxV ck len x i) else none
      | none => (tyN P el).map fun n => .idxVN len n x i
    | _ => none
  | .slice t x lo hi mx => match mx with
    | some _ => none
    | none => match P.underlying t with
      | some .string => some (.slcS x lo hi)
      | some (.slice el) => (tySize P el).map fun n => .slcL n x lo hi
      | some (.array len el) => (tySize P el).map fun n => .slcA len n x lo hi
      | _ => none
  | .extract x i => some (.extract i x)
  | .makeFunc fn first caps => match fn with
    | .func f => some (.mkFn f first.toList caps.toList)
    | _ => none
  | .build t parts =>
    match P.info? t with
    | some i => match i.zero with
      | some z => match P.underlying t with
        | some (.struct fs) => if fs.toList.all (fun f => (tySize P f.type).isSome) = true then
            (partsOf z.cells.size parts fun i => (fs[i]?).bind fun f => (tySize P f.type).map fun n => (f.offset, n)).map fun ps => .build z.cells ps else none
        | some (.array _ el) => match tySize P el with
          | some n => (partsOf z.cells.size parts fun i => some (i * n, n)).map fun ps => .build z.cells ps
          | none => none
        | _ => none
      | none => none
    | none => none
  | .buildSlice t len parts =>
    match P.underlying t with
    | some (.slice el) => match P.info? el with
      | some i => match i.zero with
        | some z => if len * i.size ≤ 16777216 ∧ z.cells.size = i.size then
            (partsOf (len * i.size) parts fun j => some (j * i.size, i.size)).map fun ps => .buildSl el len ((Array.range (len * i.size)).map fun j => z.cells[j % i.size]!) ps else none
        | none => none
      | none => none
    | _ => none
  | .makeSlice t l c =>
    match P.underlying t with
    | some (.slice el) => match P.info? el with
      | some i => match i.zero with
        | some z => if z.cells.size = i.size then some (.mkSl el i.bytes i.size z.cells l c) else none
        | none => none
      | none => none
    | _ => none
  | .makeMap t r => match r with
    | none => some .mkMap
    | some _ => none
  | .call c => compCall P c
  | _ => none

/-! ### frames -/
def Fits (N : Nat) (e : Env) (a : Act) : Prop := a.tmps.size = N ∧ a.defers = [] ∧ ∀ i v, find e i = some v → a.tmps[i]? = some v

section
variable {P : Program} {N : Nat} {e : Env} {a : Act}
theorem withV_eval (hf : Fits N e a) {x : Operand} {F : Value → Prop} (h : withV e x F) : F (a.eval x) := by
  cases x with
  | tmp t =>
    simp only [withV] at h
    split at h
    · rename_i v hv
      have := hf.2.2 _ _ hv
      simpa [Act.eval, this] using h
    · exact h.elim
  | const v => exact h
  | global g => exact h
  | func f => exact h
theorem withVs_eval (hf : Fits N e a) {xs : List Operand} {F : List Value → Prop} (h : withVs e xs F) : F (xs.map a.eval) := by
  induction xs generalizing F with
  | nil => exact h
  | cons x r ih =>
    simp only [withVs] at h
    exact ih (withV_eval hf h)
theorem withInt_eval (hf : Fits N e a) {x : Operand} {F : IntKind → Int → Prop} (h : withInt e x F) : ∃ k n, a.eval x = .int k n ∧ F k n := by
  have := withV_eval hf h
  split at this
  · rename_i k n hv; exact ⟨k, n, hv, this⟩
  · exact this.elim
theorem withBool_eval (hf : Fits N e a) {x : Operand} {F : Bool → Prop} (h : withBool e x F) : ∃ n, a.eval x = .bool n ∧ F n := by
  have := withV_eval hf h
  split at this
  · rename_i n hv; exact ⟨n, hv, this⟩
  · exact this.elim
theorem withAddr_eval (hf : Fits N e a) {x : Operand} {F : Nat → Nat → Prop} (h : withAddr e x F) : ∃ b o, a.eval x = .pointer (some ⟨b, o, none⟩) ∧ F b o := by
  have := withV_eval hf h
  split at this
  · rename_i b o hv; exact ⟨b, o, hv, this⟩
  · exact this.elim
theorem withAgg_eval (hf : Fits N e a) {x : Operand} {F : Array Value → Prop} (h : withAgg e x F) : ∃ n, a.eval x = .agg n ∧ F n := by
  have := withV_eval hf h
  split at this
  · rename_i n hv; exact ⟨n, hv, this⟩
  · exact this.elim
theorem withStr_eval (hf : Fits N e a) {x : Operand} {F : ByteArray → Prop} (h : withStr e x F) : ∃ n, a.eval x = .string n ∧ F n := by
  have := withV_eval hf h
  split at this
  · rename_i n hv; exact ⟨n, hv, this⟩
  · exact this.elim
theorem withSl_eval (hf : Fits N e a) {x : Operand} {F : Option Addr → Nat → Nat → Prop} (h : withSl e x F) : ∃ p n c, a.eval x = .slice p n c ∧ F p n c := by
  have := withV_eval hf h
  split at this
  · rename_i p n c hv; exact ⟨p, n, c, hv, this⟩
  · exact this.elim

theorem find_put {d : Option Nat} {v : Value} {i : Nat} {u : Value} (h : find (put e d v) i = some u) : (d = some i ∧ u = v) ∨ (d ≠ some i ∧ find e i = some u) := by
  cases d with
  | none => exact .inr ⟨by simp, h⟩
  | some d =>
    simp only [put, find] at h
    cases hd : Nat.beq d i with
    | true => rw [hd] at h; have := Nat.eq_of_beq_eq_true hd; subst this; exact .inl ⟨rfl, by simpa using h.symm⟩
    | false =>
      rw [hd] at h
      refine .inr ⟨fun he => ?_, h⟩
      injection he with he
      subst he
      simp [Nat.beq_refl] at hd
theorem Fits.put (hf : Fits N e a) {d : Option Nat} (hd : ∀ i, d = some i → i < N) (v : Value) : Fits N (Sx.put e d v) (a.put d v) := by
  obtain ⟨h1, h2, h3⟩ := hf
  refine ⟨by cases d <;> simp [Act.put, h1], by cases d <;> simp [Act.put, h2], fun i u hu => ?_⟩
  rcases find_put hu with ⟨rfl, rfl⟩ | ⟨hne, hu'⟩
  · have := hd i rfl
    simp [Act.put, h1, this]
  · cases d with
    | none => exact h3 i u hu'
    | some d =>
      have : d ≠ i := fun h => hne (by rw [h])
      simp [Act.put, this, h3 i u hu']
theorem find_keepK {l : List Nat} {e acc : Env} {K : Env → Prop} (h : keepK l e acc K) : ∃ e', K e' ∧ ∀ i v, find e' i = some v → (find acc i = some v ∨ find e i = some v) := by
  induction l generalizing acc with
  | nil => exact ⟨acc, h, fun i v h => .inl h⟩
  | cons i r ih =>
    simp only [keepK] at h
    split at h
    · rename_i v hv
      obtain ⟨e', hK, hh⟩ := ih h
      refine ⟨e', hK, fun j u hu => ?_⟩
      rcases hh j u hu with h1 | h1
      · simp only [find] at h1
        cases hb : Nat.beq i j with
        | true => rw [hb] at h1; have := Nat.eq_of_beq_eq_true hb; subst this; right; simpa [hv] using h1
        | false => rw [hb] at h1; exact .inl h1
      · exact .inr h1
    · exact ih h
theorem keepK_fits (hf : Fits N e a) {l : List Nat} {K : Env → Prop} (h : keepK l e [] K) : ∃ e', K e' ∧ Fits N e' a := by
  obtain ⟨e', hK, hh⟩ := find_keepK h
  refine ⟨e', hK, hf.1, hf.2.1, fun i v hv => ?_⟩
  rcases hh i v hv with h1 | h1
  · simp [find] at h1
  · exact hf.2.2 i v h1
end

/-! ### operations -/
section
variable {P : Program} {N : Nat} {e : Env} {a : Act} {w : World}

/-- What is shown of an operation that reads: one value, in every world of a class. -/
def Yields (P : Program) (o : Oper) (a : Act) (T : World → Prop) (v : Value) : Prop := ∀ w', T w' → (execOp a.eval o).run P w' = .ok (.value v) w'

theorem ext_rd {w w' : World} (h : Ext w w') {b o : Nat} {v : Value} (hr : rd w b o = some v) : w'.cell? ⟨b, o, none⟩ = some v := by
  unfold rd at hr
  split at hr
  · rename_i c t z hb
    have hlt : b < w.heap.size := (Array.getElem?_eq_some_iff.1 hb).1
    have := h.block b hlt
    simp [World.cell?, this, hb, hr]
  · cases hr
theorem ext_heap {w w' : World} (h : Ext w w') {b : Nat} {o : Obj} (hb : w.heap[b]? = some o) : w'.heap[b]? = some o :=
  (h.block b (Array.getElem?_eq_some_iff.1 hb).1).trans hb

theorem extract_head {c : Array Value} {s n : Nat} (h : s + 1 + n ≤ c.size) : c.extract s (s + 1 + n) = #[c[s]] ++ c.extract (s + 1) (s + 1 + n) := by
  apply Array.ext
  · simp; omega
  · intro k h1 h2
    simp only [Array.getElem_append]
    split
    · rename_i hk
      have : k = 0 := by simpa using hk
      subst this
      simp
    · rename_i hk
      simp at hk
      simp
      congr 1
      omega
theorem run_loadCellsFrom {w : World} {b : Nat} {c : Array Value} {t : TypeId} {z : Nat × Nat} (hb : w.heap[b]? = some (.cells c t z)) :
    ∀ (n o i : Nat) (acc : Array Value), o + i + n ≤ c.size → (loadCellsFrom ⟨b, o, none⟩ i n acc).run P w = .ok (acc ++ c.extract (o + i) (o + i + n)) w := by
  intro n
  induction n with
  | zero => intro o i acc h; simp [loadCellsFrom]; omega
  | succ n ih =>
    intro o i acc h
    have hc : w.cell? ((⟨b, o, none⟩ : Addr).add i) = some c[o + i] := by
      have : (⟨b, o, none⟩ : Addr).add i = ⟨b, o + i, none⟩ := by unfold Addr.add; split <;> simp_all
      rw [this]
      simp [World.cell?, hb, show o + i < c.size by omega]
    simp only [loadCellsFrom, Sem.run_bind, run_load, hc, Result.andThen_ok]
    rw [ih o (i + 1) _ (by omega)]
    congr 1
    rw [show o + i + (n + 1) = (o + i + 1) + n by omega, show o + (i + 1) = o + i + 1 by omega]
    have : c.extract (o + i) (o + i + 1 + n) = #[c[o + i]] ++ c.extract (o + i + 1) (o + i + 1 + n) := extract_head (by omega)
    rw [this]
    simp
theorem ldW_out {ck : CK} {r : Option Value} {K : Value → Prop} (h : ldW ck r K) : ∃ v, r = some v ∧ K v := by
  cases ck <;> simp only [ldW] at h
  case slice => obtain ⟨p, n, c, h1, h2⟩ := h; exact ⟨_, h1, h2⟩
  case func => obtain ⟨p, n, c, h1, h2⟩ := h; exact ⟨_, h1, h2⟩
  all_goals obtain ⟨n, h1, h2⟩ := h; exact ⟨_, h1, h2⟩
theorem tyCK_agg {t : TypeId} {ck : CK} (h : tyCK P t = some ck) : ∃ d, P.underlying t = some d ∧ (∀ fs, d ≠ .struct fs) ∧ (∀ n e, d ≠ .array n e) := by
  unfold tyCK at h
  split at h <;> first | (rename_i hu; exact ⟨_, hu, by simp, by simp⟩) | cases h
theorem isAgg_of_ck {t : TypeId} {ck : CK} (h : tyCK P t = some ck) (w : World) : (isAgg t).run P w = .ok false w := by
  obtain ⟨d, hu, h1, h2⟩ := tyCK_agg h
  simp only [isAgg, Sem.run_bind, run_underlying hu, Result.andThen_ok]
  cases d <;> first | rfl | (exact absurd rfl (h1 _)) | (exact absurd rfl (h2 _ _))
theorem isAgg_of_n {t : TypeId} {n : Nat} (h : tyN P t = some n) (w : World) : (isAgg t).run P w = .ok true w := by
  unfold tyN at h
  split at h
  · rename_i hu; simp [isAgg, run_underlying hu]
  · rename_i hu; simp [isAgg, run_underlying hu]
  · cases h
theorem sizeOf_of_n {t : TypeId} {n : Nat} (h : tySize P t = some n) (w : World) : (sizeOf t).run P w = .ok n w := by
  unfold tySize at h
  cases hi : P.info? t with
  | none => rw [hi] at h; cases h
  | some i => rw [hi] at h; simp at h; simp [sizeOf, typeInfo, hi, h]
theorem tySize_of_n {t : TypeId} {n : Nat} (h : tyN P t = some n) : tySize P t = some n := by
  unfold tyN at h
  split at h <;> first | exact h | cases h

theorem binW_sound {op : BinOp} {t : TypeId} {u v : Value} {K : Value → Prop} (h : binW op u v K) : ∃ r, K r ∧ ∀ w, (binOp op t u v).run P w = .ok r w := by
  unfold binW at h
  split at h
  · rename_i k a k' b
    split at h
    · obtain ⟨h0, h⟩ := h
      refine ⟨_, h, fun w => ?_⟩
      simp [binOp, Op.shift, show ¬ b < 0 by omega]
    · obtain ⟨h0, h⟩ := h
      refine ⟨_, h, fun w => ?_⟩
      simp [binOp, Op.shift, show ¬ b < 0 by omega]
    · rename_i hn1 hn2
      split at h
      · rename_i hk
        have := kEq_eq hk
        subst this
        cases op <;> simp only [intW] at h <;> first
          | exact h.elim
          | (refine ⟨_, h, fun w => ?_⟩; simp [binOp, Op.intArith, Op.intCmp, Op.intBits, bits]; done)
          | (obtain ⟨h0, h⟩ := h; refine ⟨_, h, fun w => ?_⟩; simp [binOp, Op.intDiv, h0]; done)
      · exact h.elim
  · rename_i a b
    cases op <;> simp only [strW] at h <;> first
      | exact h.elim
      | (refine ⟨_, h, fun w => ?_⟩; simp [binOp, Op.stringOp]; done)
      | (obtain ⟨h0, h⟩ := h; refine ⟨_, h, fun w => ?_⟩; simp [binOp, Op.stringOp, IntKind.max, IntKind.signed, IntKind.bits]; omega)
  · exact h.elim
theorem eqGuard_of_binW {op : BinOp} {t : TypeId} {x y : Operand} {u v : Value} {K : Value → Prop} (h : binW op u v K) (w : World) : (eqGuard op t x y u v).run P w = .ok () w := by
  unfold binW at h
  unfold eqGuard
  split at h
  · split <;> rfl
  · split <;> rfl
  · exact h.elim
end
end Go.Sx
