/- Own layer of the proof: SxO. No conditions. -/
import Derived.Test.YtjklhofmchdaiaaDoorSxS
set_option linter.unusedVariables false
set_option linter.unusedSimpArgs false
namespace Go.Sx
open Go.RowKit
section
variable {P : Program} {N : Nat} {e : Env} {a : Act} {w : World} {T : World → Prop}

theorem add_plain (b o n : Nat) : (⟨b, o, none⟩ : Addr).add n = ⟨b, o + n, none⟩ := by unfold Addr.add; split <;> simp_all

theorem part_ck {t : TypeId} {ck : CK} (h : tyCK P t = some ck) {cs : Array Value} {off : Nat} {v : Value} (hv : cs[off]? = some v) (w : World) : (part t cs off).run P w = .ok v w := by
  simp [part, isAgg_of_ck h, hv]
theorem part_n {t : TypeId} {n : Nat} (h : tyN P t = some n) {cs : Array Value} {off : Nat} (w : World) : (part t cs off).run P w = .ok (.agg (cs.extract off (off + n))) w := by
  simp [part, isAgg_of_n h, sizeOf_of_n (tySize_of_n h)]

/-- What an operation that reads comes to. -/
def Reads1 (P : Program) (o : Oper) (a : Act) (T : World → Prop) (K : Value → Prop) : Prop := ∃ v, K v ∧ Yields P o a T v
def loads : IOp → Bool
  | .ld .. | .ldN .. | .lenM .. | .cvStr .. => true
  | _ => false

theorem boundW_none {e : Env} {d t : Nat} {K : Nat → Prop} (h : boundW none e d t K) : K d := h

theorem callable_run {f : FuncId} (h : callable P f = true) (args : Array Value) (w : World) : (callFunc f args).run P w = .ok (.enter f args) w := by
  unfold callable at h
  split at h
  · rename_i fn hfn
    simp at h
    obtain ⟨c, hb⟩ := Option.isSome_iff_exists.1 h.2
    simp [callFunc, hfn, h.1, hb]
  · cases h


theorem run_equal_bool {t : TypeId} (hu : P.underlying t = some .bool) (u v : Bool) (w : World) : (Op.equal t (.bool u) (.bool v)).run P w = .ok (u == v) w := by
  have h : ∀ d : Nat, (Op.equalIn (d + 1) t (.bool u) (.bool v)).run P w = .ok (u == v) w := fun d => by
    simp only [Op.equalIn, Sem.run_bind, run_underlying hu, Result.andThen_ok, Sem.run_pure]
  exact h 9999
theorem run_eql_bool {t : TypeId} (hu : P.underlying t = some .bool) (u v : Bool) (w : World) : (binOp .eql t (.bool u) (.bool v)).run P w = .ok (.bool (u == v)) w := by
  simp only [binOp, Sem.run_bind, run_equal_bool hu, Result.andThen_ok, Sem.run_pure]
theorem run_neq_bool {t : TypeId} (hu : P.underlying t = some .bool) (u v : Bool) (w : World) : (binOp .neq t (.bool u) (.bool v)).run P w = .ok (.bool (!(u == v))) w := by
  simp only [binOp, Sem.run_bind, run_equal_bool hu, Result.andThen_ok, Sem.run_pure]
theorem eqGuard_bool (op : BinOp) (t : TypeId) (x y : Operand) (u v : Bool) (w : World) : (eqGuard op t x y (.bool u) (.bool v)).run P w = .ok () w := by
  unfold eqGuard; split <;> rfl
variable (dst : Option Tmp) (type : TypeId) (pos : String) (after : Array Edge) (guard : Option (Nat × Bool))
theorem opQ_move (x : Operand) {io : IOp} (hc : compOp P (.move x) = some io) (hf : Fits N e a) {K : Value → Prop} (h : opQ P io e w K) : Reads1 P ⟨dst, .move x, type, pos, after, guard⟩ a T K := by
  simp only [compOp] at hc
  cases hc
  exact ⟨_, withV_eval hf h, fun w' _ => rfl⟩
theorem opQ_assign (x : Operand) {io : IOp} (hc : compOp P (.assign x) = some io) (hf : Fits N e a) {K : Value → Prop} (h : opQ P io e w K) : Reads1 P ⟨dst, .assign x, type, pos, after, guard⟩ a T K := by
  simp only [compOp] at hc
  cases hc
  exact ⟨_, withV_eval hf h, fun w' _ => rfl⟩
theorem opQ_pick (c x y : Operand) {io : IOp} (hc : compOp P (.pick c x y) = some io) (hf : Fits N e a) {K : Value → Prop} (h : opQ P io e w K) : Reads1 P ⟨dst, .pick c x y, type, pos, after, guard⟩ a T K := by
  simp only [compOp] at hc
  cases hc
  obtain ⟨t, ht, h1, h2⟩ := withBool_eval hf h
  cases t with
  | true => exact ⟨_, withV_eval hf (h1 rfl), fun w' _ => by simp [execOp, ht, asBool]⟩
  | false => exact ⟨_, withV_eval hf (h2 rfl), fun w' _ => by simp [execOp, ht, asBool]⟩
theorem opQ_unOp (op : UnOp) (t : TypeId) (x : Operand) {io : IOp} (hc : compOp P (.unOp op t x) = some io) (hf : Fits N e a) {K : Value → Prop} (h : opQ P io e w K) : Reads1 P ⟨dst, .unOp op t x, type, pos, after, guard⟩ a T K := by
  simp only [compOp] at hc
  cases hc
  have h' := withV_eval hf h
  split at h'
  · rename_i k n hv; exact ⟨_, h', fun w' _ => by simp [execOp, hv, Op.unary, Op.intArith]⟩
  · rename_i k n hv; exact ⟨_, h', fun w' _ => by simp [execOp, hv, Op.unary, Op.intBits, bits]⟩
  · rename_i b hv; exact ⟨_, h', fun w' _ => by simp [execOp, hv, Op.unary]⟩
  · exact h'.elim
theorem run_bytesToString {s : ByteArray} {w w' : World} (hw : Ext w w') {p : Option Addr} {n : Nat} (c : Nat) (h : rdS w p n = some (strA s)) : (Conv.bytesToString (.slice p n c)).run P w' = .ok (.string s) w' := by
  unfold rdS at h
  split at h
  · have : s.data = #[] := by
      injection h with h
      have := congrArg Array.size h
      simp [strA] at this
      exact Array.eq_empty_of_size_eq_zero this.symm
    have hs : s = ByteArray.empty := by cases s; simp at this; rw [this]; rfl
    rw [hs]; rfl
  · rename_i b o
    unfold rdN at h
    split at h
    · rename_i c t z hb
      split at h
      · rename_i hle
        injection h with h
        have hl := run_loadCellsFrom (P := P) (ext_heap hw hb) n o 0 #[] (by omega)
        simp only [Nat.add_zero, Array.empty_append, h] at hl
        have hfold : ∀ (l : List UInt8) (acc : ByteArray), (forIn (l.map fun b => Value.int .u8 (b.toNat : Int)) acc (fun c r => match c with
              | Value.int .u8 n => pure (ForInStep.yield (r.push (UInt8.ofNat n.toNat)))
              | _ => do
                (stuck "bytesToString: byte expected" : Sem PUnit)
                pure (ForInStep.yield r) : Value → ByteArray → Sem (ForInStep ByteArray))).run P w' = .ok ⟨acc.data ++ l.toArray⟩ w' := by
          intro l
          induction l with
          | nil => intro acc; simp
          | cons b l ih =>
            intro acc
            simp only [List.map_cons, List.forIn_cons, Sem.run_bind, Sem.run_pure, Result.andThen_ok]
            rw [ih]
            simp [ByteArray.push]
        simp only [Conv.bytesToString, Sem.run_bind, loadCells, hl, Result.andThen_ok]
        have := hfold s.data.toList ByteArray.empty
        simp only [strA]
        rw [← Array.forIn_toList, Array.toList_map]
        have e : (⟨ByteArray.empty.data ++ s.data.toList.toArray⟩ : ByteArray) = s := by cases s; simp
        rw [e] at this
        exact congrArg (fun r : Result ByteArray => r.andThen fun a w' => (pure (Value.string a) : Sem Value).run P w') this
      · cases h
    · cases h
  · cases h
theorem opQ_convert (src d : TypeId) (x : Operand) {io : IOp} (hT : loads io = true → ∀ w', T w' → Ext w w') (hc : compOp P (.convert src d x) = some io) (hf : Fits N e a) {K : Value → Prop} (h : opQ P io e w K) : Reads1 P ⟨dst, .convert src d x, type, pos, after, guard⟩ a T K := by
  simp only [compOp] at hc
  split at hc
  · rename_i k' k hs hd
    cases hc
    obtain ⟨k', n, hx, h⟩ := withInt_eval hf h
    refine ⟨_, h, fun w' _ => ?_⟩
    simp [execOp, hx, convert, run_underlying hs, run_underlying hd, Conv.intToInt]
  · split at hc
    · cases hc; exact h.elim
    · cases hc
  · rename_i el hs hd
    split at hc
    · rename_i hel
      cases hc
      obtain ⟨p, n, c, hx, s, hr, h⟩ := withSl_eval hf h
      refine ⟨_, h, fun w' hw => ?_⟩
      simp [execOp, hx, convert, run_underlying hs, run_underlying hd, run_underlying hel, run_bytesToString (hT rfl _ hw) c hr]
    · cases hc
  · cases hc
theorem opQ_load (hT : ∀ w', T w' → Ext w w') (t : TypeId) (x : Operand) {io : IOp} (hc : compOp P (.load t x) = some io) (hf : Fits N e a) {K : Value → Prop} (h : opQ P io e w K) : Reads1 P ⟨dst, .load t x, type, pos, after, guard⟩ a T K := by
  simp only [compOp] at hc
  split at hc
  · rename_i ck hck
    cases hc
    obtain ⟨b, o, hx, h⟩ := withAddr_eval hf h
    obtain ⟨v, hr, hK⟩ := ldW_out h
    refine ⟨v, hK, fun w' hw => ?_⟩
    simp [execOp, hx, Instr.loadAt, Instr.sureAddr, loadVar, isAgg_of_ck hck, ext_rd (hT _ hw) hr]
  · rename_i hck
    cases hn : tyN P t with
    | none => rw [hn] at hc; cases hc
    | some n =>
      rw [hn] at hc
      cases hc
      obtain ⟨b, o, hx, cs, hr, hK⟩ := withAddr_eval hf h
      refine ⟨_, hK, fun w' hw => ?_⟩
      unfold rdN at hr
      split at hr
      · rename_i c ty z hb
        split at hr
        · rename_i hle
          injection hr with hr
          have := run_loadCellsFrom (P := P) (ext_heap (hT _ hw) hb) n o 0 #[] (by omega)
          simp only [Nat.add_zero, Array.empty_append] at this
          simp [execOp, hx, Instr.loadAt, Instr.sureAddr, loadVar, isAgg_of_n hn, sizeOf_of_n (tySize_of_n hn), loadCells, this, hr]
        · cases hr
      · cases hr
theorem opQ_nilCheck (x : Operand) {io : IOp} (hc : compOp P (.nilCheck x) = some io) (hf : Fits N e a) {K : Value → Prop} (h : opQ P io e w K) : Reads1 P ⟨dst, .nilCheck x, type, pos, after, guard⟩ a T K := by
  simp only [compOp] at hc
  cases hc
  have h' := withV_eval hf h
  split at h'
  · rename_i p hv; exact ⟨_, h', fun w' _ => by simp [execOp, hv]⟩
  · rename_i p hv; exact ⟨_, h', fun w' _ => by simp [execOp, hv]⟩
  · exact h'.elim
theorem opQ_fieldAddr (s : TypeId) (x : Operand) (f : Nat) {io : IOp} (hc : compOp P (.fieldAddr s x f) = some io) (hf : Fits N e a) {K : Value → Prop} (h : opQ P io e w K) : Reads1 P ⟨dst, .fieldAddr s x f, type, pos, after, guard⟩ a T K := by
  simp only [compOp] at hc
  split at hc
  · rename_i fs hs
    split at hc
    · rename_i fd hfd
      split at hc
      · rename_i n hn
        cases hc
        obtain ⟨b, o, hx, h⟩ := withAddr_eval hf h
        have hrun : ∀ w' : World, (execOp a.eval ⟨dst, .fieldAddr s x f, type, pos, after, guard⟩).run P w' = .ok (.value (.pointer (some ⟨b, o + fd.offset, none⟩))) w' := fun w' => by
          simp [execOp, hx, Instr.fieldAt, run_underlying hs, hfd, Instr.sureAddr, fieldPlace, sizeOf_of_n hn, add_plain]
        split at h
        · rename_i h0
          have := Nat.eq_of_beq_eq_true h0
          refine ⟨_, h, fun w' _ => ?_⟩
          rw [hrun, this, Nat.add_zero]
        · exact ⟨_, h, fun w' _ => hrun w'⟩
      · cases hc
    · cases hc
  · cases hc
theorem opQ_field (s : TypeId) (x : Operand) (f : Nat) {io : IOp} (hc : compOp P (.field s x f) = some io) (hf : Fits N e a) {K : Value → Prop} (h : opQ P io e w K) : Reads1 P ⟨dst, .field s x f, type, pos, after, guard⟩ a T K := by
  simp only [compOp] at hc
  split at hc
  · rename_i fs hs
    split at hc
    · rename_i fd hfd
      split at hc
      · rename_i ck hck
        cases hc
        obtain ⟨cs, hx, h⟩ := withAgg_eval hf h
        obtain ⟨v, hr, hK⟩ := ldW_out h
        exact ⟨v, hK, fun w' _ => by simp [execOp, hx, Instr.field, run_underlying hs, hfd, asAgg, part_ck hck hr]⟩
      · cases hn : tyN P fd.type with
        | none => rw [hn] at hc; cases hc
        | some n =>
          rw [hn] at hc
          cases hc
          obtain ⟨cs, hx, h⟩ := withAgg_eval hf h
          exact ⟨_, h, fun w' _ => by simp [execOp, hx, Instr.field, run_underlying hs, hfd, asAgg, part_n hn]⟩
    · cases hc
  · cases hc
theorem opQ_indexAddr (t : TypeId) (x i : Operand) {io : IOp} (hc : compOp P (.indexAddr t x i) = some io) (hf : Fits N e a) {K : Value → Prop} (h : opQ P io e w K) : Reads1 P ⟨dst, .indexAddr t x i, type, pos, after, guard⟩ a T K := by
  simp only [compOp] at hc
  split at hc
  · rename_i el hu
    cases hn : tySize P el with
    | none => rw [hn] at hc; cases hc
    | some n =>
      rw [hn] at hc
      cases hc
      obtain ⟨p, m, c, hx, h⟩ := withSl_eval hf h
      obtain ⟨k, j, hi, ⟨h0, h1⟩, b, o, hp, hK⟩ := withInt_eval hf h
      subst hp
      refine ⟨_, hK, fun w' _ => ?_⟩
      simp [execOp, hx, hi, Instr.indexAt, asIntOf, run_underlying hu, h0, h1, sizeOf_of_n hn, add_plain]
  · rename_i len el hu
    cases hn : tySize P el with
    | none => rw [hn] at hc; cases hc
    | some n =>
      rw [hn] at hc
      cases hc
      obtain ⟨b, o, hx, h⟩ := withAddr_eval hf h
      obtain ⟨k, j, hi, ⟨h0, h1⟩, hK⟩ := withInt_eval hf h
      refine ⟨_, hK, fun w' _ => ?_⟩
      simp [execOp, hx, hi, Instr.indexAt, asIntOf, run_underlying hu, h0, h1, sizeOf_of_n hn, add_plain, Instr.sureAddr]
  · cases hc
theorem opQ_index (t : TypeId) (x i : Operand) {io : IOp} (hc : compOp P (.index t x i) = some io) (hf : Fits N e a) {K : Value → Prop} (h : opQ P io e w K) : Reads1 P ⟨dst, .index t x i, type, pos, after, guard⟩ a T K := by
  simp only [compOp] at hc
  split at hc
  · rename_i hu
    cases hc
    obtain ⟨s, hx, h⟩ := withStr_eval hf h
    obtain ⟨k, j, hi, ⟨h0, h1⟩, hK⟩ := withInt_eval hf h
    refine ⟨_, hK, fun w' _ => ?_⟩
    have hlt : j.toNat < s.size := by omega
    have hlt' : j.toNat < s.data.size := hlt
    simp [execOp, hx, hi, Instr.index, asIntOf, run_underlying hu, h0, hlt, bAt, hlt', ByteArray.getElem_eq_getElem_data]
  · rename_i len el hu
    split at hc
    · rename_i ck hck
      split at hc
      · rename_i h1s
        cases hc
        obtain ⟨cs, hx, h⟩ := withAgg_eval hf h
        obtain ⟨k, j, hi, ⟨h0, h1⟩, h⟩ := withInt_eval hf h
        obtain ⟨v, hr, hK⟩ := ldW_out h
        refine ⟨v, hK, fun w' _ => ?_⟩
        simp [execOp, hx, hi, Instr.index, asIntOf, run_underlying hu, h0, h1, sizeOf_of_n h1s, part_ck hck hr]
      · cases hc
    · cases hn : tyN P el with
      | none => rw [hn] at hc; cases hc
      | some n =>
        rw [hn] at hc
        cases hc
        obtain ⟨cs, hx, h⟩ := withAgg_eval hf h
        obtain ⟨k, j, hi, ⟨h0, h1⟩, hK⟩ := withInt_eval hf h
        refine ⟨_, hK, fun w' _ => ?_⟩
        simp [execOp, hx, hi, Instr.index, asIntOf, run_underlying hu, h0, h1, sizeOf_of_n (tySize_of_n hn), part_n hn]
  · cases hc
theorem opQ_extract (x : Operand) (i : Nat) {io : IOp} (hc : compOp P (.extract x i) = some io) (hf : Fits N e a) {K : Value → Prop} (h : opQ P io e w K) : Reads1 P ⟨dst, .extract x i, type, pos, after, guard⟩ a T K := by
  simp only [compOp] at hc
  cases hc
  have h' := withV_eval hf h
  split at h'
  · rename_i vs hv
    split at h'
    · rename_i v hi
      refine ⟨v, h', fun w' _ => ?_⟩
      have : vs[i]? = some v := by simpa using hi
      simp [execOp, hv, Instr.extract, this]
    · exact h'.elim
  · exact h'.elim
theorem opQ_makeFunc (fn : Fn) (first caps : Array Operand) {io : IOp} (hc : compOp P (.makeFunc fn first caps) = some io) (hf : Fits N e a) {K : Value → Prop} (h : opQ P io e w K) : Reads1 P ⟨dst, .makeFunc fn first caps, type, pos, after, guard⟩ a T K := by
  simp only [compOp] at hc
  split at hc <;> cases hc
  rename_i f
  have h1 := withVs_eval hf h
  have h2 := withVs_eval hf h1
  refine ⟨_, h2, fun w' _ => ?_⟩
  simp [execOp, Instr.makeFunc, ← Array.toList_map]
theorem opQ_binOp (bop : BinOp) (t : TypeId) (x y : Operand) (yt : TypeId) {io : IOp} (hc : compOp P (.binOp bop t x y yt) = some io) (hf : Fits N e a) {K : Value → Prop} (h : opQ P io e w K) : Reads1 P ⟨dst, .binOp bop t x y yt, type, pos, after, guard⟩ a T K := by
  simp only [compOp] at hc
  split at hc
  · rename_i k n
    split at hc
    · rename_i h0
      cases hc
      obtain ⟨k', u, hx, h⟩ := withInt_eval hf h
      split at h
      · rename_i hle
        have hle := Nat.le_of_ble_eq_true hle
        refine ⟨_, h, fun w' _ => ?_⟩
        have hy : a.eval (.const (.int k n)) = .int k n := rfl
        have hm : min n.toNat k'.bits = n.toNat := by omega
        simp [execOp, hx, hy, eqGuard, binOp, Op.shift, show ¬ n < 0 by omega, hm]
      · exact h.elim
    · cases hc
  · rename_i k n
    split at hc
    · rename_i h0
      cases hc
      obtain ⟨k', u, hx, h⟩ := withInt_eval hf h
      split at h
      · rename_i hle
        have hle := Nat.le_of_ble_eq_true hle
        refine ⟨_, h, fun w' _ => ?_⟩
        have hy : a.eval (.const (.int k n)) = .int k n := rfl
        have hm : min n.toNat k'.bits = n.toNat := by omega
        have hp : (0 : Int) ≤ 2 ^ n.toNat := Int.pow_nonneg (by decide)
        simp [execOp, hx, hy, eqGuard, binOp, Op.shift, show ¬ n < 0 by omega, hm, Int.fdiv_eq_ediv_of_nonneg _ hp]
      · exact h.elim
    · cases hc
  · split at hc
    · have hu' : P.underlying t = some .bool := ‹_›
      cases hc
      obtain ⟨u, hx, h⟩ := withBool_eval hf h
      obtain ⟨v, hy, h⟩ := withBool_eval hf h
      refine ⟨_, h, fun w' _ => ?_⟩
      simp [execOp, hx, hy, eqGuard_bool, run_eql_bool hu', run_neq_bool hu']
    · have hu' : P.underlying t = some .bool := ‹_›
      cases hc
      obtain ⟨u, hx, h⟩ := withBool_eval hf h
      obtain ⟨v, hy, h⟩ := withBool_eval hf h
      refine ⟨_, h, fun w' _ => ?_⟩
      simp [execOp, hx, hy, eqGuard_bool, run_eql_bool hu', run_neq_bool hu']
    · cases hc
      have h1 := withV_eval hf h
      have h2 := withV_eval hf h1
      obtain ⟨r, hK, hr⟩ := binW_sound (P := P) (t := t) h2
      have hg := eqGuard_of_binW (P := P) (t := t) (x := x) (y := y) h2
      exact ⟨r, hK, fun w' _ => by simp [execOp, hg, hr]⟩
end
end Go.Sx
