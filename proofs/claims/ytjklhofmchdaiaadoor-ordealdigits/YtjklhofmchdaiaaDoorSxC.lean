/- Own layer of the proof: SxC. No conditions. -/
import Derived.Test.YtjklhofmchdaiaaDoorSxA
set_option linter.unusedVariables false
set_option linter.unusedSimpArgs false
namespace Go.Sx
open Go.RowKit

/-! ### the compiler, of code -/
/-- Of a region's operations: for what each waits; what it writes; at what it looks; which only read; which load. -/
structure Tab where
  ns : List Nat
  ds : List Nat
  ls : List Nat
  qm : Nat
  lm : Nat
  deriving Inhabited
structure Hint where
  keep : List Nat
  /-- of a region whose order is open: how it is walked -/
  dt : DT := .nil
  tab : Tab := default

def dstOk (N : Nat) (d : Option Tmp) : Bool := match d with | some d => decide (d < N) | none => true
def boolOf : Value → Option Bool | .bool b => some b | _ => none

def compOper (P : Program) (N : Nat) (ops : Array Oper) (o : Oper) : Option IOper :=
  match compOp P o.op with
  | some io =>
    if dstOk N o.dst = true then
      match o.guard with
      | none => some ⟨o.dst, io, none⟩
      | some (j, want) => match (ops[j]?).bind (·.dst) with
        | some t => some ⟨o.dst, io, some (t, want)⟩
        | none => none
    else none
  | none => none

section
variable {P : Program} {N : Nat} {ops : Array Oper}

def compList (P : Program) (N : Nat) (ops : Array Oper) : List Oper → Option (List IOper)
  | [] => some []
  | o :: r => match compOper P N ops o, compList P N ops r with
    | some io, some l => some (io :: l)
    | _, _ => none

/-- What the compiled operation says of the machine's. -/
theorem compOper_spec {o : Oper} {io : IOper} (h : compOper P N ops o = some io) :
    compOp P o.op = some io.op ∧ io.dst = o.dst ∧ (∀ i, o.dst = some i → i < N) ∧
    ((o.guard = none ∧ io.guard = none) ∨ (∃ j want t, o.guard = some (j, want) ∧ (ops[j]?).bind (·.dst) = some t ∧ io.guard = some (t, want))) := by
  unfold compOper at h
  split at h
  · rename_i iop hop
    split at h
    · rename_i hd
      have hd' : ∀ i, o.dst = some i → i < N := fun i hi => by rw [hi] at hd; simpa [dstOk] using hd
      split at h
      · rename_i hg
        injection h with h
        subst h
        exact ⟨hop, rfl, hd', .inl ⟨hg, rfl⟩⟩
      · rename_i j want hg
        split at h
        · rename_i t ht
          injection h with h
          subst h
          exact ⟨hop, rfl, hd', .inr ⟨j, want, t, hg, ht, rfl⟩⟩
        · cases h
    · cases h
  · cases h

theorem yielded_of_find {e : Env} {a : Act} (hf : Fits N e a) {j t : Nat} (ht : (ops[j]?).bind (·.dst) = some t) {v : Value} (hv : find e t = some v) :
    yielded ops a.tmps j = boolOf v := by
  unfold yielded
  rw [ht]
  have := hf.2.2 t v hv
  simp only [Option.bind_some, this]
  cases v <;> rfl

theorem opsW_sound (Q : Exit → Act → World → Prop) : ∀ (l : List Oper) (il : List IOper) (e : Env) (a : Act) (w : World) (K : Env → World → Prop), compList P N ops l = some il → Fits N e a → opsW P il e w K →
    (∀ e a w, Fits N e a → K e w → Q .normal a w) → wpList P ops Q l a w
  | [], il, e, a, w, K, hc, hf, h, hQ => by
    simp only [compList] at hc
    injection hc with hc
    subst hc
    exact hQ e a w hf h
  | o :: l, il, e, a, w, K, hc, hf, h, hQ => by
    simp only [compList] at hc
    split at hc
    · rename_i io il' hio hil
      injection hc with hc
      subst hc
      obtain ⟨hop, hdst, hdN, hg⟩ := compOper_spec hio
      have run : ∀ (K' : Value → World → Prop), opW P io.op e w K' → (∀ v w', K' v w' → wpList P ops Q l (a.put o.dst v) w') → o.wp P a w (wpList P ops Q l) Q := fun K' hK' hh => by
        refine Oper.wp_mono ?_ (op_wp o.dst o.type o.pos o.after o.guard o.op hop hf hK' Q)
        rintro a' w' ⟨v, rfl, hv⟩
        exact hh v w' hv
      have step : ∀ v w', opsW P il' (put e io.dst v) w' K → wpList P ops Q l (a.put o.dst v) w' := fun v w' h' => by
        rw [hdst] at h'
        exact opsW_sound Q l il' _ _ w' K hil (hf.put hdN v) h' hQ
      unfold wpList
      simp only [opsW] at h
      rcases hg with ⟨hg, hig⟩ | ⟨j, want, t, hg, ht, hig⟩
      · rw [hig] at h
        rw [if_pos (by simp [Region.wanted, hg])]
        exact .inl (run _ h step)
      · rw [hig] at h
        dsimp only at h
        split at h
        · rename_i b hb
          have hy := yielded_of_find (ops := ops) hf ht hb
          by_cases hbw : b = want
          · rw [if_pos (by simp [Region.wanted, hg, hy, hbw, boolOf])]
            exact .inl (run _ (h.1 hbw) step)
          · rw [if_neg (by simp [Region.wanted, hg, hy, hbw, boolOf])]
            exact step _ _ (h.2 hbw)
        · rename_i v hno hv
          have hy := yielded_of_find (ops := ops) hf ht hv
          have hy' : yielded ops a.tmps j = none := by
            rw [hy]
            cases v <;> first | rfl | (rename_i b; exact absurd rfl (hno b))
          rw [if_neg (by simp [Region.wanted, hg, hy'])]
          exact step _ _ h
        · exact h.elim
    · cases hc
end
end Go.Sx
