/- Own layer of the proof: SxL. No conditions. -/
import Derived.Test.YtjklhofmchdaiaaDoorSxP
set_option linter.unusedVariables false
set_option linter.unusedSimpArgs false
namespace Go.Sx
open Go.RowKit
section
variable {P : Program} {N : Nat} {e : Env} {a : Act} {w : World} {T : World → Prop}
variable (dst : Option Tmp) (type : TypeId) (pos : String) (after : Array Edge) (guard : Option (Nat × Bool))

theorem args1 {xs : Array Operand} {x : Operand} (h : xs.toList = [x]) : xs = #[x] := by rw [← Array.toArray_toList (xs := xs), h]
theorem args2 {xs : Array Operand} {x y : Operand} (h : xs.toList = [x, y]) : xs = #[x, y] := by rw [← Array.toArray_toList (xs := xs), h]

theorem opQ_builtin (c : Call) {io : IOp} (hc : compOp P (.call c) = some io) (hnc : ∀ f l, io ≠ .call f l) (hT : loads io = true → ∀ w', T w' → Ext w w') (hf : Fits N e a) {K : Value → Prop} (h : opQ P io e w K) : Reads1 P ⟨dst, .call c, type, pos, after, guard⟩ a T K := by
  simp only [compOp, compCall] at hc
  obtain ⟨callee, args, ats⟩ := c
  cases callee with
  | invoke r m => cases hc
  | value g =>
    simp only at hc
    split at hc
    · rename_i f
      split at hc
      · rename_i hcal
        cases hc
        exact absurd rfl (hnc f _)
      · cases hc
    · cases hc
      exact h.elim
  | builtin b =>
    simp only at hc
    split at hc
    · rename_i x t hx ht
      have hx := args1 hx
      subst hx
      have ht : ats = #[t] := by rw [← Array.toArray_toList (xs := ats), ht]
      subst ht
      split at hc
      · rename_i hu
        cases hc
        obtain ⟨s, hx, h⟩ := withStr_eval hf h
        exact ⟨_, h, fun w' _ => by simp [execOp, resolve, invoke, builtin, Builtin.len_, hx, run_underlying hu, goInt]⟩
      · rename_i hu
        cases hc
        obtain ⟨p, n, c, hx, h⟩ := withSl_eval hf h
        exact ⟨_, h, fun w' _ => by simp [execOp, resolve, invoke, builtin, Builtin.len_, hx, run_underlying hu, goInt]⟩
      · rename_i hu
        cases hc
        have h' := withV_eval hf h
        split at h'
        · rename_i hv
          exact ⟨_, h', fun w' _ => by simp [execOp, resolve, invoke, builtin, Builtin.len_, hv, run_underlying hu, goInt]⟩
        · rename_i r hv
          obtain ⟨es, cl, hb, h'⟩ := h'
          refine ⟨_, h', fun w' hw => ?_⟩
          have hb' := ext_heap (hT rfl _ hw) hb
          simp [execOp, resolve, invoke, builtin, Builtin.len_, hv, run_underlying hu, goInt, getObj, Sem.run, hb']
        · exact h'.elim
      · rename_i n el hu
        cases hc
        refine ⟨_, h, fun w' _ => ?_⟩
        simp only [execOp, Sem.run_bind, resolve, Sem.run_pure, Result.andThen_ok, invoke, builtin, Builtin.len_]
        simp [run_underlying hu, goInt]
      · cases hc
    · rename_i x y _ hx
      have hx := args2 hx
      subst hx
      cases hc
      obtain ⟨k, u, hx, h⟩ := withInt_eval hf h
      obtain ⟨k', v, hy, h⟩ := withInt_eval hf h
      refine ⟨_, h, fun w' _ => ?_⟩
      simp [execOp, resolve, invoke, builtin, Builtin.min_, hx, hy, Builtin.min2]
    · rename_i x y _ hx
      have hx := args2 hx
      subst hx
      cases hc
      obtain ⟨k, u, hx, h⟩ := withInt_eval hf h
      obtain ⟨k', v, hy, h⟩ := withInt_eval hf h
      refine ⟨_, h, fun w' _ => ?_⟩
      simp [execOp, resolve, invoke, builtin, Builtin.max_, hx, hy, Builtin.max2]
    · split at hc
      · split at hc
        · split at hc
          · cases hc; exact h.elim
          · cases hc
        · cases hc
      · split at hc
        · split at hc
          · split at hc
            · cases hc; exact h.elim
            · cases hc
          · cases hc
        · cases hc
      · cases hc
    · cases hc
end
end Go.Sx
