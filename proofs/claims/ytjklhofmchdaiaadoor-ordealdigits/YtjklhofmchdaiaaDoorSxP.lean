/- Own layer of the proof: SxP. No conditions. -/
import Derived.Test.YtjklhofmchdaiaaDoorSxO
set_option linter.unusedVariables false
set_option linter.unusedSimpArgs false
namespace Go.Sx
open Go.RowKit
section
variable {P : Program} {N : Nat} {e : Env} {a : Act} {w : World} {T : World → Prop}

theorem getElem?_splice {c us : Array Value} {o : Nat} (h : o + us.size ≤ c.size) (j : Nat) : (splice c o us)[j]? = if o ≤ j ∧ j < o + us.size then us[j - o]? else c[j]? := by
  unfold splice
  have hm : min o c.size = o := by omega
  rw [Array.getElem?_append, Array.getElem?_append]
  simp only [Array.size_append, Array.size_extract, Array.getElem?_extract, hm, Nat.sub_zero, Nat.min_self, Nat.zero_add]
  by_cases h1 : j < o
  · have c1 : j < o + us.size := by omega
    have c2 : ¬ (o ≤ j ∧ j < o + us.size) := by omega
    rw [if_neg c2]
    simp only [h1, c1, if_true]
  · by_cases h2 : j < o + us.size
    · have c2 : o ≤ j ∧ j < o + us.size := by omega
      rw [if_pos c2]
      simp only [h1, h2, if_true, if_false]
    · have c2 : ¬ (o ≤ j ∧ j < o + us.size) := by omega
      rw [if_neg c2]
      simp only [h2, if_false]
      by_cases h3 : j < c.size
      · have c3 : j - (o + us.size) < c.size - (o + us.size) := by omega
        rw [if_pos c3]
        congr 1
        omega
      · have c3 : ¬ j - (o + us.size) < c.size - (o + us.size) := by omega
        rw [if_neg c3, Array.getElem?_eq_none (by omega)]
theorem size_splice {c us : Array Value} {o : Nat} (h : o + us.size ≤ c.size) : (splice c o us).size = c.size := by
  simp [splice]; omega

theorem foldl_zip (o : Nat) : ∀ (l : List Value) (k : Nat) (c : Array Value), o + k + l.length ≤ c.size →
    let r := (l.zipIdx k).foldl (fun (cs : Array Value) (x : Value × Nat) => cs.setIfInBounds (o + x.2) x.1) c
    r.size = c.size ∧ ∀ j, r[j]? = if o + k ≤ j ∧ j < o + k + l.length then l[j - (o + k)]? else c[j]?
  | [], k, c, h => ⟨rfl, fun j => by simp; omega⟩
  | v :: l, k, c, h => by
    simp only [List.zipIdx_cons, List.foldl_cons]
    obtain ⟨h1, h2⟩ := foldl_zip o l (k + 1) (c.setIfInBounds (o + k) v) (by simp at h ⊢; omega)
    refine ⟨by simpa using h1, fun j => ?_⟩
    rw [h2 j]
    simp only [List.length_cons] at h ⊢
    by_cases hj : j = o + k
    · subst hj
      rw [if_neg (by omega), if_pos (by omega)]
      simp [show o + k < c.size by omega]
    · by_cases hj2 : o + (k + 1) ≤ j ∧ j < o + (k + 1) + l.length
      · rw [if_pos hj2, if_pos (by omega)]
        rw [show j - (o + k) = (j - (o + (k + 1))) + 1 by omega, List.getElem?_cons_succ]
      · rw [if_neg hj2, if_neg (by omega)]
        rw [Array.getElem?_setIfInBounds_ne (by omega)]
theorem foldl_splice {c us : Array Value} {o : Nat} (h : o + us.size ≤ c.size) : us.zipIdx.foldl (fun (cs : Array Value) (x : Value × Nat) => cs.setIfInBounds (o + x.2) x.1) c = splice c o us := by
  have h' := foldl_zip o us.toList 0 c (by simpa using h)
  have e : us.zipIdx.foldl (fun (cs : Array Value) (x : Value × Nat) => cs.setIfInBounds (o + x.2) x.1) c = (us.toList.zipIdx 0).foldl (fun (cs : Array Value) (x : Value × Nat) => cs.setIfInBounds (o + x.2) x.1) c := by
    rw [← Array.foldl_toList]; simp
  rw [e]
  apply Array.ext_getElem?
  intro j
  rw [h'.2 j, getElem?_splice h]
  simp

theorem partK_out {v : Value} {n : Nat} {F : Prop} (h : partK v n F) : v.cells.size = n ∧ F := by
  unfold partK at h
  split at h
  · rename_i cs; exact h
  · rename_i hv
    split at h
    · rename_i hn
      have := Nat.eq_of_beq_eq_true hn
      subst this
      refine ⟨?_, h⟩
      cases v <;> first | rfl | (exact absurd rfl (hv _))
    · exact h.elim

/-- The parts as the model fills them in. -/
theorem fill_ok {z : Nat} {place : Nat → Option (Nat × Nat)} (hf : Fits N e a) : ∀ (parts : List (Nat × Operand)) (ps : List (Nat × Nat × Operand)) (F : List (Nat × Value) → Prop) (c : Array Value),
    partsOf z parts.toArray place = some ps → withParts e ps F → c.size = z →
    ∃ vs, F vs ∧ Instr.fill place c (parts.map fun (i, x) => (i, a.eval x)) = some (fillA c vs) := by
  intro parts
  induction parts with
  | nil =>
    intro ps F c hm h hc
    simp [partsOf] at hm
    subst hm
    exact ⟨[], h, rfl⟩
  | cons p r ih =>
    intro ps F c hm h hc
    obtain ⟨i, x⟩ := p
    simp only [partsOf, List.mapM_cons, Option.bind_eq_bind] at hm ih
    cases hp : place i with
    | none => simp [hp] at hm
    | some on =>
      obtain ⟨o, n⟩ := on
      simp only [hp, Option.bind_some] at hm
      split at hm
      · rename_i hle
        simp only [Option.bind_some] at hm
        cases hr : r.mapM (fun (i, x) => (place i).bind fun (o, n) => if o + n ≤ z then some (o, n, x) else none) with
        | none => rw [hr] at hm; simp at hm
        | some qs =>
          rw [hr] at hm
          simp at hm
          subst hm
          simp only [withParts] at h
          obtain ⟨hs, h⟩ := partK_out (withV_eval hf h)
          have hsz : (fillA c [(o, a.eval x)]).size = z := by
            simp only [fillA]
            split
            · rename_i cs hcs; rw [hcs] at hs; rw [size_splice (by simp [Value.cells] at hs; omega)]; exact hc
            · simpa using hc
          obtain ⟨vs, hF, hfill⟩ := ih qs _ (fillA c [(o, a.eval x)]) hr h hsz
          refine ⟨(o, a.eval x) :: vs, hF, ?_⟩
          simp only [List.map_cons, Instr.fill, hp]
          rw [if_neg (by simp [hs, hc]; omega), foldl_splice (by rw [hs, hc]; exact hle)]
          have e1 : splice c o (a.eval x).cells = fillA c [(o, a.eval x)] := by
            simp only [fillA]
            split
            · rename_i cs hcs; rw [hcs]; rfl
            · rename_i hno
              have hcells : (a.eval x).cells = #[a.eval x] := by
                cases hv : a.eval x <;> first | rfl | (exact absurd hv (hno _))
              rw [hcells]
              rw [hcells] at hs
              apply Array.ext_getElem?
              intro j
              rw [getElem?_splice (by simp at hs ⊢; omega)]
              simp only [Array.getElem?_setIfInBounds]
              by_cases hj : o = j
              · subst hj; simp; simp at hs; omega
              · rw [if_neg (by simp; omega), if_neg hj]
          rw [e1, hfill]
          rfl
      · simp at hm

variable (dst : Option Tmp) (type : TypeId) (pos : String) (after : Array Edge) (guard : Option (Nat × Bool))

theorem boundW_eval (hf : Fits N e a) {x : Option Operand} {d t : Nat} {K : Nat → Prop} (h : boundW x e d t K) :
    ∃ n, K n ∧ ∀ (code : BoundsCode) (w : World), (match x.map a.eval with | some v => Instr.sliceBound v t code | none => pure d : Sem Nat).run P w = .ok n w := by
  cases x with
  | none => exact ⟨d, h, fun _ _ => rfl⟩
  | some x =>
    obtain ⟨k, n, hx, ⟨h0, h1⟩, hK⟩ := withInt_eval hf h
    exact ⟨n.toNat, hK, fun code w => by simp [Instr.sliceBound, hx, asIntOf, h0, h1]⟩

theorem sliceBounds_run {isS : Bool} {ln cap : Nat} {lo hi : Option Value} {h l : Nat}
    (hh : ∀ (code : BoundsCode) (w : World), (match hi with | some v => Instr.sliceBound v cap code | none => pure ln : Sem Nat).run P w = .ok h w)
    (hl : ∀ (code : BoundsCode) (w : World), (match lo with | some v => Instr.sliceBound v h code | none => pure 0 : Sem Nat).run P w = .ok l w) (w : World) :
    (Instr.sliceBounds isS ln cap lo hi none).run P w = .ok (l, h, cap) w := by
  cases hi <;> cases lo <;> simp_all [Instr.sliceBounds]

theorem opQ_slice (t : TypeId) (x : Operand) (lo hi mx : Option Operand) {io : IOp} (hc : compOp P (.slice t x lo hi mx) = some io) (hf : Fits N e a) {K : Value → Prop} (h : opQ P io e w K) : Reads1 P ⟨dst, .slice t x lo hi mx, type, pos, after, guard⟩ a T K := by
  simp only [compOp] at hc
  split at hc
  · cases hc
  split at hc
  · rename_i hu
    cases hc
    obtain ⟨s, hx, h⟩ := withStr_eval hf h
    obtain ⟨n1, h, r1⟩ := boundW_eval (P := P) hf h
    obtain ⟨n2, h, r2⟩ := boundW_eval (P := P) hf h
    refine ⟨_, h, fun w' _ => ?_⟩
    simp [execOp, hx, Instr.sliceAt, run_underlying hu, Instr.slice, sliceBounds_run r1 r2]
  · rename_i el hu
    cases hn : tySize P el with
    | none => rw [hn] at hc; cases hc
    | some n =>
      rw [hn] at hc
      cases hc
      obtain ⟨p, m, c, hx, h⟩ := withSl_eval hf h
      obtain ⟨n1, h, r1⟩ := boundW_eval (P := P) hf h
      obtain ⟨n2, h, r2⟩ := boundW_eval (P := P) hf h
      refine ⟨_, h, fun w' _ => ?_⟩
      simp [execOp, hx, Instr.sliceAt, run_underlying hu, Instr.slice, sliceBounds_run r1 r2, sizeOf_of_n hn, slcP]
  · rename_i len el hu
    cases hn : tySize P el with
    | none => rw [hn] at hc; cases hc
    | some n =>
      rw [hn] at hc
      cases hc
      obtain ⟨b, o, hx, h⟩ := withAddr_eval hf h
      obtain ⟨n1, h, r1⟩ := boundW_eval (P := P) hf h
      obtain ⟨n2, h, r2⟩ := boundW_eval (P := P) hf h
      refine ⟨_, h, fun w' _ => ?_⟩
      simp only [execOp, hx, Instr.sliceAt, run_underlying hu, Sem.run_bind, Result.andThen_ok, Instr.sureAddr, Sem.run_pure, Option.map_none, sliceBounds_run r1 r2, sizeOf_of_n hn, slcP]
      split <;> simp_all
  · cases hc

theorem run_places (fs : Array Field) (hall : fs.toList.all (fun f => (tySize P f.type).isSome) = true) (w' : World) :
    (fs.mapM fun f => (do pure (f.offset, ← sizeOf f.type) : Sem (Nat × Nat))).run P w' = .ok (fs.map fun f => (f.offset, (tySize P f.type).getD 0)) w' := by
  have : ∀ l : List Field, l.all (fun f => (tySize P f.type).isSome) = true → ((l.mapM fun f => (do pure (f.offset, ← sizeOf f.type) : Sem (Nat × Nat)))).run P w' = .ok (l.map fun f => (f.offset, (tySize P f.type).getD 0)) w' := by
    intro l
    induction l with
    | nil => intro _; rfl
    | cons f r ih =>
      intro hl
      simp only [List.all_cons, Bool.and_eq_true] at hl
      obtain ⟨n, hn⟩ := Option.isSome_iff_exists.1 hl.1
      simp only [List.mapM_cons, Sem.run_bind, sizeOf_of_n hn, Result.andThen_ok, Sem.run_pure, ih hl.2, List.map_cons, hn, Option.getD_some]
  rw [Array.mapM_eq_mapM_toList, Sem.run_map, this fs.toList hall, Result.andThen_ok, ← Array.toList_map]
theorem opQ_build (t : TypeId) (parts : Array (Nat × Operand)) {io : IOp} (hc : compOp P (.build t parts) = some io) (hf : Fits N e a) {K : Value → Prop} (h : opQ P io e w K) : Reads1 P ⟨dst, .build t parts, type, pos, after, guard⟩ a T K := by
  simp only [compOp] at hc
  split at hc
  · rename_i i hi
    split at hc
    · rename_i z hz
      have hzero : ∀ w' : World, (zeroValue t).run P w' = .ok z w' := fun w' => by simp [zeroValue, typeInfo, hi, hz]
      split at hc
      · rename_i fs hu
        split at hc
        · rename_i hall
          cases hp : partsOf z.cells.size parts (fun i => (fs[i]?).bind fun f => (tySize P f.type).map fun n => (f.offset, n)) with
          | none => rw [hp] at hc; cases hc
          | some ps =>
            rw [hp] at hc
            cases hc
            obtain ⟨vs, hK, hfill⟩ := fill_ok hf parts.toList ps _ z.cells (by simpa using hp) h rfl
            refine ⟨_, hK, fun w' _ => ?_⟩
            have hplaces := run_places fs hall w'
            have hpl : (fun i => (fs.map fun (f : Field) => (f.offset, (tySize P f.type).getD 0))[i]?) = fun (i : Nat) => (fs[i]?).bind fun (f : Field) => (tySize P f.type).map fun n => (f.offset, n) := by
              funext i
              simp only [Array.getElem?_map]
              cases hfi : fs[i]? with
              | none => rfl
              | some f =>
                have hm : f ∈ fs.toList := Array.mem_toList_iff.2 (Array.mem_of_getElem? hfi)
                obtain ⟨n, hn⟩ := Option.isSome_iff_exists.1 (List.all_eq_true.1 hall f hm)
                simp [hn]
            simp only [execOp, Instr.build, Sem.run_bind, hzero, Result.andThen_ok, run_underlying hu, hplaces]
            simp only [hpl, Array.toList_map, hfill, Sem.run_pure, Result.andThen_ok]
        · cases hc
      · rename_i n el hu
        split at hc
        · rename_i sz hsz
          cases hp : partsOf z.cells.size parts (fun i => some (i * sz, sz)) with
          | none => rw [hp] at hc; cases hc
          | some ps =>
            rw [hp] at hc
            cases hc
            obtain ⟨vs, hK, hfill⟩ := fill_ok hf parts.toList ps _ z.cells (by simpa using hp) h rfl
            refine ⟨_, hK, fun w' _ => ?_⟩
            simp only [execOp, Instr.build, Sem.run_bind, hzero, Result.andThen_ok, run_underlying hu, sizeOf_of_n hsz]
            simp only [Array.toList_map, hfill, Sem.run_pure, Result.andThen_ok]
        · cases hc
      · cases hc
    · cases hc
  · cases hc
end
end Go.Sx
