/- Own layer of the proof: SxA. No conditions. -/
import Derived.Test.YtjklhofmchdaiaaDoorSxW
set_option linter.unusedVariables false
set_option linter.unusedSimpArgs false
namespace Go.Sx
open Go.RowKit
section
variable {P : Program} {N : Nat} {e : Env} {a : Act} {w : World}
variable (dst : Option Tmp) (type : TypeId) (pos : String) (after : Array Edge) (guard : Option (Nat × Bool))

theorem growBy_le : ∀ (r need c : Nat), c ≤ 2 * need + 192 → 0 < need → Builtin.growBy need r c ≤ 2 * need + 192
  | 0, need, c, h, _ => h
  | r + 1, need, c, h, hp => by
    simp only [Builtin.growBy]
    split
    · exact h
    · exact growBy_le r need _ (by omega) hp
theorem nextcap_le {need c : Nat} (h : c < need) : Builtin.nextslicecap need c ≤ 2 * need + 192 := by
  unfold Builtin.nextslicecap
  split
  · omega
  · split
    · omega
    · exact growBy_le 4 need c (by omega) (by omega)

theorem rdN_run {w : World} {b o n : Nat} {cs : Array Value} (h : rdN w b o n = some cs) : (loadCells ⟨b, o, none⟩ n).run P w = .ok cs w := by
  unfold rdN at h
  split at h
  · rename_i c t z hb
    split at h
    · injection h with h
      have := run_loadCellsFrom (P := P) hb n o 0 #[] (by omega)
      simp only [Nat.add_zero, Array.empty_append, h] at this
      exact this
    · cases h
  · cases h
theorem rdS_run {w : World} {p : Option Addr} {n m c size : Nat} {cs : Array Value} (h : rdS w p (n * size) = some cs) : (Builtin.firstCells size n (.slice p m c)).run P w = .ok cs w := by
  unfold rdS at h
  split at h
  · injection h with h; subst h; rfl
  · exact rdN_run h
  · cases h
theorem rdS_drew {w : World} {p : Option Addr} {n : Nat} : rdS w.drew p n = rdS w p n := rfl

theorem strA_run (s : ByteArray) (size : Nat) (w : World) : (Builtin.firstCells size s.size (.string s)).run P w = .ok (strA s) w := by
  simp [Builtin.firstCells, strA]

/-- 'append', as the model does it. -/
theorem append_run {sT xT ty el bytes size : Nat} {i : TypeInfo} {z : Value} {p : Option Addr} {n c m : Nat} {x : Value} {news : Array Value} {K : Value → World → Prop} {dx : TypeDesc}
    (hs : P.underlying sT = some (.slice el)) (hx : P.underlying xT = some dx) (hdx : ∀ k, dx ≠ .int k) (hi : P.info? el = some i) (hz : i.zero = some z) (hsz : i.size = size) (hby : i.bytes = bytes)
    (hlen : ∀ w : World, (Builtin.lenOf x).run P w = .ok m w) (hnews : ∀ w' : World, w'.heap = w.heap → (Builtin.firstCells size m x).run P w' = .ok news w')
    (h : appW el bytes size z.cells w p n c m news K) :
    ∃ v w', K v w' ∧ (Builtin.append_ #[sT, xT] ty #[.slice p n c, x]).run P w = .ok v w' := by
  have hszr : ∀ w' : World, (sizeOf el).run P w' = .ok size w' := fun w' => by simp [sizeOf, typeInfo, hi, hsz]
  have hti : ∀ w' : World, (typeInfo el).run P w' = .ok i w' := fun w' => by simp [typeInfo, hi]
  have hzero : ∀ w' : World, (zeroValue el).run P w' = .ok z w' := fun w' => by simp [zeroValue, typeInfo, hi, hz]
  have hno : (match dx with | .int _ => true | _ => false) = false := by
    cases dx <;> first | rfl | exact absurd rfl (hdx _)
  obtain ⟨h1, h2⟩ := h
  by_cases hle : n + m ≤ c
  · have h1 := h1 hle
    cases p with
    | none =>
      refine ⟨_, _, h1, ?_⟩
      simp only [Builtin.append_]
      simp [run_underlying hs, run_underlying hx, hszr, hno, hlen, hle, hnews w rfl]
    | some ad =>
      obtain ⟨b, o, sp⟩ := ad
      cases sp with
      | some s => exact h1.elim
      | none =>
        obtain ⟨hall, cs, t, hb, hfit, hK⟩ := h1
        refine ⟨_, _, hK, ?_⟩
        have hst := run_storeArr (P := P) hb hfit hall
        simp only [Builtin.append_]
        simp [run_underlying hs, run_underlying hx, hszr, hno, hlen, hle, hnews w rfl, add_plain, hst]
  · obtain ⟨⟨h3, h4⟩, olds, hol, hK⟩ := h2 (by omega)
    have hcap := nextcap_le (need := n + m) (c := c) (by omega)
    have hbig : ¬ (Builtin.nextslicecap (n + m) c * i.bytes > 2 ^ 48) := by
      rw [hby]
      have := Nat.mul_le_mul_right bytes (Nat.le_trans hcap (by omega : 2 * (n + m) + 192 ≤ 2 * (n + m) + 200))
      omega
    have hi64 : ¬ (((n + m : Nat) : Int) > IntKind.i64.max ∧ (False ∨ i.bytes = 0)) := by
      simp [IntKind.max, IntKind.signed, IntKind.bits]; omega
    refine ⟨_, _, hK ((Question.appendCap (n + m) c el).cut (w.tape w.drawn (.appendCap (n + m) c el))) (by simp [Question.cut]), ?_⟩
    have hn2 : (Builtin.firstCells size m x).run P w.drew = .ok news w.drew := hnews _ rfl
    have ho2 : (Builtin.firstCells size n (.slice p n c)).run P w.drew = .ok olds w.drew := rdS_run (by rw [rdS_drew]; exact hol)
    have hi64' : ¬ ((IntKind.i64.max < (n : Int) + (m : Int)) ∧ i.bytes = 0) := by
      simp [IntKind.max, IntKind.signed, IntKind.bits]; omega
    simp only [Builtin.append_]
    simp [run_underlying hs, run_underlying hx, hszr, hno, hlen, hle, hti, hi64', hbig, Question.forced, ho2, hn2, hzero, newRow, zerosA, Builtin.zeroCells]
    intro hbad
    omega

theorem opW_append (s x : Operand) (args : Array Operand) (ats : Array TypeId) {io : IOp} (hargs : args.toList = [s, x]) (hc : compOp P (.call ⟨.builtin .append, args, ats⟩) = some io) (hf : Fits N e a) {K : Value → World → Prop} (h : opW P io e w K) : Done P ⟨dst, .call ⟨.builtin .append, args, ats⟩, type, pos, after, guard⟩ a w K := by
  simp only [compOp, compCall, hargs] at hc
  have hx := args2 hargs
  subst hx
  split at hc
  all_goals try (rename_i heq _; cases heq; done)
  all_goals try (rename_i heq _ _; cases heq; done)
  · rename_i s' x' t u hb hl ht
    injection hl with e1 e2
    injection e2 with e2 _
    subst e1; subst e2
    have ht : ats = #[t, u] := by rw [← Array.toArray_toList (xs := ats), ht]
    subst ht
    split at hc
    · rename_i el xe hs hx
      split at hc
      · rename_i i hi
        split at hc
        · rename_i z hz
          cases hc
          obtain ⟨p, n, c, hsv, h⟩ := withSl_eval hf h
          obtain ⟨q, m, c', hxv, news, hnews, h⟩ := withSl_eval hf h
          obtain ⟨v, w', hK, hr⟩ := append_run (x := .slice q m c') (ty := type) hs hx (by simp) hi hz rfl rfl (fun _ => rfl)
            (fun w' hw => rdS_run (by rw [← hnews]; simp only [rdS, rdN, hw])) h
          exact ⟨v, w', hK, .inl (by simp [execOp, resolve, invoke, builtin, hsv, hxv, hr])⟩
        · cases hc
      · cases hc
    · rename_i el hs hx
      split at hc
      · rename_i i hi
        split at hc
        · rename_i hh
          split at hc
          · rename_i hz
            cases hc
            obtain ⟨p, n, c, hsv, h⟩ := withSl_eval hf h
            obtain ⟨st, hxv, h⟩ := withStr_eval hf h
            obtain ⟨v, w', hK, hr⟩ := append_run (x := .string st) (ty := type) hs hx (by simp) hi hz hh.1 hh.2 (fun _ => rfl)
              (fun w' hw => strA_run st 1 w') h
            exact ⟨v, w', hK, .inl (by simp [execOp, resolve, invoke, builtin, hsv, hxv, hr])⟩
          · cases hc
        · cases hc
      · cases hc
    · cases hc
  · cases hc

theorem opW_cvBytes (src d el : TypeId) (x : Operand) (hs : P.underlying src = some .string) (hd : P.underlying d = some (.slice el)) (hel : P.underlying el = some (.int .u8)) (hf : Fits N e a) {K : Value → World → Prop} (h : opW P (.cvBytes el x) e w K) : Done P ⟨dst, .convert src d x, type, pos, after, guard⟩ a w K := by
  obtain ⟨s, hx, h⟩ := withStr_eval hf h
  refine ⟨_, _, h ((Question.appendCap s.size 0 el).cut (w.tape w.drawn (.appendCap s.size 0 el))) (by simp [Question.cut]), .inl ?_⟩
  simp only [execOp, hx, convert, Sem.run_bind, run_underlying hs, run_underlying hd, run_underlying hel, Result.andThen_ok, Conv.stringToBytes, run_choose, Question.forced, newRow, run_newObj, Sem.run_pure, markStringish, run_shape]
  simp only [Bool.false_eq_true, if_false, Result.andThen_ok, World.shape?]
  simp [World.freeze, World.alloc, World.drew, strA, Question.cut, -World.alloc_eq, -World.drew_eq]
  apply Array.ext_getElem?
  intro i
  rw [Array.getElem?_modify, Array.getElem?_push, Array.getElem?_push]
  by_cases hi : w.heap.size = i
  · subst hi; simp
  · simp [hi, Ne.symm hi]

def quiet : IOp → Bool
  | .st .. | .stN .. | .box .. | .alloc .. | .buildSl .. | .mkSl .. | .mkMap | .app .. | .appS .. | .cvBytes .. | .call .. | .callV .. | .raw _ => false
  | _ => true
theorem opW_quiet {io : IOp} (hq : quiet io = true) {K : Value → World → Prop} (h : opW P io e w K) : opQ P io e w fun v => K v w := by
  cases io <;> first | exact h | (simp [quiet] at hq)
theorem Reads1.done {o : Oper} {K : Value → World → Prop} (h : Reads1 P o a (Ext w) fun v => K v w) : Done P o a w K :=
  let ⟨v, hK, hy⟩ := h
  ⟨v, w, hK, .inl (hy w (Below.refl _ _))⟩

theorem reads_of_quiet {T : World → Prop} {op : Op} {io : IOp} (hT : loads io = true → ∀ w', T w' → Ext w w') (hc : compOp P op = some io) (hq : quiet io = true) (hf : Fits N e a) {K : Value → Prop} (h : opQ P io e w K) :
    Reads1 P ⟨dst, op, type, pos, after, guard⟩ a T K := by
  cases op
  case move => exact opQ_move _ _ _ _ _ _ hc hf h
  case assign => exact opQ_assign _ _ _ _ _ _ hc hf h
  case pick => exact opQ_pick _ _ _ _ _ _ _ _ hc hf h
  case unOp => exact opQ_unOp _ _ _ _ _ _ _ _ hc hf h
  case convert => exact opQ_convert _ _ _ _ _ _ _ _ hT hc hf h
  case load t x =>
    refine opQ_load _ _ _ _ _ (hT ?_) _ _ hc hf h
    simp only [compOp] at hc
    split at hc
    · cases hc; rfl
    · obtain ⟨_, _, rfl⟩ := Option.map_eq_some_iff.1 hc; rfl
  case nilCheck => exact opQ_nilCheck _ _ _ _ _ _ hc hf h
  case fieldAddr => exact opQ_fieldAddr _ _ _ _ _ _ _ _ hc hf h
  case field => exact opQ_field _ _ _ _ _ _ _ _ hc hf h
  case indexAddr => exact opQ_indexAddr _ _ _ _ _ _ _ _ hc hf h
  case index => exact opQ_index _ _ _ _ _ _ _ _ hc hf h
  case extract => exact opQ_extract _ _ _ _ _ _ _ hc hf h
  case makeFunc => exact opQ_makeFunc _ _ _ _ _ _ _ _ hc hf h
  case binOp => exact opQ_binOp _ _ _ _ _ _ _ _ _ _ hc hf h
  case slice => exact opQ_slice _ _ _ _ _ _ _ _ _ _ hc hf h
  case build => exact opQ_build _ _ _ _ _ _ _ hc hf h
  case call => exact opQ_builtin _ _ _ _ _ _ hc (fun f l he => by subst he; simp [quiet] at hq) hT hf h
  all_goals (simp only [compOp] at hc; try (repeat' split at hc))
  all_goals (try (cases hc; done))
  all_goals (first | (cases hc; simp [quiet] at hq; done) | skip)
  all_goals (obtain ⟨_, _, rfl⟩ := Option.map_eq_some_iff.1 hc; simp [quiet] at hq)

theorem done_of_loud {op : Op} {io : IOp} (hc : compOp P op = some io) (hq : quiet io = false) (hnc : ∀ c, op ≠ .call c) (hf : Fits N e a) {K : Value → World → Prop} (h : opW P io e w K) :
    Done P ⟨dst, op, type, pos, after, guard⟩ a w K := by
  cases op
  case store => exact opW_store _ _ _ _ _ _ _ _ hc hf h
  case box => exact opW_box _ _ _ _ _ _ _ hc hf h
  case alloc => exact opW_alloc _ _ _ _ _ _ hc hf h
  case buildSlice => exact opW_buildSlice _ _ _ _ _ _ _ _ hc hf h
  case makeMap => exact opW_makeMap _ _ _ _ _ _ _ hc hf h
  case makeSlice => exact opW_makeSlice _ _ _ _ _ _ _ _ hc hf h
  case call c => exact absurd rfl (hnc c)
  case convert src d x =>
    simp only [compOp] at hc
    split at hc
    · cases hc; simp [quiet] at hq
    · rename_i el hs hd
      split at hc
      · rename_i hel
        cases hc
        exact opW_cvBytes _ _ _ _ _ _ _ _ _ hs hd hel hf h
      · cases hc
    · split at hc
      · cases hc; simp [quiet] at hq
      · cases hc
    · cases hc
  all_goals (simp only [compOp] at hc; try (repeat' split at hc))
  all_goals (first | (cases hc; done) | (cases hc; simp [quiet] at hq; done) | skip)
  all_goals (obtain ⟨_, _, rfl⟩ := Option.map_eq_some_iff.1 hc; simp [quiet] at hq)

theorem Done.wp {o : Oper} {K : Value → World → Prop} (h : Done P o a w K) (Q : Exit → Act → World → Prop) : o.wp P a w (fun a' w' => ∃ v, a' = a.put o.dst v ∧ K v w') Q := by
  obtain ⟨v, w', hK, h | ⟨rfl, h⟩⟩ := h
  · unfold Oper.wp; rw [h]; exact ⟨v, rfl, hK⟩
  · unfold Oper.wp; rw [h]; exact ⟨undef, rfl, hK⟩
theorem wp_of_ret {o : Oper} {f : FuncId} {vs : Array Value} {K : Value → World → Prop} (hr : (execOp a.eval o).run P w = .ok (.enter f vs) w) (h : Ret P f vs w K) (Q : Exit → Act → World → Prop) :
    o.wp P a w (fun a' w' => ∃ v, a' = a.put o.dst v ∧ K v w') Q := by
  unfold Oper.wp
  rw [hr]
  exact h.out.mono fun e w' ⟨v, he, hv⟩ => by subst he; exact ⟨v, rfl, hv⟩

theorem op_wp (op : Op) {io : IOp} (hc : compOp P op = some io) (hf : Fits N e a) {K : Value → World → Prop} (h : opW P io e w K) (Q : Exit → Act → World → Prop) :
    (⟨dst, op, type, pos, after, guard⟩ : Oper).wp P a w (fun a' w' => ∃ v, a' = a.put dst v ∧ K v w') Q := by
  by_cases hq : quiet io = true
  · exact (reads_of_quiet (T := Ext w) dst type pos after guard (fun _ _ h => h) hc hq hf (opW_quiet hq h)).done.wp Q
  · by_cases hnc : ∀ c, op ≠ .call c
    · exact (done_of_loud dst type pos after guard hc (by simpa using hq) hnc hf h).wp Q
    · obtain ⟨c, rfl⟩ : ∃ c, op = .call c := Classical.byContradiction fun h => hnc fun c hc => h ⟨c, hc⟩
      obtain ⟨callee, args, ats⟩ := c
      cases callee with
      | invoke r m => cases hc
      | builtin b =>
        have hc' := hc
        simp only [compOp, compCall] at hc
        split at hc
        · split at hc <;> first | (cases hc; done) | (cases hc; simp [quiet] at hq)
        · cases hc; simp [quiet] at hq
        · cases hc; simp [quiet] at hq
        · rename_i hargs _
          exact (opW_append _ _ _ _ _ _ _ _ _ hargs hc' hf h).wp Q
        · cases hc
      | value g =>
        simp only [compOp, compCall] at hc
        split at hc
        · rename_i f
          split at hc
          · rename_i hcal
            cases hc
            have hr := withVs_eval hf h
            refine wp_of_ret ?_ hr Q
            simp only [execOp, Sem.run_bind, resolve, Act.eval, Deferred.ofValue, Sem.run_pure, Result.andThen_ok, invoke, callable_run hcal]
            simp [← Array.toList_map]
          · cases hc
        · rename_i hno
          cases hc
          have hg := withV_eval hf h
          split at hg
          · rename_i f first caps hv
            have hr := withVs_eval hf hg
            obtain ⟨hcal, hr⟩ := hr
            refine wp_of_ret ?_ hr Q
            simp only [execOp, Sem.run_bind, resolve, hv, Deferred.ofValue, Sem.run_pure, Result.andThen_ok, invoke, callable_run hcal]
            simp [← Array.toList_map]
          · exact hg.elim
end
end Go.Sx
