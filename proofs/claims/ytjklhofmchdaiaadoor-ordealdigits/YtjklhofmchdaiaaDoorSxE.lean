/- Own layer of the proof: SxE. No conditions. -/
import Derived.Test.YtjklhofmchdaiaaDoorSxD
set_option linter.unusedVariables false
set_option linter.unusedSimpArgs false
namespace Go.Sx
open Go.RowKit

def comp (P : Program) (N : Nat) : Code → List Hint → Option (ICode × List Hint)
  | .skip, hs => some (.skip, hs)
  | .region _ ops draw, h :: hs => match draw with
    | false => (compList P N ops ops.toList).map fun l => (.reg l h.keep, hs)
    | true => match compList P N ops ops.toList with
      | some l => if (P.follows .mixedOrders && treeOk ops l h.tab h.dt) = true then (mkW l h.dt).map fun dw => (.regD dw h.keep, hs) else none
      | none => none
  | .seq x y, hs => match comp P N x hs with
    | some (ix, hs) => match comp P N y hs with
      | some (iy, hs) => some (.seq ix iy, hs)
      | none => none
    | none => none
  | .cond c x y, hx :: hy :: hs => match comp P N x hs with
    | some (ix, hs) => match comp P N y hs with
      | some (iy, hs) => some (.cond c hx.keep hy.keep ix iy, hs)
      | none => none
    | none => none
  | .block id x, hs => match comp P N x hs with
    | some (ix, hs) => some (.block id ix, hs)
    | none => none
  | .loop x, hs => match comp P N x hs with
    | some (ix, hs) => some (.loop ix, hs)
    | none => none
  | .exit id, hs => some (.exit id, hs)
  | .ret, hs => some (.ret, hs)
  | _, _ => none

def lift (N : Nat) (Q : IExit → Env → World → Prop) : Exit → Act → World → Prop
  | .normal, a, w => ∃ e, Fits N e a ∧ Q .normal e w
  | .exit id, a, w => ∃ e, Fits N e a ∧ Q (.exit id) e w
  | .ret, a, w => ∃ e, Fits N e a ∧ Q .ret e w
  | _, _, _ => False

theorem exists_least (p : Nat → Prop) (h : ∃ n, p n) : ∃ n, p n ∧ ∀ m, p m → n ≤ m := by
  obtain ⟨n, hn⟩ := h
  induction n using Nat.strongRecOn with
  | _ n ih =>
    by_cases hm : ∃ m, m < n ∧ p m
    · obtain ⟨m, hlt, hp⟩ := hm
      exact ih m hlt hp
    · exact ⟨n, hn, fun m hp => Nat.le_of_not_lt fun hlt => hm ⟨m, hlt, hp⟩⟩
noncomputable def least (p : Nat → Prop) : Nat := by
  classical
  exact if h : ∃ n, p n then Classical.choose (exists_least p h) else 0
theorem least_spec {p : Nat → Prop} (h : ∃ n, p n) : p (least p) ∧ ∀ m, p m → least p ≤ m := by
  unfold least
  rw [dif_pos h]
  exact Classical.choose_spec (exists_least p h)

section
variable {P : Program} {N : Nat}
theorem icW_sound : ∀ (c : Code) (ic : ICode) (hs hs' : List Hint) (e : Env) (a : Act) (w : World) (Q : IExit → Env → World → Prop),
    comp P N c hs = some (ic, hs') → Fits N e a → icW P ic e w Q → c.wp P (lift N Q) a w := by
  intro c
  induction c with
  | skip =>
    intro ic hs hs' e a w Q hc hf h
    simp only [comp] at hc
    cases hc
    exact wp_skip ⟨e, hf, h⟩
  | region id ops draw =>
    intro ic hs hs' e a w Q hc hf h
    cases hs with
    | nil => simp only [comp] at hc; cases hc
    | cons hh hs =>
      simp only [comp] at hc
      cases draw with
      | false =>
        dsimp only at hc
        cases hl : compList P N ops ops.toList with
        | none => rw [hl] at hc; cases hc
        | some l =>
          rw [hl] at hc
          cases hc
          exact wp_region_list (opsW_sound (lift N Q) ops.toList l e a w _ hl hf h fun e a w hf hK => by
            obtain ⟨e', hQ, hf'⟩ := keepK_fits hf hK
            exact ⟨e', hf', hQ⟩)
      | true =>
        dsimp only at hc
        split at hc
        · rename_i l hl
          split at hc
          · rename_i hok
            obtain ⟨dw, hdw, hc⟩ := Option.map_eq_some_iff.1 hc
            cases hc
            simp only [Bool.and_eq_true] at hok
            obtain ⟨hm, hok⟩ := hok
            unfold treeOk at hok
            simp only [Bool.and_eq_true] at hok
            obtain ⟨⟨⟨⟨hsel, htab⟩, heven⟩, hinb⟩, hgo⟩ := hok
            have key := (opsD_sound (Q := lift N Q) (fun c a w h => h) hsel l hl hh.tab (tabOk_spec htab) (keptIn hh.dt) w.drew _ (fun e a w hf hK => by
                obtain ⟨e', hQ, hf'⟩ := keepK_fits hf hK
                exact ⟨e', hf', hQ⟩) hh.dt dw (Array.replicate ops.size false) 0 true true ops.size e a w.drew hdw ⟨by simp, fun k hk => by simp [hk]⟩ hgo hinb heven hf (fun _ => Below.refl _ _) h).1 rfl
            exact wp_region_any hm (anyE_any _ _ _ _ key)
          · cases hc
        · cases hc
  | seq x y ihx ihy =>
    intro ic hs hs' e a w Q hc hf h
    simp only [comp] at hc
    split at hc
    · rename_i ix hs1 hx
      split at hc
      · rename_i iy hs2 hy
        cases hc
        refine wp_seq (wp_mono (ihx ix hs hs1 e a w _ hx hf h) ?_)
        intro x a' w' hq
        cases x with
        | normal => obtain ⟨e', hf', hq⟩ := hq; exact ihy iy hs1 _ e' a' w' Q hy hf' hq
        | exit id => exact hq
        | ret => exact hq
        | goto l => exact hq.elim
        | panic c => exact hq.elim
        | outgrown => exact hq.elim
      · cases hc
    · cases hc
  | cond c x y ihx ihy =>
    intro ic hs hs' e a w Q hc hf h
    match hs with
    | [] => simp only [comp] at hc; cases hc
    | [_] => simp only [comp] at hc; cases hc
    | kx :: ky :: hs =>
      simp only [comp] at hc
      split at hc
      · rename_i ix hs1 hx
        split at hc
        · rename_i iy hs2 hy
          cases hc
          obtain ⟨t, ht, h1, h2⟩ := withBool_eval hf h
          refine wp_cond_split ht (fun h => ?_) (fun h => ?_)
          · obtain ⟨e', h1, hf'⟩ := keepK_fits hf (h1 h)
            exact ihx ix hs hs1 e' a w Q hx hf' h1
          · obtain ⟨e', h2, hf'⟩ := keepK_fits hf (h2 h)
            exact ihy iy hs1 _ e' a w Q hy hf' h2
        · cases hc
      · cases hc
  | block id x ih =>
    intro ic hs hs' e a w Q hc hf h
    simp only [comp] at hc
    split at hc
    · rename_i ix hs1 hx
      cases hc
      refine wp_block (wp_mono (ih ix hs _ e a w _ hx hf h) ?_)
      intro x a' w' hq
      cases x with
      | normal => exact hq
      | exit i =>
        obtain ⟨e', hf', hq⟩ := hq
        simp only [Exit.inBlock]
        simp only [blockW] at hq
        split at hq
        · rename_i hb
          rw [if_pos (Nat.eq_of_beq_eq_true hb)]
          exact ⟨e', hf', hq⟩
        · rename_i hb
          rw [if_neg (fun he => by subst he; rw [Nat.beq_refl] at hb; cases hb)]
          exact ⟨e', hf', hq⟩
      | ret => exact hq
      | goto l => exact hq.elim
      | panic c => exact hq.elim
      | outgrown => exact hq.elim
    · cases hc
  | loop x ih =>
    intro ic hs hs' e a w Q hc hf h
    simp only [comp] at hc
    split at hc
    · rename_i ix hs1 hx
      cases hc
      obtain ⟨I, μ, h0, hround⟩ := h
      refine wp_loop (fun a w => ∃ e, Fits N e a ∧ I e w) (fun a w => least fun n => ∃ e, Fits N e a ∧ I e w ∧ μ e w = n) ⟨e, hf, h0⟩ ?_
      rintro a w ⟨e, hf, hI⟩
      obtain ⟨⟨e1, hf1, hI1, hm1⟩, hleast⟩ := least_spec (p := fun n => ∃ e, Fits N e a ∧ I e w ∧ μ e w = n) ⟨_, e, hf, hI, rfl⟩
      refine wp_mono (ih ix hs _ e1 a w _ hx hf1 (hround e1 w hI1)) ?_
      intro x a' w' hq
      cases x with
      | normal =>
        obtain ⟨e', hf', hI', hlt⟩ := hq
        refine ⟨⟨e', hf', hI'⟩, ?_⟩
        have := (least_spec (p := fun n => ∃ e, Fits N e a' ∧ I e w' ∧ μ e w' = n) ⟨_, e', hf', hI', rfl⟩).2 _ ⟨e', hf', hI', rfl⟩
        omega
      | exit i => exact hq
      | ret => exact hq
      | goto l => exact hq.elim
      | panic c => exact hq.elim
      | outgrown => exact hq.elim
    · cases hc
  | exit id =>
    intro ic hs hs' e a w Q hc hf h
    simp only [comp] at hc
    cases hc
    exact wp_exit ⟨e, hf, h⟩
  | ret =>
    intro ic hs hs' e a w Q hc hf h
    simp only [comp] at hc
    cases hc
    exact wp_ret ⟨e, hf, h⟩
  | _ => intro ic hs hs' e a w Q hc; simp only [comp] at hc; cases hc

/-! ### a call -/
def argEnv : List Value → Nat → Env
  | [], _ => []
  | v :: r, i => (i, v) :: argEnv r (i + 1)
def compRes (P : Program) : ResultVar → Option IOp
  | .tmp t => some (.mv (.tmp t))
  | .cell x t => match tyCK P t with
    | some ck => some (.ld ck (.tmp x))
    | none => (tyN P t).map fun n => .ldN n (.tmp x)
def resW (P : Program) : List IOp → Env → World → (List Value → Prop) → Prop
  | [], _, _, F => F []
  | o :: r, e, w, F => opQ P o e w fun v => resW P r e w fun vs => F (v :: vs)
def oneOr : List Value → Value
  | [v] => v
  | vs => .tuple vs.toArray
def compRess (P : Program) : List ResultVar → Option (List IOp)
  | [] => some []
  | x :: r => match compRes P x, compRess P r with
    | some o, some l => some (o :: l)
    | _, _ => none

def resSem (a : Act) : ResultVar → Sem Value
  | .tmp t => pure (a.tmps.getD t undef)
  | .cell y t => do loadVar t (← asAddr (a.tmps.getD y undef))

theorem res_one {e : Env} {a : Act} {w : World} (hf : Fits N e a) {x : ResultVar} {o : IOp} (hc : compRes P x = some o) {F : Value → Prop} (h : opQ P o e w F) :
    ∃ v, F v ∧ (resSem a x).run P w = .ok v w := by
  cases x with
  | tmp t =>
    cases hc
    exact ⟨_, withV_eval hf (x := .tmp t) h, rfl⟩
  | cell y t =>
    simp only [compRes] at hc
    split at hc
    · rename_i ck hck
      cases hc
      obtain ⟨b, o, hx, h⟩ := withAddr_eval hf h
      obtain ⟨v, hr, hK⟩ := ldW_out h
      have hx' : a.tmps.getD y undef = .pointer (some ⟨b, o, none⟩) := hx
      exact ⟨v, hK, by simp only [resSem, hx', asAddr, Sem.run_bind, Sem.run_pure, Result.andThen_ok, loadVar, isAgg_of_ck hck]; simp [ext_rd (Below.refl _ _) hr]⟩
    · cases hn : tyN P t with
      | none => rw [hn] at hc; cases hc
      | some n =>
        rw [hn] at hc
        cases hc
        obtain ⟨b, o, hx, cs, hr, hK⟩ := withAddr_eval hf h
        have hx' : a.tmps.getD y undef = .pointer (some ⟨b, o, none⟩) := hx
        refine ⟨_, hK, ?_⟩
        simp only [resSem, hx', asAddr, Sem.run_bind, Sem.run_pure, Result.andThen_ok, loadVar, isAgg_of_n hn, sizeOf_of_n (tySize_of_n hn), rdN_run hr, if_true]
theorem res_all {e : Env} {a : Act} {w : World} (hf : Fits N e a) : ∀ (l : List ResultVar) (ol : List IOp) (F : List Value → Prop), compRess P l = some ol → resW P ol e w F →
    ∃ vs, F vs ∧ vs.length = l.length ∧ (l.mapM (resSem a)).run P w = .ok vs w
  | [], ol, F, hc, h => by
    simp only [compRess] at hc
    cases hc
    exact ⟨[], h, rfl, rfl⟩
  | x :: l, ol, F, hc, h => by
    simp only [compRess] at hc
    split at hc
    · rename_i o ol' ho hol
      cases hc
      obtain ⟨v, h', hr⟩ := res_one hf ho h
      obtain ⟨vs, hF, hlen, hr'⟩ := res_all hf l ol' _ hol h'
      exact ⟨v :: vs, hF, by simp [hlen], by simp only [List.mapM_cons, Sem.run_bind, hr, hr', Result.andThen_ok, Sem.run_pure]⟩
    · cases hc

theorem find_argEnv : ∀ (l : List Value) (k i : Nat) (v : Value), find (argEnv l k) i = some v → k ≤ i ∧ l[i - k]? = some v
  | [], k, i, v, h => by simp [argEnv, find] at h
  | u :: l, k, i, v, h => by
    simp only [argEnv, find] at h
    split at h
    · rename_i hb
      have := Nat.eq_of_beq_eq_true hb
      subst this
      exact ⟨Nat.le_refl _, by simpa using h⟩
    · obtain ⟨h1, h2⟩ := find_argEnv l (k + 1) i v h
      refine ⟨by omega, ?_⟩
      rw [show i - k = (i - (k + 1)) + 1 by omega, List.getElem?_cons_succ]
      exact h2

theorem ret_ic {f : FuncId} {fn : Func} {c : Code} {args : List Value} {w : World} {R : Value → World → Prop} {ic : ICode} {hints : List Hint} {ress : List IOp}
    (hf : P.funcs[f]? = some fn) (hb : fn.body = some c) (hN : fn.ntmps = N) (hc : comp P N c hints = some (ic, [])) (hr : compRess P fn.results.toList = some ress) (ha : args.length ≤ N)
    (h : icW P ic (argEnv args 0) w fun x e w' => match x with | .exit _ => False | _ => resW P ress e w' fun vs => R (oneOr vs) w') :
    Ret P f args.toArray w R := by
  have hsz : ({ tmps := args.toArray ++ Array.replicate (fn.ntmps - args.toArray.size) undef, defers := [] } : Act).tmps.size = N := by
    simp [hN]; omega
  have hfit : Fits N (argEnv args 0) { tmps := args.toArray ++ Array.replicate (fn.ntmps - args.toArray.size) undef, defers := [] } := by
    refine ⟨hsz, rfl, fun i v hv => ?_⟩
    obtain ⟨_, hv⟩ := find_argEnv _ _ _ _ hv
    have hlt : i < args.length := by
      rcases Nat.lt_or_ge i args.length with h | h
      · exact h
      · simp [List.getElem?_eq_none h] at hv
    simp only [Nat.sub_zero] at hv
    rw [Array.getElem?_append_left (by simpa using hlt)]
    simpa using hv
  have hfin : ∀ (e : Env) (a : Act) (w' : World), Fits N e a → (resW P ress e w' fun vs => R (oneOr vs) w') → a.defers = [] ∧ ∃ v, (results fn a.tmps).run P w' = .ok v w' ∧ (∃ u, Ending.returned v = .returned u ∧ R u w') := by
    intro e a w' hfa hres
    obtain ⟨vs, hF, hlen, hrun⟩ := res_all hfa fn.results.toList ress _ hr hres
    refine ⟨hfa.2.1, oneOr vs, ?_, _, rfl, hF⟩
    have he : results fn a.tmps = (do let vs ← fn.results.mapM (resSem a); pure (if h : vs.size = 1 then vs[0] else .tuple vs) : Sem Value) := by
      unfold results
      congr 1
    rw [he, Array.mapM_eq_mapM_toList]
    simp only [Sem.run_bind, Sem.run_map]
    rw [hrun]
    simp only [Result.andThen_ok, Sem.run_pure]
    congr 1
    match vs, hlen with
    | [], _ => rfl
    | [v], _ => rfl
    | _ :: _ :: _, _ => simp [oneOr]
  refine ⟨calls_of_wp hf hb (wp_mono (icW_sound c ic hints [] _ _ w _ hc hfit h) ?_)⟩
  intro x a w' hq
  cases x with
  | normal => obtain ⟨e, hfa, hq⟩ := hq; exact hfin e a w' hfa hq
  | ret => obtain ⟨e, hfa, hq⟩ := hq; exact hfin e a w' hfa hq
  | exit i => obtain ⟨e, hfa, hq⟩ := hq; exact hq.elim
  | goto l => exact hq.elim
  | panic c => exact hq.elim
  | outgrown => exact hq.elim
end
end Go.Sx
