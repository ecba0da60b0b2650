/- Own layer of the proof: SxF. No conditions. -/
import Derived.Test.YtjklhofmchdaiaaDoorSxE
set_option linter.unusedVariables false
namespace Go.Sx
open Go.RowKit

/-! ### the same, under heads that nothing unfolds: one step each -/
inductive Fr where | t (y : ICode) | b (id : Nat)
abbrev QT := IExit → Env → World → Prop
def stkQ (P : Program) : List Fr → QT → QT
  | [], Q => Q
  | .t y :: s, Q => thenW (fun e w => icW P y e w (stkQ P s Q)) (stkQ P s Q)
  | .b id :: s, Q => blockW id (stkQ P s Q)
structure IW (P : Program) (ic : ICode) (s : List Fr) (e : Env) (w : World) (Q : QT) : Prop where
  h : icW P ic e w (stkQ P s Q)
structure EW (P : Program) (s : List Fr) (x : IExit) (e : Env) (w : World) (Q : QT) : Prop where
  h : stkQ P s Q x e w
structure RW (P : Program) (ops : List IOper) (keep : List Nat) (s : List Fr) (e : Env) (w : World) (Q : QT) : Prop where
  h : opsW P ops e w fun e' w' => keepK keep e' [] fun e'' => stkQ P s Q .normal e'' w'
structure DR (P : Program) (dw : DW) (keep : List Nat) (s : List Fr) (e : Env) (w0 w : World) (Q : QT) : Prop where
  h : opsD P dw e w0 w fun e' w' => keepK keep e' [] fun e'' => stkQ P s Q .normal e'' w'
structure KW (keep : List Nat) (e : Env) (K : Env → Prop) : Prop where
  h : keepK keep e [] K
/-- A loop's round. -/
inductive LQ (I : Env → World → Prop) (μ : Env → World → Nat) (e : Env) (w : World) (Q : QT) : QT where
  | n {e' w'} (h : I e' w') (hm : μ e' w' < μ e w) : LQ I μ e w Q .normal e' w'
  | x {i e' w'} (h : Q (.exit i) e' w') : LQ I μ e w Q (.exit i) e' w'
  | r {e' w'} (h : Q .ret e' w') : LQ I μ e w Q .ret e' w'
/-- What a body's end must give. -/
inductive RQ (P : Program) (ress : List IOp) (R : Value → World → Prop) : QT where
  | n {e w} (h : resW P ress e w fun vs => R (oneOr vs) w) : RQ P ress R .normal e w
  | r {e w} (h : resW P ress e w fun vs => R (oneOr vs) w) : RQ P ress R .ret e w

variable {P : Program} {s : List Fr} {e : Env} {w w0 : World} {Q : QT} {keep : List Nat}
theorem IW.eq {ic} : IW P ic s e w Q = icW P ic e w (stkQ P s Q) := propext ⟨IW.h, IW.mk⟩
theorem EW.eq {x} : EW P s x e w Q = stkQ P s Q x e w := propext ⟨EW.h, EW.mk⟩
theorem RW.eq {ops} : RW P ops keep s e w Q = opsW P ops e w fun e' w' => keepK keep e' [] fun e'' => stkQ P s Q .normal e'' w' := propext ⟨RW.h, RW.mk⟩
theorem DR.eq {dw} : DR P dw keep s e w0 w Q = opsD P dw e w0 w fun e' w' => keepK keep e' [] fun e'' => stkQ P s Q .normal e'' w' := propext ⟨DR.h, DR.mk⟩
theorem KW.eq {K} : KW keep e K = keepK keep e [] K := propext ⟨KW.h, KW.mk⟩

theorem KW.k {K} (h : keepK keep e [] K) : KW keep e K := ⟨h⟩
theorem RW.nil (h : KW keep e fun e' => EW P s .normal e' w Q) : RW P [] keep s e w Q := by
  simpa only [RW.eq, KW.eq, EW.eq, opsW] using h
theorem RW.c {o : IOper} {r} (h : guardW o e (opW P o.op e w fun v w' => RW P r keep s (put e o.dst v) w' Q) (RW P r keep s (put e o.dst undef) w Q)) : RW P (o :: r) keep s e w Q := by
  simp only [RW.eq] at h ⊢
  unfold guardW at h
  unfold opsW
  exact h
/-- 'append' of a string: its law under a head that nothing unfolds. -/
structure AppW (elem bytes size : Nat) (zero : Array Value) (w : World) (p : Option Addr) (n c m : Nat) (news : Array Value) (K : Value → World → Prop) : Prop where
  h : appW elem bytes size zero w p n c m news K
theorem RW.apS {d elem sl x r} (h : withSl e sl fun p n c => withStr e x fun x => AppW elem 1 1 #[.int .u8 0] w p n c x.size (strA x) fun v w' => RW P r keep s (put e d v) w' Q) : RW P (⟨d, .appS elem sl x, none⟩ :: r) keep s e w Q := by
  refine RW.c ?_
  have e0 : ∀ {a b c d e f g h i j k}, AppW a b c d e f g h i j k = appW a b c d e f g h i j k := propext ⟨AppW.h, AppW.mk⟩
  simp only [e0] at h
  exact h
theorem DR.nil (h : KW keep e fun e' => EW P s .normal e' w Q) : DR P .nil keep s e w0 w Q := by
  simpa only [DR.eq, KW.eq, EW.eq, opsD] using h
theorem DR.f {wl} {o : IOper} {r} (h : guardW o e (opQ P o.op e w0 fun v => DR P r keep s (put e o.dst v) w0 w Q) (DR P r keep s (put e o.dst undef) w0 w Q)) : DR P (.first wl o r) keep s e w0 w Q := by
  simpa only [DR.eq, opsD] using h
theorem DR.o {k} {o : IOper} {r} (h : guardW o e (opW P o.op e w fun v w' => keepW k w0 w w' (DR P r keep s (put e o.dst v) w0 w' Q)) (DR P r keep s (put e o.dst undef) w0 w Q)) : DR P (.one k o r) keep s e w0 w Q := by
  simpa only [DR.eq, opsD] using h
theorem DR.b {k} {o : IOper} {r alts} (h : guardW o e (opW P o.op e w fun v w' => keepW k w0 w w' (DR P r keep s (put e o.dst v) w0 w' Q)) (DR P r keep s (put e o.dst undef) w0 w Q))
    (h2 : DR P alts keep s e w0 w Q) : DR P (.br k o r alts) keep s e w0 w Q := by
  simp only [DR.eq, opsD] at h h2 ⊢
  exact ⟨h, h2⟩
theorem keepW_t {w' : World} {R : Prop} (h1 : Below w0.heap.size w w') (h2 : R) : keepW true w0 w w' R := ⟨h1, h2⟩
theorem keepW_f {w' : World} {R : Prop} (h2 : R) : keepW false w0 w w' R := h2
theorem DR.stop : DR P .stop keep s e w0 w Q := ⟨trivial⟩
theorem IW.skip (h : EW P s .normal e w Q) : IW P .skip s e w Q := by simpa only [IW.eq, EW.eq, icW] using h
theorem IW.ret (h : EW P s .ret e w Q) : IW P .ret s e w Q := by simpa only [IW.eq, EW.eq, icW] using h
theorem IW.exit {i} (h : EW P s (.exit i) e w Q) : IW P (.exit i) s e w Q := by simpa only [IW.eq, EW.eq, icW] using h
theorem IW.reg {ops} (h : RW P ops keep s e w Q) : IW P (.reg ops keep) s e w Q := by simpa only [IW.eq, RW.eq, icW] using h
theorem IW.regD {dw} (h : DR P dw keep s e w.drew w.drew Q) : IW P (.regD dw keep) s e w Q := by simpa only [IW.eq, DR.eq, icW] using h
theorem IW.seq {x y} (h : IW P x (.t y :: s) e w Q) : IW P (.seq x y) s e w Q := by simpa only [IW.eq, icW, stkQ] using h
theorem IW.block {id x} (h : IW P x (.b id :: s) e w Q) : IW P (.block id x) s e w Q := by simpa only [IW.eq, icW, stkQ] using h
theorem IW.cond {c kx ky x y} (h : withBool e c fun t => (t = true → KW kx e fun e' => IW P x s e' w Q) ∧ (t = false → KW ky e fun e' => IW P y s e' w Q)) : IW P (.cond c kx ky x y) s e w Q := by
  simpa only [IW.eq, KW.eq, icW] using h
theorem IW.loop {x} (I : Env → World → Prop) (μ : Env → World → Nat) (h0 : I e w) (h : ∀ e w, I e w → IW P x [] e w (LQ I μ e w fun x e' w' => EW P s x e' w' Q)) : IW P (.loop x) s e w Q := by
  refine ⟨LoopW.mk I μ h0 fun e w hI => ?_⟩
  have h := (h e w hI).h
  have e0 : stkQ P [] (LQ I μ e w fun x e' w' => EW P s x e' w' Q) = thenW (fun e' w' => I e' w' ∧ μ e' w' < μ e w) (stkQ P s Q) := by
    funext x e' w'
    refine propext ⟨fun h => ?_, fun h => ?_⟩
    · cases h with
      | n a b => exact ⟨a, b⟩
      | x a => exact a.h
      | r a => exact a.h
    · cases x with
      | normal => exact .n h.1 h.2
      | exit i => exact .x ⟨h⟩
      | ret => exact .r ⟨h⟩
  rw [e0] at h
  exact h
theorem EW.tn {y} (h : IW P y s e w Q) : EW P (.t y :: s) .normal e w Q := ⟨h.h⟩
theorem EW.tx {y i} (h : EW P s (.exit i) e w Q) : EW P (.t y :: s) (.exit i) e w Q := ⟨h.h⟩
theorem EW.tr {y} (h : EW P s .ret e w Q) : EW P (.t y :: s) .ret e w Q := ⟨h.h⟩
theorem EW.bn {i} (h : EW P s .normal e w Q) : EW P (.b i :: s) .normal e w Q := ⟨h.h⟩
theorem EW.br {i} (h : EW P s .ret e w Q) : EW P (.b i :: s) .ret e w Q := ⟨h.h⟩
theorem EW.bx {i j} (h : EW P s (match Nat.beq j i with | true => .normal | false => .exit j) e w Q) : EW P (.b i :: s) (.exit j) e w Q := by
  rw [EW.eq] at h ⊢
  unfold stkQ blockW
  cases hb : Nat.beq j i <;> simp only [hb] at h ⊢ <;> exact h
theorem EW.bx1 {i} (h : EW P s .normal e w Q) : EW P (.b i :: s) (.exit i) e w Q := EW.bx (by simpa using h)
theorem EW.bx0 {i j} (hn : Nat.beq j i = false) (h : EW P s (.exit j) e w Q) : EW P (.b i :: s) (.exit j) e w Q := EW.bx (by simpa [hn] using h)
theorem EW.fin {x} (h : Q x e w) : EW P [] x e w Q := ⟨h⟩
theorem ret_iw {f : FuncId} {fn : Func} (hf : P.funcs[f]? = some fn) {c : Code} (hb : fn.body = some c) {N : Nat} (hN : fn.ntmps = N) {ic : ICode} {hints : List Hint} (hc : comp P N c hints = some (ic, []))
    {ress : List IOp} (hr : compRess P fn.results.toList = some ress) {args : List Value} {w : World} {R : Value → World → Prop} (ha : args.length ≤ N)
    (h : IW P ic [] (argEnv args 0) w (RQ P ress R)) : Ret P f args.toArray w R := by
  refine ret_ic hf hb hN hc hr ha ?_
  have h := h.h
  have e0 : stkQ P [] (RQ P ress R) = fun x e w' => match x with | .exit _ => False | _ => resW P ress e w' fun vs => R (oneOr vs) w' := by
    funext x e' w'
    refine propext ⟨fun h => ?_, fun h => ?_⟩
    · cases h with
      | n a => exact a
      | r a => exact a
    · cases x with
      | normal => exact .n h
      | exit i => exact h.elim
      | ret => exact .r h
  rw [e0] at h
  exact h
end Go.Sx
