/- Own layer of the proof: SxG. No conditions. -/
import Derived.Test.YtjklhofmchdaiaaDoorSxB
import Derived.Test.YtjklhofmchdaiaaDoorSxF
set_option linter.unusedVariables false
namespace Go.Sx
open Go.RowKit
/-! ### what writes, under heads that nothing unfolds -/
structure StW (w : World) (b o : Nat) (u : Value) (K : World → Prop) : Prop where
  h : one u = true ∧ ∃ c t, w.heap[b]? = some (.cells c t (0, 0)) ∧ o < c.size ∧ K (upB w b (.cells (c.setIfInBounds o u) t (0, 0)))
structure StNW (n : Nat) (w : World) (b o : Nat) (us : Array Value) (K : World → Prop) : Prop where
  h : us.size = n ∧ us.all one = true ∧ ∃ c t, w.heap[b]? = some (.cells c t (0, 0)) ∧ o + us.size ≤ c.size ∧ K (upB w b (.cells (splice c o us) t (0, 0)))
/-- 'append' of a row to a row. -/
structure ApW (elem bytes size : Nat) (zero : Array Value) (w : World) (p : Option Addr) (n c : Nat) (q : Option Addr) (m : Nat) (K : Value → World → Prop) : Prop where
  h : ∃ news, rdS w q (m * size) = some news ∧ AppW elem bytes size zero w p n c m news K
section
variable {P : Program} {s : List Fr} {e : Env} {w w0 : World} {Q : QT} {keep : List Nat} {d : Option Nat} {x v : Operand} {n : Nat}
theorem AppW.eq {elem bytes size zero w p n c m news K} : AppW elem bytes size zero w p n c m news K = appW elem bytes size zero w p n c m news K := propext ⟨AppW.h, AppW.mk⟩
theorem withV_mono {F G : Value → Prop} (h : ∀ v, F v → G v) (k : withV e x F) : withV e x G := by
  cases x with
  | tmp i =>
    simp only [withV] at k ⊢
    cases hv : find e i with
    | none => rw [hv] at k; exact k
    | some v => rw [hv] at k; exact h _ k
  | const v => exact h _ k
  | global g => exact h _ k
  | func f => exact h _ k
theorem withAddr_mono {F G : Nat → Nat → Prop} (h : ∀ b o, F b o → G b o) (k : withAddr e x F) : withAddr e x G := by
  refine withV_mono (fun v => ?_) k
  intro k
  split at k
  · exact h _ _ k
  · exact k.elim
theorem withAgg_mono {F G : Array Value → Prop} (h : ∀ b, F b → G b) (k : withAgg e x F) : withAgg e x G := by
  refine withV_mono (fun v => ?_) k
  intro k
  split at k
  · exact h _ k
  · exact k.elim
theorem withSl_mono {F G : Option Addr → Nat → Nat → Prop} (h : ∀ b o c, F b o c → G b o c) (k : withSl e x F) : withSl e x G := by
  refine withV_mono (fun v => ?_) k
  intro k
  split at k
  · exact h _ _ _ k
  · exact k.elim
theorem opW_st {K : Value → World → Prop} (h : withAddr e x fun b o => withV e v fun u => StW w b o u (K undef)) : opW P (.st x v) e w K := by
  refine withAddr_mono (fun b o => ?_) h
  refine fun h => withV_mono (fun u => ?_) h
  rintro ⟨h1, h2⟩
  rw [h1]
  exact h2
theorem opW_stN {K : Value → World → Prop} (h : withAddr e x fun b o => withAgg e v fun us => StNW n w b o us (K undef)) : opW P (.stN n x v) e w K := by
  refine withAddr_mono (fun b o => ?_) h
  exact fun h => withAgg_mono (fun u h => h.h) h
theorem opW_app {elem bytes size zero} {K : Value → World → Prop} (h : withSl e x fun p n c => withSl e v fun q m _ => ApW elem bytes size zero w p n c q m K) : opW P (.app elem bytes size zero x v) e w K := by
  refine withSl_mono (fun p n c => ?_) h
  refine fun h => withSl_mono (fun q m _ => ?_) h
  rintro ⟨ns, h1, h2⟩
  exact ⟨ns, h1, h2.h⟩
theorem opW_appS {elem} {K : Value → World → Prop} (h : withSl e x fun p n c => withStr e v fun x => AppW elem 1 1 #[.int .u8 0] w p n c x.size (strA x) K) : opW P (.appS elem x v) e w K := by
  have h' : withSl e x fun p n c => withStr e v fun x => appW elem 1 1 #[.int .u8 0] w p n c x.size (strA x) K := by simpa only [AppW.eq] using h
  exact h'
variable {r : List IOper} {rd : DW} {k : Bool}
theorem RW.o {op : IOp} (h : opW P op e w fun v w' => RW P r keep s (put e d v) w' Q) : RW P (⟨d, op, none⟩ :: r) keep s e w Q := RW.c h
theorem RW.st (h : withAddr e x fun b o => withV e v fun u => StW w b o u fun w' => RW P r keep s (put e d undef) w' Q) : RW P (⟨d, .st x v, none⟩ :: r) keep s e w Q := RW.o (opW_st h)
theorem RW.stN (h : withAddr e x fun b o => withAgg e v fun us => StNW n w b o us fun w' => RW P r keep s (put e d undef) w' Q) : RW P (⟨d, .stN n x v, none⟩ :: r) keep s e w Q := RW.o (opW_stN h)
theorem RW.app {elem bytes size zero} (h : withSl e x fun p n c => withSl e v fun q m _ => ApW elem bytes size zero w p n c q m fun u w' => RW P r keep s (put e d u) w' Q) : RW P (⟨d, .app elem bytes size zero x v, none⟩ :: r) keep s e w Q := RW.o (opW_app h)
theorem DR.oo {op : IOp} (h : opW P op e w fun v w' => keepW k w0 w w' (DR P rd keep s (put e d v) w0 w' Q)) : DR P (.one k ⟨d, op, none⟩ rd) keep s e w0 w Q := DR.o h
theorem DR.st (h : withAddr e x fun b o => withV e v fun u => StW w b o u fun w' => keepW k w0 w w' (DR P rd keep s (put e d undef) w0 w' Q)) : DR P (.one k ⟨d, .st x v, none⟩ rd) keep s e w0 w Q := DR.oo (opW_st h)
theorem DR.stN (h : withAddr e x fun b o => withAgg e v fun us => StNW n w b o us fun w' => keepW k w0 w w' (DR P rd keep s (put e d undef) w0 w' Q)) : DR P (.one k ⟨d, .stN n x v, none⟩ rd) keep s e w0 w Q := DR.oo (opW_stN h)
theorem DR.app {elem bytes size zero} (h : withSl e x fun p n c => withSl e v fun q m _ => ApW elem bytes size zero w p n c q m fun u w' => keepW k w0 w w' (DR P rd keep s (put e d u) w0 w' Q)) : DR P (.one k ⟨d, .app elem bytes size zero x v, none⟩ rd) keep s e w0 w Q := DR.oo (opW_app h)
theorem DR.appS {elem} (h : withSl e x fun p n c => withStr e v fun x => AppW elem 1 1 #[.int .u8 0] w p n c x.size (strA x) fun u w' => keepW k w0 w w' (DR P rd keep s (put e d u) w0 w' Q)) : DR P (.one k ⟨d, .appS elem x v, none⟩ rd) keep s e w0 w Q := DR.oo (opW_appS h)
end

/-! ### a block that was just made is written -/
theorem upB_alloc (w : World) (o o' : Obj) : upB (w.alloc o) w.heap.size o' = w.alloc o' := by
  unfold upB World.alloc
  congr 1
  apply Array.ext_getElem?
  intro i
  simp only [Array.getElem?_setIfInBounds, Array.getElem?_push, Array.size_push]
  by_cases h : w.heap.size = i
  · subst h; simp
  · rw [if_neg h, if_neg (fun e => h e.symm), if_neg (fun e => h e.symm)]
theorem StNW.new {w : World} {z us : Array Value} {t : TypeId} {n : Nat} {K : World → Prop} (hn : us.size = n) (h1 : us.all one = true) (hz : us.size = z.size) (h : K (w.alloc (.cells us t))) :
    StNW n (w.alloc (.cells z t)) w.heap.size 0 us K := by
  refine ⟨hn, h1, z, t, heap_new _ _, by omega, ?_⟩
  rw [upB_alloc, splice_all hz]
  exact h
theorem StW.new {w : World} {z : Array Value} {t : TypeId} {o : Nat} {u : Value} {K : World → Prop} (h1 : one u = true) (ho : o < z.size) (h : K (w.alloc (.cells (z.setIfInBounds o u) t))) :
    StW (w.alloc (.cells z t)) w.heap.size o u K := by
  refine ⟨h1, z, t, heap_new _ _, ho, ?_⟩
  rw [upB_alloc]
  exact h
theorem StW.at_ {w : World} {b o : Nat} {u : Value} {K : World → Prop} {c : Array Value} {t : TypeId} (hb : w.heap[b]? = some (.cells c t (0, 0))) (h1 : one u = true) (ho : o < c.size) (h : K (upB w b (.cells (c.setIfInBounds o u) t (0, 0)))) : StW w b o u K :=
  ⟨h1, c, t, hb, ho, h⟩
theorem StNW.at_ {n : Nat} {w : World} {b o : Nat} {us : Array Value} {K : World → Prop} {c : Array Value} {t : TypeId} (hb : w.heap[b]? = some (.cells c t (0, 0))) (hn : us.size = n) (h1 : us.all one = true) (ho : o + us.size ≤ c.size) (h : K (upB w b (.cells (splice c o us) t (0, 0)))) : StNW n w b o us K :=
  ⟨hn, h1, c, t, hb, ho, h⟩
theorem rdN_new (w : World) (c : Array Value) (t : TypeId) {n : Nat} (hn : n = c.size) : rdN (w.alloc (.cells c t)) w.heap.size 0 n = some c := rdN_all (heap_new _ _) hn
end Go.Sx
