/- Proved: for every string, the law OrdealDigits returns true, and its argument reads afterwards as before; conditions: the three listed tables start as the program's text lays them (the card ties them). -/
import Derived.Test.YtjklhofmchdaiaaDoorG1Digits
import Derived.Test.YtjklhofmchdaiaaDoorSxLaw
import Derived.Test.YtjklhofmchdaiaaDoorCards
import Derived.Test.YtjklhofmchdaiaaDoorTie
import Derived.WalkKit
import Derived.ProofKit
import Derived.OpenShut
import Derived.ChangeMaps5
import Derived.Deep.DeepHandedRow
import Derived.Lib.LaidTab
import Derived.Stop.LaidErr
set_option maxRecDepth 100000
set_option linter.unusedVariables false
namespace Go.Proofs.YtjklhofmchdaiaaDoor
open Go Go.Sx Go.ChangeShapes Go.WideShapes Go.ChangeAt Go.RowKit
open Go.ChangeMaps (open_string shut_string)

theorem own : ownKnob Tryd.prog.godebug = none := by kernel_rfl
theorem laidOut : laidOutB Tryd.prog = true := by kernel_rfl
theorem gStart : Tryd.prog.globalNamed "ordeal/sha.start" = some 0 := by kernel_rfl
theorem gHalf : Tryd.prog.globalNamed "ordeal/crc.half" = some 1 := by kernel_rfl
theorem gRounds : Tryd.prog.globalNamed "ordeal/sha.rounds" = some 2 := by kernel_rfl
theorem tStart : (Tryd.prog.globals[0]?).map (·.type) = some 46 := by kernel_rfl
theorem tHalf : (Tryd.prog.globals[1]?).map (·.type) = some 67 := by kernel_rfl
theorem tRounds : (Tryd.prog.globals[2]?).map (·.type) = some 68 := by kernel_rfl
theorem c46 : Tryd.prog.cellsOf 46 = 8 := by kernel_rfl
theorem c67 : Tryd.prog.cellsOf 67 = 16 := by kernel_rfl
theorem c68 : Tryd.prog.cellsOf 68 = 64 := by kernel_rfl
theorem c39 : Tryd.prog.cellsOf 39 = 1 := by kernel_rfl

/-- What the rows' list gives. -/
theorem tables {W : World} (h : laidMetH Tryd.prog Rows.ordealDigitsRow.laid W) : G1.Gl W := by
  have t1 : Lib.TabIs Tryd.prog W "ordeal/crc.half" .u32 G1.halfT := Lib.tabIs_of_head (rest := [("ordeal/sha.rounds", Rows.laid_ordeal_sha_rounds), ("ordeal/sha.start", Rows.laid_ordeal_sha_start)]) gHalf tHalf Tryd.underlying67 Tryd.underlying39 c39 c67 h
  have t2 : Lib.TabIs Tryd.prog W "ordeal/sha.rounds" .u32 G1.roundsT := Lib.tabIs_of_head (rest := [("ordeal/sha.start", Rows.laid_ordeal_sha_start)]) gRounds tRounds Tryd.underlying68 Tryd.underlying39 c39 c68 (laidMet.tail (x := ("ordeal/crc.half", Rows.laid_ordeal_crc_half)) h)
  have t3 : Lib.TabIs Tryd.prog W "ordeal/sha.start" .u32 G1.startT := Lib.tabIs_of_head (rest := []) gStart tStart Tryd.underlying46 Tryd.underlying39 c39 c46 (laidMet.tail (x := ("ordeal/sha.rounds", Rows.laid_ordeal_sha_rounds)) (laidMet.tail (x := ("ordeal/crc.half", Rows.laid_ordeal_crc_half)) h))
  have rdc : ∀ {g : Nat} {i : Nat} {v : Value}, W.cell? ⟨g, i, none⟩ = some v → rd W g i = some v := by
    intro g i v h
    unfold World.cell? at h
    unfold rd
    split at h <;> simp_all
  refine ⟨?_, fun j hj => rdc (t1.cell gHalf j (by exact hj)), ?_, fun j hj => rdc (t2.cell gRounds j (by exact hj))⟩
  · have := t2.cell gRounds 0 (by decide)
    unfold World.cell? at this
    have hh : ∃ o, W.heap[2]? = some o := by
      cases hb : W.heap[2]? with
      | none => simp [hb] at this
      | some o => exact ⟨o, rfl⟩
    obtain ⟨o, ho⟩ := hh
    exact (Array.getElem?_eq_some_iff.1 ho).1
  · have := t3
    unfold Lib.TabIs World.var? at this
    rw [gStart] at this
    simp only [Option.bind_some] at this
    cases hb : W.heap[0]? with
    | none => rw [hb] at this; cases this
    | some o =>
      rw [hb] at this
      cases o with
      | cells c t z =>
        simp only [Option.some.injEq] at this
        exact ⟨t, z, hb.trans (by rw [this]; rfl)⟩
      | _ => cases this

theorem digits_contract (H : Type) (enc : TypeId × Value → H) (W : World) (base : Nat) (args : Array Value) (ds gs : List (DataW H)) (before : List MemPlace)
    (hval : ∀ (j : Nat) t v, Tryd.f3.params[j]? = some t → args[j]? = some v → Value.okWide Tryd.prog W .any base t v)
    (hW : DataW.Whole enc Tryd.prog Tryd.f3.params.toList Rows.ordealDigitsSpec.vars false W args.toList ds gs before) (hL : laidMetH Tryd.prog Rows.ordealDigitsRow.laid W) :
    Calls Tryd.prog 3 args W fun e W' => ∃ v, e = .returned v ∧ Rows.ordealDigitsSpec.post enc Tryd.prog Tryd.f3 false true false false W args v W' := by
  have hW' := hW
  obtain ⟨p, q, hA0, hV, rfl, hfz, hnd⟩ := hW
  have hA : DataW.TrodAll enc Tryd.prog W 0 (fun _ => true) true Tryd.f3.params.toList args.toList ds p := hA0
  rw [Tryd.params3] at hA hval
  obtain ⟨v0, vs0, d0, ds0, p0, q0, hargs, rfl, rfl, h0, r0⟩ := trodAll_cons hA
  obtain ⟨rfl, rfl, rfl⟩ := trodAll_nil r0
  obtain rfl : args = #[v0] := by cases args; simp_all
  obtain ⟨rfl, rfl⟩ := trodVars_none hV
  obtain ⟨s, rfl, rfl, rfl, hs⟩ := open_string Tryd.underlying9 (hval 0 9 v0 rfl rfl) h0
  refine (G1.digits_c s W (tables hL)).out.mono ?_
  rintro e W' ⟨v, he, rfl, hx⟩
  exact ⟨_, he, post_true laidOut rfl Tryd.underlying4 rfl (by kernel_rfl) hW' rfl rfl rfl hx⟩

/-- A world for the witness. -/
def setCells (h : Array Obj) (i : Nat) (c : Array Value) : Array Obj := h.modify i fun
  | .cells _ t frozen => .cells c t frozen
  | o => o
noncomputable def laidWorld (os : Os) : World :=
  { World.holding Tryd.prog os ⟨#[], #[], []⟩ with heap := setCells (setCells (setCells (World.holding Tryd.prog os ⟨#[], #[], []⟩).heap 0 (ints .u32 G1.startT)) 1 (ints .u32 G1.halfT)) 2 (ints .u32 G1.roundsT) }
theorem laid_met (os : Os) : laidMet Tryd.prog Rows.ordealDigitsRow.laid ((laidWorld os).forCall (fun _ _ => 0) ⟨#[], #[.string ByteArray.empty], []⟩).memory :=
  laidMet_of_run' 8 (by kernel_rfl) (by kernel_rfl)
theorem reads (os : Os) {H : Type} (enc : TypeId × Value → H) : ∃ places, DataW.whole enc Tryd.prog ((laidWorld os).forCall (fun _ _ => 0) ⟨#[], #[.string ByteArray.empty], []⟩).memory Tryd.f3.params.toList Rows.ordealDigitsSpec.vars false #[Value.string ByteArray.empty].toList 8 = some ([.lit (.string [])], [], places) :=
  ⟨[], by kernel_rfl⟩

theorem lifted (os : Os) (started : os.Started) (H : Type) (enc : TypeId × Value → H) (F : Stop.Interp) :
    ReturnsInHanded {} Tryd.checked os 3 .any ((OpenSpec.ofChange Rows.ordealDigitsSpec).preRow enc Tryd.prog Tryd.f3 Rows.ordealDigitsRow.domain false Rows.ordealDigitsRow.laid) (((OpenSpec.ofChange Rows.ordealDigitsSpec).at F).post enc Tryd.prog Tryd.f3 false true false false) := by
  obtain ⟨places, hx⟩ := reads os enc
  refine returnsInHanded_of_row (C := Tryd.checked) (s := OpenSpec.ofChange Rows.ordealDigitsSpec) own started (by kernel_rfl) Tryd.func3
    (witness_row_at (enc := enc) (C := Tryd.checked) false (laidWorld os) #[.string ByteArray.empty] rfl (by kernel_rfl) (by kernel_rfl) (by kernel_rfl)
      (OpenSpec.preRow_of_cond 8 hx (by kernel_rfl) (fun k hk => by cases hk) (by kernel_rfl) (laid_met os))) ?_
  intro W base args ds gs before hval hW _ _ _ hL _ _
  exact digits_contract H enc W base args ds gs before hval hW hL

theorem said : Rows.OrdealDigitsSaid :=
  OpenClaim.holds_of_cond 3 Tryd.f3 rfl rfl rfl rfl rfl rfl rfl ⟨rfl, rfl, rfl, rfl, rfl⟩ rfl rfl rfl rfl rfl (by kernel_rfl) Tryd.func3 (by kernel_rfl)
    (of_decide_eq_true (by kernel_rfl)) (by unfold Func.isWrapper; first | (rw [if_pos (by decide +kernel)]; kernel_rfl) | (rw [if_neg (by decide +kernel)]; exact ⟨rfl, rfl⟩))
    (fun os started H enc _ F => by rw [OpenClaim.pre_eq_preRow]; exact lifted os started H enc F)

theorem plain (f : FuncId) (fn : Func) (hf : Tryd.pinned.checked.prog.funcNamed "ordeal/ordealtop.OrdealDigits" = some f) (hfn : Tryd.pinned.checked.prog.funcs[f]? = some fn) :
    false = Tryd.pinned.checked.prog.looks [] ∧ ∀ (j : Nat) t, fn.params[j]? = some t → Tryd.pinned.checked.prog.wantsStandIn t = false := by
  obtain rfl : f = 3 := Option.some.inj ((show Tryd.prog.funcNamed "ordeal/ordealtop.OrdealDigits" = some 3 by kernel_rfl).symm.trans hf) |>.symm
  obtain rfl : fn = Tryd.f3 := (Option.some.inj (Tryd.func3.symm.trans hfn)).symm
  refine ⟨by kernel_rfl, fun j t ht => ?_⟩
  rw [Tryd.params3] at ht
  obtain rfl : t = 9 := by simpa using Array.mem_of_getElem? ht
  exact (show Tryd.prog.wantsStandIn 9 = false by kernel_rfl)

theorem digits_card : Rows.OrdealDigitsCardSaid :=
  Claim7.holds_tied_plain_at .later [] _ _ _ _ said (fun _ h => by cases h) (by kernel_rfl) (fun _ h => by cases h) ordealDigits_row_tie rfl ⟨rfl, rfl⟩ (by kernel_rfl) rfl plain (by kernel_rfl)
#print axioms digits_card
end Go.Proofs.YtjklhofmchdaiaaDoor
