/- The law OopsChains answers true for every input: the row's statement and its card are proved. No condition beyond the row's own. -/
import Derived.Test.YtihjokkmkdhhpaaDoorCards
import Derived.Test.YtihjokkmkdhhpaaDoorTie
import Derived.Test.YtihjokkmkdhhpaaDoorOi
section
namespace Go.Proofs.YtihjokkmkdhhpaaDoor
open Go.AS
namespace OopsChains
noncomputable section
open Go.ChangeShapes Go.WideShapes Go.ChangeAt Go.RowKit

theorem here {W : World} (h : laidMetH Tryd.prog Rows.oopsChainsRow.laid W) : ∃ t fz, W.heap[0]? = some (.cells #[.iface 90 (.agg #[.pointer (some ⟨4, 25, none⟩)])] t fz) :=
  handle_here (x := ("errors.errorType", Rows.laid_errors_errorType)) (r := []) (nm := [101, 114, 114, 111, 114]) (g := 0) (u := 90) (ty := 25) h rfl rfl rfl (by kernel_rfl) (by kernel_rfl) (by kernel_rfl) (by kernel_rfl)

theorem laid : Laid Tryd.prog := ⟨by kernel_rfl, by kernel_rfl, by kernel_rfl⟩
theorem own : ownKnob Tryd.prog.godebug = none := by kernel_rfl
theorem retType : Tryd.f5.resultTypes = #[4] := by kernel_rfl
theorem parts : ∀ t ∈ Tryd.f5.params.toList, t < Tryd.prog.types.size := by decide +kernel
set_option maxRecDepth 100000 in
theorem contract (H : Type) (enc : TypeId × Value → H) (W : World) (base : Nat) (args : Array Value) (ds gs : List (DataW H)) (before : List MemPlace)
    (hok : ∀ (j : Nat) t v, Tryd.f5.params[j]? = some t → args[j]? = some v → Value.okWide Tryd.prog W .any base t v)
    (hW : DataW.Whole enc Tryd.prog Tryd.f5.params.toList Rows.oopsChainsSpec.vars false W args.toList ds gs before) (hL : laidMetH Tryd.prog Rows.oopsChainsRow.laid W) (hwt : (DataW.weightsEach Tryd.prog (Tryd.f5.params.toList ++ (OpenSpec.ofChange Rows.oopsChainsSpec).bare.plain.varTypes Tryd.prog) (ds ++ gs)).all (· ≤ reachBytes) = true) (hsh : W.ShapedOpen Tryd.prog) :
    Calls Tryd.prog 5 args W fun e W' => ∃ v, e = .returned v ∧ Rows.oopsChainsSpec.post enc Tryd.prog Tryd.f5 false true false false W args v W' := by
  have hW0 := hW
  obtain ⟨p, q, hA, _⟩ := hW
  rw [Tryd.params5] at hA
  change DataW.TrodAll enc Tryd.prog W 0 (fun _ => true) true [3, 59, 3] args.toList ds p at hA
  obtain ⟨al⟩ := args
  obtain ⟨v0, vs0, d0, ds0, p0, q0, hargs0, rfl, rfl, hd0, hrest0⟩ := trodAll_cons hA
  obtain rfl : al = v0 :: vs0 := by simpa using hargs0
  obtain ⟨v1, vs1, d1, ds1, p1, q1, hargs1, rfl, rfl, hd1, hrest1⟩ := trodAll_cons hrest0
  obtain rfl := hargs1
  obtain ⟨v2, vs2, d2, ds2, p2, q2, hargs2, rfl, rfl, hd2, hrest2⟩ := trodAll_cons hrest1
  obtain rfl := hargs2
  obtain ⟨rfl, rfl, rfl⟩ := trodAll_nil hrest2
  obtain ⟨kd, rfl⟩ := okWide_int (k := .i64) (show Tryd.prog.underlying 3 = some (.int .i64) by kernel_rfl) (hok 0 3 _ (by rw [show Tryd.f5.params = #[3, 59, 3] by kernel_rfl]; rfl) rfl)
  obtain ⟨sa, sl, sc, rfl⟩ := okWide_slice u59 (hok 1 59 _ (by rw [show Tryd.f5.params = #[3, 59, 3] by kernel_rfl]; rfl) rfl)
  obtain ⟨n1, hr1⟩ := hd1
  obtain ⟨ls, hls, hsm⟩ := read_lays hr1 (ts := Tryd.f5.params.toList ++ (OpenSpec.ofChange Rows.oopsChainsSpec).bare.plain.varTypes Tryd.prog) (j := 1) (by kernel_rfl) rfl hwt
  obtain ⟨tt, fz, hh⟩ := here hL
  obtain ⟨other, rfl⟩ := okWide_int (k := .i64) (show Tryd.prog.underlying 3 = some (.int .i64) by kernel_rfl) (hok 2 3 _ (by rw [show Tryd.f5.params = #[3, 59, 3] by kernel_rfl]; rfl) rfl)
  refine (calls5 hh hsh kd other ls hsm (.vcons (.lit _) (.vcons hls (.vcons (.lit _) .vnil)))).mono ?_
  rintro e W' ⟨rfl, h1, h2, h3, h4, h5⟩
  exact ⟨_, rfl, law_post laid hW0 retType (show Tryd.prog.underlying 4 = some .bool by kernel_rfl) parts rfl ⟨h1, h2, h3, h4, h5⟩ rfl⟩

def start (os : Os) : World := World.doorLaid Tryd.prog 31 os
theorem start_met (os : Os) : laidMetH Tryd.prog Rows.oopsChainsRow.laid ((start os).forCall (fun _ _ => 0) ⟨#[], #[.int .i64 0, .slice none 0 0, .int .i64 0], []⟩).memory := laidMetH_of_parts (laidMet_of_run' 8 (by kernel_rfl) (by kernel_rfl)) (by kernel_rfl)
theorem reads (os : Os) {H : Type} (enc : TypeId × Value → H) : DataW.whole enc Tryd.prog ((start os).forCall (fun _ _ => 0) ⟨#[], #[.int .i64 0, .slice none 0 0, .int .i64 0], []⟩).memory Tryd.f5.params.toList Rows.oopsChainsSpec.vars false (#[.int .i64 0, .slice none 0 0, .int .i64 0] : Array Value).toList 8 = some ([.lit (.int .i64 0), .nil, .lit (.int .i64 0)], [], []) := by kernel_rfl
set_option maxRecDepth 100000 in
theorem lifted (os : Os) (started : os.Started) (H : Type) (enc : TypeId × Value → H) (F : Stop.Interp) :
    ReturnsInHanded {} Tryd.checked os 5 .any ((OpenSpec.ofChange Rows.oopsChainsSpec).preRow enc Tryd.prog Tryd.f5 Rows.oopsChainsRow.domain false Rows.oopsChainsRow.laid) (((OpenSpec.ofChange Rows.oopsChainsSpec).at F).post enc Tryd.prog Tryd.f5 false true false false) := by
  refine returnsInHanded_of_row (C := Tryd.checked) (s := OpenSpec.ofChange Rows.oopsChainsSpec) own started (by kernel_rfl) Tryd.func5
    (witness_row_atRef (enc := enc) (C := Tryd.checked) false (start os) #[.int .i64 0, .slice none 0 0, .int .i64 0] rfl (by kernel_rfl) (by kernel_rfl) (by kernel_rfl)
      (OpenSpec.preRow_of_cond 8 (reads os enc) (by kernel_rfl) (fun k hk => by cases hk) (by kernel_rfl) (start_met os))) ?_
  intro W base args ds gs before hok hW _ _ hwt hL hsh _
  exact contract H enc W base args ds gs before hok hW hL hwt hsh
theorem said : Rows.OopsChainsSaid :=
  OpenClaim.holds_of_cond 5 Tryd.f5 rfl rfl rfl rfl rfl rfl rfl ⟨rfl, rfl, rfl, rfl, rfl⟩ rfl rfl rfl rfl rfl (by kernel_rfl) Tryd.func5 (by kernel_rfl)
    (of_decide_eq_true (by kernel_rfl)) (by unfold Func.isWrapper; first | (rw [if_pos (by decide +kernel)]; kernel_rfl) | (rw [if_neg (by decide +kernel)]; exact ⟨rfl, rfl⟩))
    (fun os started H enc _ F => by rw [OpenClaim.pre_eq_preRow]; exact lifted os started H enc F)
theorem plain (f : FuncId) (fn : Func) (hf : Tryd.pinned.checked.prog.funcNamed "taproot/taprootlaw3.OopsChains" = some f) (hfn : Tryd.pinned.checked.prog.funcs[f]? = some fn) :
    true = Tryd.pinned.checked.prog.looks [] ∧ ∀ (j : Nat) t, fn.params[j]? = some t → Tryd.pinned.checked.prog.wantsStandIn t = false := by
  obtain rfl : f = 5 := Option.some.inj ((show Tryd.prog.funcNamed "taproot/taprootlaw3.OopsChains" = some 5 by kernel_rfl).symm.trans hf) |>.symm
  obtain rfl : fn = Tryd.f5 := (Option.some.inj (Tryd.func5.symm.trans hfn)).symm
  refine ⟨by kernel_rfl, fun j t ht => ?_⟩
  have hm : t ∈ Tryd.f5.params.toList := by
    rw [Array.mem_toList_iff]; exact Array.mem_of_getElem? ht
  have all : ∀ t ∈ Tryd.f5.params.toList, Tryd.pinned.checked.prog.wantsStandIn t = false := by
    have h : Tryd.f5.params.toList.all (fun t => !Tryd.prog.wantsStandIn t) = true := by kernel_rfl
    intro t ht
    have := List.all_eq_true.1 h t ht
    rw [Bool.not_eq_true'] at this
    exact this
  exact all t hm
theorem card : Rows.OopsChainsCardSaid :=
  Claim7.holds_tied_plain_at .later [] _ _ _ _ said (fun _ h => by cases h) (by kernel_rfl) (fun _ h => by cases h) oopsChains_row_tie rfl ⟨rfl, rfl⟩ (by kernel_rfl) rfl plain (by kernel_rfl)
end
end OopsChains
end Go.Proofs.YtihjokkmkdhhpaaDoor
end
