/- The law OopsOutermost answers true for every input: the row's statement and its card are proved. No condition beyond the row's own. -/
import Derived.Test.YtihjokkmkdhhpaaDoorCards
import Derived.Test.YtihjokkmkdhhpaaDoorTie
import Derived.Test.YtihjokkmkdhhpaaDoorOL4
namespace Go.Proofs.YtihjokkmkdhhpaaDoor
open Go.AS
namespace OopsOutermost
noncomputable section
open Go.ChangeShapes Go.WideShapes Go.ChangeAt Go.RowKit

theorem here {W : World} (h : laidMetH Tryd.prog Rows.oopsOutermostRow.laid W) : ∃ t fz, W.heap[0]? = some (.cells #[.iface 90 (.agg #[.pointer (some ⟨4, 25, none⟩)])] t fz) :=
  handle_here (x := ("errors.errorType", Rows.laid_errors_errorType)) (r := []) (nm := [101, 114, 114, 111, 114]) (g := 0) (u := 90) (ty := 25) h rfl rfl rfl (by kernel_rfl) (by kernel_rfl) (by kernel_rfl) (by kernel_rfl)
theorem globals {W : World} (h : laidMetH Tryd.prog Rows.oopsOutermostRow.laid W) : ∀ g x, (X2.ask [4]).px.gl g = some x → VR ⟨fun _ => none, fun b => W.heap[b]?⟩ x (.pointer (some ⟨g, 0, none⟩)) := fun g x hx => by
  have hx : bsel (Nat.beq g 0) (some (.ref (.lit (.iface 90 (.agg #[.pointer (some ⟨4, 25, none⟩)]))))) none = some x := hx
  cases hb : Nat.beq g 0
  · rw [hb, bsel_false] at hx; cases hx
  · rw [hb, bsel_true] at hx; cases hx
    obtain rfl := Nat.eq_of_beq_eq_true hb
    obtain ⟨t, fz, hh⟩ := here h
    exact handle_ref hh
theorem laid : Laid Tryd.prog := ⟨by kernel_rfl, by kernel_rfl, by kernel_rfl⟩
theorem own : ownKnob Tryd.prog.godebug = none := by kernel_rfl
theorem retType : Tryd.f4.resultTypes = #[4] := by kernel_rfl
theorem parts : ∀ t ∈ Tryd.f4.params.toList, t < Tryd.prog.types.size := by decide +kernel
set_option maxRecDepth 100000 in
theorem contract (H : Type) (enc : TypeId × Value → H) (W : World) (base : Nat) (args : Array Value) (ds gs : List (DataW H)) (before : List MemPlace)
    (hok : ∀ (j : Nat) t v, Tryd.f4.params[j]? = some t → args[j]? = some v → Value.okWide Tryd.prog W .any base t v)
    (hW : DataW.Whole enc Tryd.prog Tryd.f4.params.toList Rows.oopsOutermostSpec.vars false W args.toList ds gs before) (hL : laidMetH Tryd.prog Rows.oopsOutermostRow.laid W) :
    Calls Tryd.prog 4 args W fun e W' => ∃ v, e = .returned v ∧ Rows.oopsOutermostSpec.post enc Tryd.prog Tryd.f4 false true false false W args v W' := by
  have hW0 := hW
  obtain ⟨p, q, hA, _⟩ := hW
  rw [Tryd.params4] at hA
  change DataW.TrodAll enc Tryd.prog W 0 (fun _ => true) true [3, 3, 3, 3, 3, 9] args.toList ds p at hA
  obtain ⟨al⟩ := args
  obtain ⟨v0, vs0, d0, ds0, p0, q0, hargs0, rfl, rfl, hd0, hrest0⟩ := trodAll_cons hA
  obtain rfl : al = v0 :: vs0 := by simpa using hargs0
  obtain ⟨v1, vs1, d1, ds1, p1, q1, hargs1, rfl, rfl, hd1, hrest1⟩ := trodAll_cons hrest0
  obtain rfl := hargs1
  obtain ⟨v2, vs2, d2, ds2, p2, q2, hargs2, rfl, rfl, hd2, hrest2⟩ := trodAll_cons hrest1
  obtain rfl := hargs2
  obtain ⟨v3, vs3, d3, ds3, p3, q3, hargs3, rfl, rfl, hd3, hrest3⟩ := trodAll_cons hrest2
  obtain rfl := hargs3
  obtain ⟨v4, vs4, d4, ds4, p4, q4, hargs4, rfl, rfl, hd4, hrest4⟩ := trodAll_cons hrest3
  obtain rfl := hargs4
  obtain ⟨v5, vs5, d5, ds5, p5, q5, hargs5, rfl, rfl, hd5, hrest5⟩ := trodAll_cons hrest4
  obtain rfl := hargs5
  obtain ⟨rfl, rfl, rfl⟩ := trodAll_nil hrest5
  obtain ⟨a, rfl⟩ := okWide_int (k := .i64) (show Tryd.prog.underlying 3 = some (.int .i64) by kernel_rfl) (hok 0 3 _ (by rw [show Tryd.f4.params = #[3, 3, 3, 3, 3, 9] by kernel_rfl]; rfl) rfl)
  obtain ⟨b, rfl⟩ := okWide_int (k := .i64) (show Tryd.prog.underlying 3 = some (.int .i64) by kernel_rfl) (hok 1 3 _ (by rw [show Tryd.f4.params = #[3, 3, 3, 3, 3, 9] by kernel_rfl]; rfl) rfl)
  obtain ⟨x, rfl⟩ := okWide_int (k := .i64) (show Tryd.prog.underlying 3 = some (.int .i64) by kernel_rfl) (hok 2 3 _ (by rw [show Tryd.f4.params = #[3, 3, 3, 3, 3, 9] by kernel_rfl]; rfl) rfl)
  obtain ⟨y, rfl⟩ := okWide_int (k := .i64) (show Tryd.prog.underlying 3 = some (.int .i64) by kernel_rfl) (hok 3 3 _ (by rw [show Tryd.f4.params = #[3, 3, 3, 3, 3, 9] by kernel_rfl]; rfl) rfl)
  obtain ⟨kind, rfl⟩ := okWide_int (k := .i64) (show Tryd.prog.underlying 3 = some (.int .i64) by kernel_rfl) (hok 4 3 _ (by rw [show Tryd.f4.params = #[3, 3, 3, 3, 3, 9] by kernel_rfl]; rfl) rfl)
  obtain ⟨name, rfl⟩ := okWide_string (show Tryd.prog.underlying 9 = some .string by kernel_rfl) (hok 5 9 _ (by rw [show Tryd.f4.params = #[3, 3, 3, 3, 3, 9] by kernel_rfl]; rfl) rfl)
  refine (law_calls (X := X2.ask [4]) (X2_ok.ask [4]) (d := 12) Tryd.func4 (show Tryd.f4.body = some (code 4) by kernel_rfl) (by kernel_rfl) (os := orc4) (g4_ok a b x y kind name ) (m := fun b => W.heap[b]?) (w := W) (fun b o h => h) (globals hL) (.vcons (.lit _) (.vcons (.lit _) (.vcons (.lit _) (.vcons (.lit _) (.vcons (.lit _) (.vcons (.lit _) .vnil))))))).mono ?_
  rintro e W' ⟨rfl, h1, h2, h3, h4, h5⟩
  exact ⟨_, rfl, law_post laid hW0 retType (show Tryd.prog.underlying 4 = some .bool by kernel_rfl) parts rfl ⟨h1, h2, h3, h4, h5⟩ rfl⟩

def start (os : Os) : World := World.doorLaid Tryd.prog 31 os
theorem start_met (os : Os) : laidMetH Tryd.prog Rows.oopsOutermostRow.laid ((start os).forCall (fun _ _ => 0) ⟨#[], #[.int .i64 0, .int .i64 0, .int .i64 0, .int .i64 0, .int .i64 0, .string ⟨#[]⟩], []⟩).memory := laidMetH_of_parts (laidMet_of_run' 8 (by kernel_rfl) (by kernel_rfl)) (by kernel_rfl)
theorem reads (os : Os) {H : Type} (enc : TypeId × Value → H) : DataW.whole enc Tryd.prog ((start os).forCall (fun _ _ => 0) ⟨#[], #[.int .i64 0, .int .i64 0, .int .i64 0, .int .i64 0, .int .i64 0, .string ⟨#[]⟩], []⟩).memory Tryd.f4.params.toList Rows.oopsOutermostSpec.vars false (#[.int .i64 0, .int .i64 0, .int .i64 0, .int .i64 0, .int .i64 0, .string ⟨#[]⟩] : Array Value).toList 8 = some ([.lit (.int .i64 0), .lit (.int .i64 0), .lit (.int .i64 0), .lit (.int .i64 0), .lit (.int .i64 0), .lit (.string [])], [], []) := by kernel_rfl
set_option maxRecDepth 100000 in
theorem lifted (os : Os) (started : os.Started) (H : Type) (enc : TypeId × Value → H) (F : Stop.Interp) :
    ReturnsInHanded {} Tryd.checked os 4 .any ((OpenSpec.ofChange Rows.oopsOutermostSpec).preRow enc Tryd.prog Tryd.f4 Rows.oopsOutermostRow.domain false Rows.oopsOutermostRow.laid) (((OpenSpec.ofChange Rows.oopsOutermostSpec).at F).post enc Tryd.prog Tryd.f4 false true false false) := by
  refine returnsInHanded_of_row (C := Tryd.checked) (s := OpenSpec.ofChange Rows.oopsOutermostSpec) own started (by kernel_rfl) Tryd.func4
    (witness_row_atRef (enc := enc) (C := Tryd.checked) false (start os) #[.int .i64 0, .int .i64 0, .int .i64 0, .int .i64 0, .int .i64 0, .string ⟨#[]⟩] rfl (by kernel_rfl) (by kernel_rfl) (by kernel_rfl)
      (OpenSpec.preRow_of_cond 8 (reads os enc) (by kernel_rfl) (fun k hk => by cases hk) (by kernel_rfl) (start_met os))) ?_
  intro W base args ds gs before hok hW _ _ _ hL _ _
  exact contract H enc W base args ds gs before hok hW hL
theorem said : Rows.OopsOutermostSaid :=
  OpenClaim.holds_of_cond 4 Tryd.f4 rfl rfl rfl rfl rfl rfl rfl ⟨rfl, rfl, rfl, rfl, rfl⟩ rfl rfl rfl rfl rfl (by kernel_rfl) Tryd.func4 (by kernel_rfl)
    (of_decide_eq_true (by kernel_rfl)) (by unfold Func.isWrapper; first | (rw [if_pos (by decide +kernel)]; kernel_rfl) | (rw [if_neg (by decide +kernel)]; exact ⟨rfl, rfl⟩))
    (fun os started H enc _ F => by rw [OpenClaim.pre_eq_preRow]; exact lifted os started H enc F)
theorem plain (f : FuncId) (fn : Func) (hf : Tryd.pinned.checked.prog.funcNamed "taproot/taprootlaw3.OopsOutermost" = some f) (hfn : Tryd.pinned.checked.prog.funcs[f]? = some fn) :
    true = Tryd.pinned.checked.prog.looks [] ∧ ∀ (j : Nat) t, fn.params[j]? = some t → Tryd.pinned.checked.prog.wantsStandIn t = false := by
  obtain rfl : f = 4 := Option.some.inj ((show Tryd.prog.funcNamed "taproot/taprootlaw3.OopsOutermost" = some 4 by kernel_rfl).symm.trans hf) |>.symm
  obtain rfl : fn = Tryd.f4 := (Option.some.inj (Tryd.func4.symm.trans hfn)).symm
  refine ⟨by kernel_rfl, fun j t ht => ?_⟩
  have hm : t ∈ Tryd.f4.params.toList := by
    rw [Array.mem_toList_iff]; exact Array.mem_of_getElem? ht
  have all : ∀ t ∈ Tryd.f4.params.toList, Tryd.pinned.checked.prog.wantsStandIn t = false := by
    have h : Tryd.f4.params.toList.all (fun t => !Tryd.prog.wantsStandIn t) = true := by kernel_rfl
    intro t ht
    have := List.all_eq_true.1 h t ht
    rw [Bool.not_eq_true'] at this
    exact this
  exact all t hm
theorem card : Rows.OopsOutermostCardSaid :=
  Claim7.holds_tied_plain_at .later [] _ _ _ _ said (fun _ h => by cases h) (by kernel_rfl) (fun _ h => by cases h) oopsOutermost_row_tie rfl ⟨rfl, rfl⟩ (by kernel_rfl) rfl plain (by kernel_rfl)
end
end OopsOutermost
end Go.Proofs.YtihjokkmkdhhpaaDoor
