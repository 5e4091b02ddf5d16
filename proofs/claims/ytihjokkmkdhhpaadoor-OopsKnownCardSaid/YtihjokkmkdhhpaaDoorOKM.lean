/- The law OopsKnown answers true: the row's statement and its card are proved. No condition beyond the row's own. -/
import Derived.Test.YtihjokkmkdhhpaaDoorCards
import Derived.Test.YtihjokkmkdhhpaaDoorTie
import Derived.Test.YtihjokkmkdhhpaaDoorOKA
namespace Go.Proofs.YtihjokkmkdhhpaaDoor
open Go.AS
namespace OopsKnown
noncomputable section
open Go.ChangeShapes Go.WideShapes Go.ChangeAt Go.RowKit

theorem here {W : World} (h : laidMetH Tryd.prog Rows.oopsKnownRow.laid W) : ∃ t fz, W.heap[0]? = some (.cells #[.iface 90 (.agg #[.pointer (some ⟨4, 25, none⟩)])] t fz) :=
  handle_here (x := ("errors.errorType", Rows.laid_errors_errorType)) (r := []) (nm := [101, 114, 114, 111, 114]) (g := 0) (u := 90) (ty := 25) h rfl rfl rfl (by kernel_rfl) (by kernel_rfl) (by kernel_rfl) (by kernel_rfl)
theorem globals {W : World} (h : laidMetH Tryd.prog Rows.oopsKnownRow.laid W) : ∀ g x, X.gl g = some x → VR ⟨fun _ => none, fun b => W.heap[b]?⟩ x (.pointer (some ⟨g, 0, none⟩)) := fun g x hx => by
  have hx : bsel (Nat.beq g 0) (some (.ref (.lit (.iface 90 (.agg #[.pointer (some ⟨4, 25, none⟩)]))))) none = some x := hx
  cases hb : Nat.beq g 0
  · rw [hb, bsel_false] at hx; cases hx
  · rw [hb, bsel_true] at hx; cases hx
    obtain rfl := Nat.eq_of_beq_eq_true hb
    obtain ⟨t, fz, hh⟩ := here h
    exact handle_ref hh
theorem runs : firstR (S X 100 6 [] 1 .nil []) = some (.lit (.bool true)) := by kernel_rfl
theorem laid : Laid Tryd.prog := ⟨by kernel_rfl, by kernel_rfl, by kernel_rfl⟩
theorem own : ownKnob Tryd.prog.godebug = none := by kernel_rfl
theorem retType : Tryd.f6.resultTypes = #[4] := by kernel_rfl
theorem contract (H : Type) (enc : TypeId × Value → H) (W : World) (args : Array Value) (ds gs : List (DataW H)) (before : List MemPlace)
    (hW : DataW.Whole enc Tryd.prog Tryd.f6.params.toList Rows.oopsKnownSpec.vars false W args.toList ds gs before) (hL : laidMetH Tryd.prog Rows.oopsKnownRow.laid W) :
    Calls Tryd.prog 6 args W fun e W' => ∃ v, e = .returned v ∧ Rows.oopsKnownSpec.post enc Tryd.prog Tryd.f6 false true false false W args v W' := by
  have hW0 := hW
  obtain ⟨p, q, hA, _⟩ := hW
  rw [Tryd.params6] at hA
  obtain ⟨rfl, rfl, rfl⟩ := trodAll_none hA
  have hr := runs
  unfold firstR at hr
  split at hr
  · rename_i x c' σ' ws' hs; cases hr
    obtain ⟨code, hcode⟩ : ∃ code, Tryd.f6.body = some code := Option.isSome_iff_exists.1 (show Tryd.f6.body.isSome = true by kernel_rfl)
    refine (S_calls sound Tryd.func6 hcode (by kernel_rfl) hs (m := fun b => W.heap[b]?) (w := W) (fun b o h => h) (globals hL) (vals := []) .vnil).mono ?_
    rintro e W' ⟨v, E', rfl, hv, _, h1, h2, h3, h4, h5⟩
    have hv' := hv.lit_inv
    subst hv'
    exact ⟨_, rfl, law_post laid hW0 retType Tryd.underlying4 (by rw [Tryd.params6]; intro t ht; cases ht) rfl ⟨h1, h2, h3, h4, h5⟩ rfl⟩
  · cases hr

def start (os : Os) : World := World.doorLaid Tryd.prog 31 os
theorem start_met (os : Os) : laidMetH Tryd.prog Rows.oopsKnownRow.laid ((start os).forCall (fun _ _ => 0) ⟨#[], #[], []⟩).memory := laidMetH_of_parts (laidMet_of_run' 8 (by kernel_rfl) (by kernel_rfl)) (by kernel_rfl)
theorem reads (os : Os) {H : Type} (enc : TypeId × Value → H) : DataW.whole enc Tryd.prog ((start os).forCall (fun _ _ => 0) ⟨#[], #[], []⟩).memory Tryd.f6.params.toList Rows.oopsKnownSpec.vars false (#[] : Array Value).toList 8 = some ([], [], []) := by kernel_rfl
set_option maxRecDepth 100000 in
theorem lifted (os : Os) (started : os.Started) (H : Type) (enc : TypeId × Value → H) (F : Stop.Interp) :
    ReturnsInHanded {} Tryd.checked os 6 .any ((OpenSpec.ofChange Rows.oopsKnownSpec).preRow enc Tryd.prog Tryd.f6 Rows.oopsKnownRow.domain false Rows.oopsKnownRow.laid) (((OpenSpec.ofChange Rows.oopsKnownSpec).at F).post enc Tryd.prog Tryd.f6 false true false false) := by
  refine returnsInHanded_of_row (C := Tryd.checked) (s := OpenSpec.ofChange Rows.oopsKnownSpec) own started (by kernel_rfl) Tryd.func6
    (witness_row_atRef (enc := enc) (C := Tryd.checked) false (start os) #[] rfl (by kernel_rfl) (by kernel_rfl) (by kernel_rfl)
      (OpenSpec.preRow_of_cond 8 (reads os enc) (by kernel_rfl) (fun k hk => by cases hk) (by kernel_rfl) (start_met os))) ?_
  intro W base args ds gs before _ hW _ _ _ hL _ _
  exact contract H enc W args ds gs before hW hL
theorem said : Rows.OopsKnownSaid :=
  OpenClaim.holds_of_cond 6 Tryd.f6 rfl rfl rfl rfl rfl rfl rfl ⟨rfl, rfl, rfl, rfl, rfl⟩ rfl rfl rfl rfl rfl (by kernel_rfl) Tryd.func6 (by kernel_rfl)
    (of_decide_eq_true (by kernel_rfl)) (by unfold Func.isWrapper; first | (rw [if_pos (by decide +kernel)]; kernel_rfl) | (rw [if_neg (by decide +kernel)]; exact ⟨rfl, rfl⟩))
    (fun os started H enc _ F => by rw [OpenClaim.pre_eq_preRow]; exact lifted os started H enc F)
theorem plain (f : FuncId) (fn : Func) (hf : Tryd.pinned.checked.prog.funcNamed "taproot/taprootlaw3.OopsKnown" = some f) (hfn : Tryd.pinned.checked.prog.funcs[f]? = some fn) :
    true = Tryd.pinned.checked.prog.looks [] ∧ ∀ (j : Nat) t, fn.params[j]? = some t → Tryd.pinned.checked.prog.wantsStandIn t = false := by
  obtain rfl : f = 6 := Option.some.inj ((show Tryd.prog.funcNamed "taproot/taprootlaw3.OopsKnown" = some 6 by kernel_rfl).symm.trans hf) |>.symm
  obtain rfl : fn = Tryd.f6 := (Option.some.inj (Tryd.func6.symm.trans hfn)).symm
  refine ⟨by kernel_rfl, fun j t ht => ?_⟩
  rw [Tryd.params6] at ht
  simp at ht
theorem card : Rows.OopsKnownCardSaid :=
  Claim7.holds_tied_plain_at .later [] _ _ _ _ said (fun _ h => by cases h) (by kernel_rfl) (fun _ h => by cases h) oopsKnown_row_tie rfl ⟨rfl, rfl⟩ (by kernel_rfl) rfl plain (by kernel_rfl)
end
end OopsKnown
end Go.Proofs.YtihjokkmkdhhpaaDoor
