/- The law ServiceKnown answers true: the row's statement and its card are proved. No condition beyond the row's own. -/
import Derived.Test.YtfiiemjbbmdlnaaGreatDoorCards
import Derived.Test.YtfiiemjbbmdlnaaGreatDoorTie
import Derived.Test.YtfiiemjbbmdlnaaGreatDoorSVC0
namespace Go.Proofs.YtfiiemjbbmdlnaaGreatDoor
open Go.AS
namespace ServiceKnown
noncomputable section
open Go.ChangeShapes Go.WideShapes Go.ChangeAt Go.RowKit

theorem here {W : World} (h : laidMetH Tryz.prog Rows.serviceKnownRow.laid W) : ∃ t fz, W.heap[0]? = some (.cells #[.iface 245 (.agg #[.pointer (some ⟨7, 24, none⟩)])] t fz) :=
  handle_here (x := ("errors.errorType", Rows.laid_errors_errorType)) (r := []) (nm := [101, 114, 114, 111, 114]) (g := 0) (u := 245) (ty := 24) h rfl rfl rfl (by kernel_rfl) (by kernel_rfl) (by kernel_rfl) (by kernel_rfl)
theorem globals {W : World} (h : laidMetH Tryz.prog Rows.serviceKnownRow.laid W) : ∀ g x, X6a.gl g = some x → GV ⟨fun _ => none, fun b => W.heap[b]?⟩ x g := fun g x hx => by
  have hx : bsel (Nat.beq g 0) (some (.ref (.lit (.iface 245 (.agg #[.pointer (some ⟨7, 24, none⟩)]))))) none = some x := hx
  cases hb : Nat.beq g 0
  · rw [hb, bsel_false] at hx; cases hx
  · rw [hb, bsel_true] at hx; cases hx
    obtain rfl := Nat.eq_of_beq_eq_true hb
    obtain ⟨t, fz, hh⟩ := here h
    exact ⟨handle_ref hh, fun vs hv => (by cases hv)⟩
theorem runs : firstR (S X6a 100 3 [] 1 .nil []) = some (.lit (.bool true)) := by kernel_rfl
theorem laid : Laid Tryz.prog := ⟨by kernel_rfl, by kernel_rfl, by kernel_rfl⟩
theorem own : ownKnob Tryz.prog.godebug = none := by kernel_rfl
theorem retType : Tryz.f3.resultTypes = #[4] := by kernel_rfl
theorem contract (H : Type) (enc : TypeId × Value → H) (W : World) (args : Array Value) (ds gs : List (DataW H)) (before : List MemPlace)
    (hW : DataW.Whole enc Tryz.prog Tryz.f3.params.toList Rows.serviceKnownSpec.vars false W args.toList ds gs before) (hL : laidMetH Tryz.prog Rows.serviceKnownRow.laid W) :
    Calls Tryz.prog 3 args W fun e W' => ∃ v, e = .returned v ∧ Rows.serviceKnownSpec.post enc Tryz.prog Tryz.f3 false true false false W args v W' := by
  have hW0 := hW
  obtain ⟨p, q, hA, _⟩ := hW
  rw [Tryz.params3] at hA
  obtain ⟨rfl, rfl, rfl⟩ := trodAll_none hA
  have hr := runs
  unfold firstR at hr
  split at hr
  · rename_i x c' σ' ws' hs; cases hr
    obtain ⟨code, hcode⟩ : ∃ code, Tryz.f3.body = some code := Option.isSome_iff_exists.1 (show Tryz.f3.body.isSome = true by kernel_rfl)
    refine (S_calls sound6a Tryz.func3 hcode (by kernel_rfl) hs (m := fun b => W.heap[b]?) (w := W) (fun b o h => h) (globals hL) (vals := []) .vnil).mono ?_
    rintro e W' ⟨v, E', rfl, hv, _, h1, h2, h3, h4, h5⟩
    have hv' := hv.lit_inv
    subst hv'
    exact ⟨_, rfl, law_post laid hW0 retType Tryz.underlying4 (by rw [Tryz.params3]; intro t ht; cases ht) rfl ⟨h1, h2, h3, h4, h5⟩ rfl⟩
  · cases hr

def start (os : Os) : World := World.doorLaid Tryz.prog 200 os
theorem start_met (os : Os) : laidMetH Tryz.prog Rows.serviceKnownRow.laid ((start os).forCall (fun _ _ => 0) ⟨#[], #[], []⟩).memory := laidMetH_of_parts (laidMet_of_run' 8 (by kernel_rfl) (by kernel_rfl)) (by kernel_rfl)
theorem reads (os : Os) {H : Type} (enc : TypeId × Value → H) : DataW.whole enc Tryz.prog ((start os).forCall (fun _ _ => 0) ⟨#[], #[], []⟩).memory Tryz.f3.params.toList Rows.serviceKnownSpec.vars false (#[] : Array Value).toList 8 = some ([], [], []) := by kernel_rfl
set_option maxRecDepth 100000 in
theorem lifted (os : Os) (started : os.Started) (H : Type) (enc : TypeId × Value → H) (F : Stop.Interp) :
    ReturnsInHanded {} Tryz.checked os 3 .any ((OpenSpec.ofChange Rows.serviceKnownSpec).preRow enc Tryz.prog Tryz.f3 Rows.serviceKnownRow.domain false Rows.serviceKnownRow.laid) (((OpenSpec.ofChange Rows.serviceKnownSpec).at F).post enc Tryz.prog Tryz.f3 false true false false) := by
  refine returnsInHanded_of_row (C := Tryz.checked) (s := OpenSpec.ofChange Rows.serviceKnownSpec) own started (by kernel_rfl) Tryz.func3
    (witness_row_atRef (enc := enc) (C := Tryz.checked) false (start os) #[] rfl (by kernel_rfl) (by kernel_rfl) (by kernel_rfl)
      (OpenSpec.preRow_of_cond 8 (reads os enc) (by kernel_rfl) (fun k hk => by cases hk) (by kernel_rfl) (start_met os))) ?_
  intro W base args ds gs before _ hW _ _ _ hL _ _
  exact contract H enc W args ds gs before hW hL
theorem both {a b : Bool} (ha : a = true) (hb : b = true) : (a && b) = true := by rw [ha, hb]; rfl
set_option maxHeartbeats 100000000 in
theorem closed : joinedFacts Tryz.pinned.checked.prog 3 Tryz.f3 (OpenSpec.ofChange Rows.serviceKnownSpec).bare Rows.serviceKnownRow = true := by
  unfold joinedFacts
  iterate 31 refine both ?_ (by as_aux_lemma => kernel_rfl)
  as_aux_lemma => kernel_rfl
theorem said : Rows.ServiceKnownSaid :=
  OpenClaim.holds_of_cond 3 Tryz.f3 rfl rfl rfl rfl rfl rfl rfl ⟨rfl, rfl, rfl, rfl, rfl⟩ rfl rfl rfl rfl rfl (by kernel_rfl) Tryz.func3 closed
    (of_decide_eq_true (by kernel_rfl)) (by unfold Func.isWrapper; first | (rw [if_pos (by decide +kernel)]; kernel_rfl) | (rw [if_neg (by decide +kernel)]; exact ⟨rfl, rfl⟩))
    (fun os started H enc _ F => by rw [OpenClaim.pre_eq_preRow]; exact lifted os started H enc F)
theorem plain (f : FuncId) (fn : Func) (hf : Tryz.pinned.checked.prog.funcNamed "taproot/taprootlaw26.ServiceKnown" = some f) (hfn : Tryz.pinned.checked.prog.funcs[f]? = some fn) :
    true = Tryz.pinned.checked.prog.looks [] ∧ ∀ (j : Nat) t, fn.params[j]? = some t → Tryz.pinned.checked.prog.wantsStandIn t = false := by
  obtain rfl : f = 3 := Option.some.inj ((show Tryz.prog.funcNamed "taproot/taprootlaw26.ServiceKnown" = some 3 by kernel_rfl).symm.trans hf) |>.symm
  obtain rfl : fn = Tryz.f3 := (Option.some.inj (Tryz.func3.symm.trans hfn)).symm
  refine ⟨by kernel_rfl, fun j t ht => ?_⟩
  rw [Tryz.params3] at ht
  simp at ht
theorem goes_of_none {P : Program} (h : P.funcs.any Func.goes = false) (f : FuncId) : P.goes f = false := by
  have hn : ∀ g : FuncId, (P.funcs[g]?).any Func.goes = false := fun g => by
    cases hg : P.funcs[g]? with
    | none => rfl
    | some fn =>
      have hm := Array.mem_of_getElem? hg
      rw [Array.any_eq_false'] at h
      simpa using h fn hm
  unfold Program.goes
  rw [h, Bool.and_false, Bool.or_false, List.any_eq_false]
  intro g _ hg
  rw [hn g] at hg
  cases hg
theorem no_go : Tryz.pinned.checked.prog.funcs.any Func.goes = false := by kernel_rfl
theorem named3 : Tryz.pinned.checked.prog.funcNamed "taproot/taprootlaw26.ServiceKnown" = some 3 := by kernel_rfl
theorem goes_by : false = Rows.serviceKnownRow.goesBy Tryz.pinned.checked.prog := by
  show false = (Tryz.pinned.checked.prog.goesFrom "taproot/taprootlaw26.ServiceKnown" || false)
  rw [Bool.or_false]
  unfold Program.goesFrom
  rw [named3, Option.any_some, goes_of_none no_go 3]
theorem card : Rows.ServiceKnownCardSaid :=
  Claim7.holds_tied_plain_at .later [] _ _ _ _ said (fun _ h => by cases h) (by kernel_rfl) (fun _ h => by cases h) serviceKnown_row_tie rfl ⟨rfl, rfl⟩ (by kernel_rfl) rfl plain goes_by
end
end ServiceKnown
end Go.Proofs.YtfiiemjbbmdlnaaGreatDoor
