/- The law EvalKnown answers true: the row's statement and its card are proved. No condition beyond the row's own. -/
import Derived.Test.YtimfhgmcaflkdaaGreatDoorCards
import Derived.Test.YtimfhgmcaflkdaaGreatDoorTie
import Derived.Test.YtimfhgmcaflkdaaGreatDoorEKB0
import Derived.Test.YtimfhgmcaflkdaaGreatDoorEKB1
import Derived.Test.YtimfhgmcaflkdaaGreatDoorEKB2
import Derived.Test.YtimfhgmcaflkdaaGreatDoorEKB3
import Derived.Test.YtimfhgmcaflkdaaGreatDoorEKB4
namespace Go.Proofs.YtimfhgmcaflkdaaGreatDoor
open Go.AS
namespace EvalKnown
noncomputable section
open Go.ChangeShapes Go.WideShapes Go.ChangeAt Go.RowKit

def tab4 : List (List AV × AV) := [ask0]
theorem tab4_ok : ∀ e ∈ tab4, Plain e ∧ firstR (S X 100 4 e.1 1 .nil []) = some e.2 := by
  intro e he
  simp only [tab4, List.mem_cons, List.not_mem_nil, or_false] at he
  rcases he with rfl
  · exact ⟨plain0, run0⟩
def tab13 : List (List AV × AV) := [ask1, ask2, ask3, ask4, ask5, ask6, ask7, ask8, ask9, ask10, ask11, ask12, ask13, ask14]
theorem tab13_ok : ∀ e ∈ tab13, Plain e ∧ firstR (S X 100 13 e.1 1 .nil []) = some e.2 := by
  intro e he
  simp only [tab13, List.mem_cons, List.not_mem_nil, or_false] at he
  rcases he with rfl | rfl | rfl | rfl | rfl | rfl | rfl | rfl | rfl | rfl | rfl | rfl | rfl | rfl
  · exact ⟨plain1, run1⟩
  · exact ⟨plain2, run2⟩
  · exact ⟨plain3, run3⟩
  · exact ⟨plain4, run4⟩
  · exact ⟨plain5, run5⟩
  · exact ⟨plain6, run6⟩
  · exact ⟨plain7, run7⟩
  · exact ⟨plain8, run8⟩
  · exact ⟨plain9, run9⟩
  · exact ⟨plain10, run10⟩
  · exact ⟨plain11, run11⟩
  · exact ⟨plain12, run12⟩
  · exact ⟨plain13, run13⟩
  · exact ⟨plain14, run14⟩
def extF1 (f : FuncId) : Option (Go.AS.Id → Nat → List AV → Hp → Option Res) :=
  (bsel (Nat.beq f 4) (some (memoA tab4))
  (bsel (Nat.beq f 13) (some (memoA tab13)) (extF f)))
def X1 : PX := { P := Tryz.prog, gl := fun g => bsel (Nat.beq g 0) (some (.ref (.lit (.iface 121 (.agg #[.pointer (some ⟨7, 25, none⟩)]))))) none, ext := extF1, own := fun f _ => !(Nat.beq f 3), m := 100000 }
theorem sound1 : X1.Sound := by
  refine ⟨sound.mix, sound.gl, fun f g h => ?_⟩
  have h : extF1 f = some g := h
  unfold extF1 at h
  cases hb4 : Nat.beq f 4
  · rw [hb4, bsel_false] at h
    cases hb13 : Nat.beq f 13
    · rw [hb13, bsel_false] at h
      exact sound.ext f g h
    · rw [hb13, bsel_true] at h; cases h
      obtain rfl := Nat.eq_of_beq_eq_true hb13
      exact memoA_ok sound tab13_ok
  · rw [hb4, bsel_true] at h; cases h
    obtain rfl := Nat.eq_of_beq_eq_true hb4
    exact memoA_ok sound tab4_ok
theorem here {W : World} (h : laidMetH Tryz.prog Rows.evalKnownRow.laid W) : ∃ t fz, W.heap[0]? = some (.cells #[.iface 121 (.agg #[.pointer (some ⟨7, 25, none⟩)])] t fz) :=
  handle_here (x := ("errors.errorType", Rows.laid_errors_errorType)) (r := []) (nm := [101, 114, 114, 111, 114]) (g := 0) (u := 121) (ty := 25) h rfl rfl rfl (by kernel_rfl) (by kernel_rfl) (by kernel_rfl) (by kernel_rfl)
theorem globals {W : World} (h : laidMetH Tryz.prog Rows.evalKnownRow.laid W) : ∀ g x, X1.gl g = some x → VR ⟨fun _ => none, fun b => W.heap[b]?⟩ x (.pointer (some ⟨g, 0, none⟩)) := fun g x hx => by
  have hx : bsel (Nat.beq g 0) (some (.ref (.lit (.iface 121 (.agg #[.pointer (some ⟨7, 25, none⟩)]))))) none = some x := hx
  cases hb : Nat.beq g 0
  · rw [hb, bsel_false] at hx; cases hx
  · rw [hb, bsel_true] at hx; cases hx
    obtain rfl := Nat.eq_of_beq_eq_true hb
    obtain ⟨t, fz, hh⟩ := here h
    exact handle_ref hh
theorem runs : firstR (S X1 100 3 [] 1 .nil []) = some (.lit (.bool true)) := by kernel_rfl
theorem laid : Laid Tryz.prog := ⟨by kernel_rfl, by kernel_rfl, by kernel_rfl⟩
theorem own : ownKnob Tryz.prog.godebug = none := by kernel_rfl
theorem retType : Tryz.f3.resultTypes = #[4] := by kernel_rfl
theorem contract (H : Type) (enc : TypeId × Value → H) (W : World) (args : Array Value) (ds gs : List (DataW H)) (before : List MemPlace)
    (hW : DataW.Whole enc Tryz.prog Tryz.f3.params.toList Rows.evalKnownSpec.vars false W args.toList ds gs before) (hL : laidMetH Tryz.prog Rows.evalKnownRow.laid W) :
    Calls Tryz.prog 3 args W fun e W' => ∃ v, e = .returned v ∧ Rows.evalKnownSpec.post enc Tryz.prog Tryz.f3 false true false false W args v W' := by
  have hW0 := hW
  obtain ⟨p, q, hA, _⟩ := hW
  rw [Tryz.params3] at hA
  obtain ⟨rfl, rfl, rfl⟩ := trodAll_none hA
  have hr := runs
  unfold firstR at hr
  split at hr
  · rename_i x c' σ' ws' hs; cases hr
    obtain ⟨code, hcode⟩ : ∃ code, Tryz.f3.body = some code := Option.isSome_iff_exists.1 (show Tryz.f3.body.isSome = true by kernel_rfl)
    refine (S_calls sound1 Tryz.func3 hcode (by kernel_rfl) hs (m := fun b => W.heap[b]?) (w := W) (fun b o h => h) (globals hL) (vals := []) .vnil).mono ?_
    rintro e W' ⟨v, E', rfl, hv, _, h1, h2, h3, h4, h5⟩
    have hv' := hv.lit_inv
    subst hv'
    exact ⟨_, rfl, law_post laid hW0 retType Tryz.underlying4 (by rw [Tryz.params3]; intro t ht; cases ht) rfl ⟨h1, h2, h3, h4, h5⟩ rfl⟩
  · cases hr

def start (os : Os) : World := World.doorLaid Tryz.prog 200 os
theorem start_met (os : Os) : laidMetH Tryz.prog Rows.evalKnownRow.laid ((start os).forCall (fun _ _ => 0) ⟨#[], #[], []⟩).memory := laidMetH_of_parts (laidMet_of_run' 8 (by kernel_rfl) (by kernel_rfl)) (by kernel_rfl)
theorem reads (os : Os) {H : Type} (enc : TypeId × Value → H) : DataW.whole enc Tryz.prog ((start os).forCall (fun _ _ => 0) ⟨#[], #[], []⟩).memory Tryz.f3.params.toList Rows.evalKnownSpec.vars false (#[] : Array Value).toList 8 = some ([], [], []) := by kernel_rfl
set_option maxRecDepth 100000 in
theorem lifted (os : Os) (started : os.Started) (H : Type) (enc : TypeId × Value → H) (F : Stop.Interp) :
    ReturnsInHanded {} Tryz.checked os 3 .any ((OpenSpec.ofChange Rows.evalKnownSpec).preRow enc Tryz.prog Tryz.f3 Rows.evalKnownRow.domain false Rows.evalKnownRow.laid) (((OpenSpec.ofChange Rows.evalKnownSpec).at F).post enc Tryz.prog Tryz.f3 false true false false) := by
  refine returnsInHanded_of_row (C := Tryz.checked) (s := OpenSpec.ofChange Rows.evalKnownSpec) own started (by kernel_rfl) Tryz.func3
    (witness_row_atRef (enc := enc) (C := Tryz.checked) false (start os) #[] rfl (by kernel_rfl) (by kernel_rfl) (by kernel_rfl)
      (OpenSpec.preRow_of_cond 8 (reads os enc) (by kernel_rfl) (fun k hk => by cases hk) (by kernel_rfl) (start_met os))) ?_
  intro W base args ds gs before _ hW _ _ _ hL _ _
  exact contract H enc W args ds gs before hW hL
theorem said : Rows.EvalKnownSaid :=
  OpenClaim.holds_of_cond 3 Tryz.f3 rfl rfl rfl rfl rfl rfl rfl ⟨rfl, rfl, rfl, rfl, rfl⟩ rfl rfl rfl rfl rfl (by kernel_rfl) Tryz.func3 (by kernel_rfl)
    (of_decide_eq_true (by kernel_rfl)) (by unfold Func.isWrapper; first | (rw [if_pos (by decide +kernel)]; kernel_rfl) | (rw [if_neg (by decide +kernel)]; exact ⟨rfl, rfl⟩))
    (fun os started H enc _ F => by rw [OpenClaim.pre_eq_preRow]; exact lifted os started H enc F)
theorem plain (f : FuncId) (fn : Func) (hf : Tryz.pinned.checked.prog.funcNamed "taproot/taprootlaw20.EvalKnown" = some f) (hfn : Tryz.pinned.checked.prog.funcs[f]? = some fn) :
    true = Tryz.pinned.checked.prog.looks [] ∧ ∀ (j : Nat) t, fn.params[j]? = some t → Tryz.pinned.checked.prog.wantsStandIn t = false := by
  obtain rfl : f = 3 := Option.some.inj ((show Tryz.prog.funcNamed "taproot/taprootlaw20.EvalKnown" = some 3 by kernel_rfl).symm.trans hf) |>.symm
  obtain rfl : fn = Tryz.f3 := (Option.some.inj (Tryz.func3.symm.trans hfn)).symm
  refine ⟨by kernel_rfl, fun j t ht => ?_⟩
  rw [Tryz.params3] at ht
  simp at ht
theorem card : Rows.EvalKnownCardSaid :=
  Claim7.holds_tied_plain_at .later [] _ _ _ _ said (fun _ h => by cases h) (by kernel_rfl) (fun _ h => by cases h) evalKnown_row_tie rfl ⟨rfl, rfl⟩ (by kernel_rfl) rfl plain (by kernel_rfl)
end
end EvalKnown
end Go.Proofs.YtimfhgmcaflkdaaGreatDoor
