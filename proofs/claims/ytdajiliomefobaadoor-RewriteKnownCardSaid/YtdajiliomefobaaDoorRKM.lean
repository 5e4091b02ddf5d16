/- The law RewriteKnown answers true: the row's statement and its card are proved. No condition beyond the row's own. -/
import Derived.Test.YtdajiliomefobaaDoorCards
import Derived.Test.YtdajiliomefobaaDoorTie
import Derived.Test.YtdajiliomefobaaDoorRKB0
namespace Go.Proofs.YtdajiliomefobaaDoor
open Go.AS
namespace RewriteKnown
noncomputable section
open Go.ChangeShapes Go.WideShapes Go.ChangeAt Go.RowKit

def tab15 : List (List Value × Value) := [ask0, ask1, ask2, ask3, ask4, ask5, ask6, ask7, ask8, ask9, ask10, ask11, ask12, ask13, ask14, ask15]
theorem tab15_ok : ∀ e ∈ tab15, firstR (S X 100 15 (e.1.map .lit) 1 .nil []) = some (.lit e.2) := by
  intro e he
  simp only [tab15, List.mem_cons, List.not_mem_nil, or_false] at he
  rcases he with rfl | rfl | rfl | rfl | rfl | rfl | rfl | rfl | rfl | rfl | rfl | rfl | rfl | rfl | rfl | rfl
  · exact run0
  · exact run1
  · exact run2
  · exact run3
  · exact run4
  · exact run5
  · exact run6
  · exact run7
  · exact run8
  · exact run9
  · exact run10
  · exact run11
  · exact run12
  · exact run13
  · exact run14
  · exact run15
def extF1 (f : FuncId) : Option (Go.AS.Id → Nat → List AV → Hp → Option Res) :=
  (bsel (Nat.beq f 15) (some (memoT tab15)) (extF f))
def X1 : PX := { P := Tryd.prog, gl := fun _ => none, ext := extF1, own := fun _ _ => true, m := 100000 }
theorem sound1 : X1.Sound := by
  refine ⟨sound.mix, fun g x h => (by cases h), fun f g h => ?_⟩
  have h : extF1 f = some g := h
  unfold extF1 at h
  cases hb15 : Nat.beq f 15
  · rw [hb15, bsel_false] at h
    exact sound.ext f g h
  · rw [hb15, bsel_true] at h; cases h
    obtain rfl := Nat.eq_of_beq_eq_true hb15
    exact memo_ok sound tab15_ok
theorem runs : firstR (S X1 100 5 [] 1 .nil []) = some (.lit (.bool true)) := by kernel_rfl
theorem laid : Laid Tryd.prog := ⟨by kernel_rfl, by kernel_rfl, by kernel_rfl⟩
theorem own : ownKnob Tryd.prog.godebug = none := by kernel_rfl
theorem retType : Tryd.f5.resultTypes = #[4] := by kernel_rfl
theorem contract (H : Type) (enc : TypeId × Value → H) (W : World) (args : Array Value) (ds gs : List (DataW H)) (before : List MemPlace)
    (hW : DataW.Whole enc Tryd.prog Tryd.f5.params.toList Rows.rewriteKnownSpec.vars false W args.toList ds gs before) :
    Calls Tryd.prog 5 args W fun e W' => ∃ v, e = .returned v ∧ Rows.rewriteKnownSpec.post enc Tryd.prog Tryd.f5 false true false false W args v W' := by
  have hW0 := hW
  obtain ⟨p, q, hA, _⟩ := hW
  rw [Tryd.params5] at hA
  obtain ⟨rfl, rfl, rfl⟩ := trodAll_none hA
  have hr := runs
  unfold firstR at hr
  split at hr
  · rename_i x c' σ' ws' hs; cases hr
    obtain ⟨code, hcode⟩ : ∃ code, Tryd.f5.body = some code := Option.isSome_iff_exists.1 (show Tryd.f5.body.isSome = true by kernel_rfl)
    refine (S_calls sound1 Tryd.func5 hcode (by kernel_rfl) hs (m := fun _ => none) (w := W) (fun b o h => (by cases h)) (fun g x h => (by cases h)) (vals := []) .vnil).mono ?_
    rintro e W' ⟨v, E', rfl, hv, _, h1, h2, h3, h4, h5⟩
    have hv' := hv.lit_inv
    subst hv'
    exact ⟨_, rfl, law_post laid hW0 retType Tryd.underlying4 (by rw [Tryd.params5]; intro t ht; cases ht) rfl ⟨h1, h2, h3, h4, h5⟩ rfl⟩
  · cases hr

def start (os : Os) : World := World.doorLaid Tryd.prog 62 os
theorem start_met (os : Os) : laidMet Tryd.prog Rows.rewriteKnownRow.laid ((start os).forCall (fun _ _ => 0) ⟨#[], #[], []⟩).memory := laidMet_of_run' 8 (by kernel_rfl) (by kernel_rfl)
theorem reads (os : Os) {H : Type} (enc : TypeId × Value → H) : DataW.whole enc Tryd.prog ((start os).forCall (fun _ _ => 0) ⟨#[], #[], []⟩).memory Tryd.f5.params.toList Rows.rewriteKnownSpec.vars false (#[] : Array Value).toList 8 = some ([], [], []) := by kernel_rfl
set_option maxRecDepth 100000 in
theorem lifted (os : Os) (started : os.Started) (H : Type) (enc : TypeId × Value → H) (F : Stop.Interp) :
    ReturnsInHanded {} Tryd.checked os 5 .any ((OpenSpec.ofChange Rows.rewriteKnownSpec).preRow enc Tryd.prog Tryd.f5 Rows.rewriteKnownRow.domain false Rows.rewriteKnownRow.laid) (((OpenSpec.ofChange Rows.rewriteKnownSpec).at F).post enc Tryd.prog Tryd.f5 false true false false) := by
  refine returnsInHanded_of_row (C := Tryd.checked) (s := OpenSpec.ofChange Rows.rewriteKnownSpec) own started (by kernel_rfl) Tryd.func5
    (witness_row_atRef (enc := enc) (C := Tryd.checked) false (start os) #[] rfl (by kernel_rfl) (by kernel_rfl) (by kernel_rfl)
      (OpenSpec.preRow_of_cond 8 (reads os enc) (by kernel_rfl) (fun k hk => by cases hk) (by kernel_rfl) (start_met os))) ?_
  intro W base args ds gs before _ hW _ _ _ _ _ _
  exact contract H enc W args ds gs before hW
theorem said : Rows.RewriteKnownSaid :=
  OpenClaim.holds_of_cond 5 Tryd.f5 rfl rfl rfl rfl rfl rfl rfl ⟨rfl, rfl, rfl, rfl, rfl⟩ rfl rfl rfl rfl rfl (by kernel_rfl) Tryd.func5 (by kernel_rfl)
    (of_decide_eq_true (by kernel_rfl)) (by unfold Func.isWrapper; first | (rw [if_pos (by decide +kernel)]; kernel_rfl) | (rw [if_neg (by decide +kernel)]; exact ⟨rfl, rfl⟩))
    (fun os started H enc _ F => by rw [OpenClaim.pre_eq_preRow]; exact lifted os started H enc F)
theorem plain (f : FuncId) (fn : Func) (hf : Tryd.pinned.checked.prog.funcNamed "taproot/taprootlaw19.RewriteKnown" = some f) (hfn : Tryd.pinned.checked.prog.funcs[f]? = some fn) :
    true = Tryd.pinned.checked.prog.looks [] ∧ ∀ (j : Nat) t, fn.params[j]? = some t → Tryd.pinned.checked.prog.wantsStandIn t = false := by
  obtain rfl : f = 5 := Option.some.inj ((show Tryd.prog.funcNamed "taproot/taprootlaw19.RewriteKnown" = some 5 by kernel_rfl).symm.trans hf) |>.symm
  obtain rfl : fn = Tryd.f5 := (Option.some.inj (Tryd.func5.symm.trans hfn)).symm
  refine ⟨by kernel_rfl, fun j t ht => ?_⟩
  rw [Tryd.params5] at ht
  simp at ht
theorem card : Rows.RewriteKnownCardSaid :=
  Claim7.holds_tied_plain_at .later [] _ _ _ _ said (fun _ h => by cases h) (by kernel_rfl) (fun _ h => by cases h) rewriteKnown_row_tie rfl ⟨rfl, rfl⟩ (by kernel_rfl) rfl plain (by kernel_rfl)
end
end RewriteKnown
end Go.Proofs.YtdajiliomefobaaDoor
