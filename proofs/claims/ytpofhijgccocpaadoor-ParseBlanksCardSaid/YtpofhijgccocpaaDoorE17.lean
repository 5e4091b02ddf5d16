/- The law ParseBlanks answers true for every input: the row's statement and its card are proved. No condition beyond the row's own. -/
import Derived.Test.YtpofhijgccocpaaDoorCards
import Derived.Test.YtpofhijgccocpaaDoorTie
import Derived.Test.YtpofhijgccocpaaDoorGd
namespace Go.Proofs.YtpofhijgccocpaaDoor
open Go.AS
namespace ParseBlanks
noncomputable section
open Go.ChangeShapes Go.WideShapes Go.ChangeAt Go.RowKit
theorem met {W : World} (h : laidMetH Tryd.prog Rows.parseBlanksRow.laid W) : laidMet Tryd.prog Rows.parseBlanksRow.laid W := Eq.mp (by kernel_rfl) h
theorem m1 : ("strconv.ErrSyntax", dErr eSyn.data.toList) ∈ Rows.parseBlanksRow.laid := .tail _ (.tail _ (.tail _ (.tail _ (.head _))))
theorem m2 : ("strconv.ErrRange", dErr eRan.data.toList) ∈ Rows.parseBlanksRow.laid := .tail _ (.tail _ (.tail _ (.head _)))
theorem m3 : ("internal/strconv.uint64pow10", (Lib.tabData .u64 powL : DataW Unit)) ∈ Rows.parseBlanksRow.laid := .tail _ (.tail _ (.head _))
theorem laid : Laid Tryd.prog := ⟨by kernel_rfl, by kernel_rfl, by kernel_rfl⟩
theorem own : ownKnob Tryd.prog.godebug = none := by kernel_rfl
theorem retType : Tryd.f4.resultTypes = #[4] := by kernel_rfl
theorem parts : ∀ t ∈ Tryd.f4.params.toList, t < Tryd.prog.types.size := by decide +kernel
set_option maxRecDepth 100000 in
theorem contract (H : Type) (enc : TypeId × Value → H) (W : World) (base : Nat) (args : Array Value) (ds gs : List (DataW H)) (before : List MemPlace)
  (hok : ∀ (j : Nat) t v, Tryd.f4.params[j]? = some t → args[j]? = some v → Value.okWide Tryd.prog W .any base t v)
  (hW : DataW.Whole enc Tryd.prog Tryd.f4.params.toList Rows.parseBlanksSpec.vars false W args.toList ds gs before) (hL : laidMetH Tryd.prog Rows.parseBlanksRow.laid W) :
  Calls Tryd.prog 4 args W fun e W' => ∃ v, e = .returned v ∧ Rows.parseBlanksSpec.post enc Tryd.prog Tryd.f4 false true false false W args v W' := by
 have hW0 := hW
 obtain ⟨p, q, hA, _⟩ := hW
 rw [Tryd.params4] at hA
 change DataW.TrodAll enc Tryd.prog W 0 (fun _ => true) true [22, 22] args.toList ds p at hA
 obtain ⟨al⟩ := args
 obtain ⟨v0, vs0, d0, ds0, p0, q0, hargs0, rfl, rfl, hd0, hrest0⟩ := trodAll_cons hA
 obtain rfl : al = v0 :: vs0 := by simpa using hargs0
 obtain ⟨v1, vs1, d1, ds1, p1, q1, hargs1, rfl, rfl, hd1, hrest1⟩ := trodAll_cons hrest0
 obtain rfl := hargs1
 obtain ⟨rfl, rfl, rfl⟩ := trodAll_nil hrest1
 obtain ⟨sa, sl, sc, rfl⟩ := okWide_slice u_ints (hok 0 22 _ (by rw [show Tryd.f4.params = #[22, 22] by kernel_rfl]; rfl) rfl)
 obtain ⟨n1, hr1⟩ := hd0
 obtain ⟨xs, hxs, hb⟩ := read_xs hr1
 obtain ⟨sa2, sl2, sc2, rfl⟩ := okWide_slice u_ints (hok 1 22 _ (by rw [show Tryd.f4.params = #[22, 22] by kernel_rfl]; rfl) rfl)
 obtain ⟨n2, hr2⟩ := hd1
 obtain ⟨ys, hys, hb2⟩ := read_xs hr2
 refine (law_runBl (met hL) m1 m2 m3 hb hxs hys).mono ?_
 rintro e W' ⟨rfl, h1, h2, h3, h4, h5⟩
 exact ⟨_, rfl, law_post laid hW0 retType (show Tryd.prog.underlying 4 = some .bool by kernel_rfl) parts rfl ⟨h1, h2, h3, h4, h5⟩ rfl⟩
def start (os : Os) : World := World.doorLaid Tryd.prog 100 os
theorem start_met (os : Os) : laidMetH Tryd.prog Rows.parseBlanksRow.laid ((start os).forCall (fun _ _ => 0) ⟨#[], #[.slice none 0 0, .slice none 0 0], []⟩).memory := laidMetH_of_parts (laidMet_of_run' 8 (by kernel_rfl) (by kernel_rfl)) (by kernel_rfl)
theorem reads (os : Os) {H : Type} (enc : TypeId × Value → H) : DataW.whole enc Tryd.prog ((start os).forCall (fun _ _ => 0) ⟨#[], #[.slice none 0 0, .slice none 0 0], []⟩).memory Tryd.f4.params.toList Rows.parseBlanksSpec.vars false (#[.slice none 0 0, .slice none 0 0] : Array Value).toList 8 = some ([.nil, .nil], [], []) := by kernel_rfl
set_option maxRecDepth 100000 in
theorem lifted (os : Os) (started : os.Started) (H : Type) (enc : TypeId × Value → H) (F : Stop.Interp) :
  ReturnsInHanded {} Tryd.checked os 4 .any ((OpenSpec.ofChange Rows.parseBlanksSpec).preRow enc Tryd.prog Tryd.f4 Rows.parseBlanksRow.domain false Rows.parseBlanksRow.laid) (((OpenSpec.ofChange Rows.parseBlanksSpec).at F).post enc Tryd.prog Tryd.f4 false true false false) := by
 refine returnsInHanded_of_row (C := Tryd.checked) (s := OpenSpec.ofChange Rows.parseBlanksSpec) own started (by kernel_rfl) Tryd.func4
  (witness_row_atRef (enc := enc) (C := Tryd.checked) false (start os) #[.slice none 0 0, .slice none 0 0] rfl (by kernel_rfl) (by kernel_rfl) (by kernel_rfl)
   (OpenSpec.preRow_of_cond 8 (reads os enc) (by kernel_rfl) (fun k hk => by cases hk) (by kernel_rfl) (start_met os))) ?_
 intro W base args ds gs before hok hW _ _ _ hL _ _
 exact contract H enc W base args ds gs before hok hW hL
theorem said : Rows.ParseBlanksSaid :=
 OpenClaim.holds_of_cond 4 Tryd.f4 rfl rfl rfl rfl rfl rfl rfl ⟨rfl, rfl, rfl, rfl, rfl⟩ rfl rfl rfl rfl rfl (by kernel_rfl) Tryd.func4 (by kernel_rfl)
  (of_decide_eq_true (by kernel_rfl)) (by unfold Func.isWrapper; first | (rw [if_pos (by decide +kernel)]; kernel_rfl) | (rw [if_neg (by decide +kernel)]; exact ⟨rfl, rfl⟩))
  (fun os started H enc _ F => by rw [OpenClaim.pre_eq_preRow]; exact lifted os started H enc F)
theorem plain (f : FuncId) (fn : Func) (hf : Tryd.pinned.checked.prog.funcNamed "taproot/taprootlaw18.ParseBlanks" = some f) (hfn : Tryd.pinned.checked.prog.funcs[f]? = some fn) :
  true = Tryd.pinned.checked.prog.looks [] ∧ ∀ (j : Nat) t, fn.params[j]? = some t → Tryd.pinned.checked.prog.wantsStandIn t = false := by
 obtain rfl : f = 4 := Option.some.inj ((show Tryd.prog.funcNamed "taproot/taprootlaw18.ParseBlanks" = some 4 by kernel_rfl).symm.trans hf) |>.symm
 obtain rfl : fn = Tryd.f4 := (Option.some.inj (Tryd.func4.symm.trans hfn)).symm
 refine ⟨by kernel_rfl, fun j t ht => ?_⟩
 have hm : t ∈ Tryd.f4.params.toList := by
  rw [Array.mem_toList_iff]; exact Array.mem_of_getElem? ht
 have all : ∀ t ∈ Tryd.f4.params.toList, Tryd.pinned.checked.prog.wantsStandIn t = false := by
  have h : Tryd.f4.params.toList.all (fun t => !Tryd.prog.wantsStandIn t) = true := by kernel_rfl
  intro t ht
  have := List.all_eq_true.1 h t ht
  rw [Bool.not_eq_true'] at this
  exact this
 exact all t hm
theorem card : Rows.ParseBlanksCardSaid :=
 Claim7.holds_tied_plain_at .later [] _ _ _ _ said (fun _ h => by cases h) (by kernel_rfl) (fun _ h => by cases h) parseBlanks_row_tie rfl ⟨rfl, rfl⟩ (by kernel_rfl) rfl plain (by kernel_rfl)
end
end ParseBlanks
end Go.Proofs.YtpofhijgccocpaaDoor
