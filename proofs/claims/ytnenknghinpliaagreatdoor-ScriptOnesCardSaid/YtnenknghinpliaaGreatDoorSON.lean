/- The law ScriptOnes answers true: the row's statement and its card are proved. No condition beyond the row's own. -/
import Derived.Test.YtnenknghinpliaaGreatDoorCards
import Derived.Test.YtnenknghinpliaaGreatDoorRows
import Derived.LaidByTextLater
import Derived.SevenTiedAt
import Derived.Lay
import Derived.Test.YtnenknghinpliaaGreatDoorSO6
namespace Go.Proofs.YtnenknghinpliaaGreatDoor
open Go
theorem pin_laid_unicode_utf8_first : Tryz.pinned.checked.prog.pinnedFits "unicode/utf8.first" = true := by kernel_rfl
theorem noOwnUnsafe : Tryz.pinned.checked.prog.headLifts.contains "ownunsafe" = false := by kernel_rfl
theorem fits1 : Tryz.pinned.checked.prog.listedFits [("internal/strconv.uint64pow10", Rows.laid_internal_strconv_uint64pow10), ("math/bits.deBruijn32tab", Rows.laid_math_bits_deBruijn32tab), ("math/bits.deBruijn64tab", Rows.laid_math_bits_deBruijn64tab), ("unicode/utf8.first", Rows.laid_unicode_utf8_first), ("unicode/utf8.acceptRanges", Rows.laid_unicode_utf8_acceptRanges), ("strconv.ErrSyntax", Rows.laid_strconv_ErrSyntax), ("strconv.ErrRange", Rows.laid_strconv_ErrRange), ("errors.errorType", Rows.laid_errors_errorType)] = true := by
  unfold Program.listedFits
  rw [noOwnUnsafe]
  kernel_rfl
set_option maxHeartbeats 100000000 in
theorem tie : Tryz.prog.laidByTextLater [("internal/strconv.uint64pow10", Rows.laid_internal_strconv_uint64pow10), ("math/bits.deBruijn32tab", Rows.laid_math_bits_deBruijn32tab), ("math/bits.deBruijn64tab", Rows.laid_math_bits_deBruijn64tab), ("unicode/utf8.acceptRanges", Rows.laid_unicode_utf8_acceptRanges), ("strconv.ErrSyntax", Rows.laid_strconv_ErrSyntax), ("strconv.ErrRange", Rows.laid_strconv_ErrRange), ("errors.errorType", Rows.laid_errors_errorType)] [.data, .data, .data, .data, .sentinel, .sentinel, .handle] true := by
  refine Program.laidByTextLater_by_run_h 400 8 ?_ ?_ ?_ ?_ ?_ ?_ (fun _ _ => ?_) (fun _ _ => ?_) (fun _ _ => ?_) (fun _ _ => ?_)
  · as_aux_lemma => kernel_rfl
  · as_aux_lemma => kernel_rfl
  · as_aux_lemma => kernel_rfl
  · as_aux_lemma => kernel_rfl
  · as_aux_lemma => kernel_rfl
  · as_aux_lemma => kernel_rfl
  · as_aux_lemma => kernel_rfl
  · as_aux_lemma => kernel_rfl
  · as_aux_lemma => kernel_rfl
  · as_aux_lemma => kernel_rfl

theorem scriptOnes_row_tie : Rows.scriptOnesRow.laidByTextAt .later Tryz.pinned [.data, .data, .data, .pinned, .data, .sentinel, .sentinel, .handle] true :=
  OpenClaim.laidByTextAt_pinned rfl rfl tie rfl rfl rfl rfl (fun y hy _e => by
    simp only [Rows.scriptOnesRow, List.zip_cons_cons, List.zip_nil_right, List.mem_cons, List.mem_nil_iff, or_false] at hy
    rcases hy with rfl | rfl | rfl | rfl | rfl | rfl | rfl | rfl
    · cases _e
    · cases _e
    · cases _e
    · exact ⟨pin_laid_unicode_utf8_first, by kernel_rfl⟩
    · cases _e
    · cases _e
    · cases _e
    · cases _e) fits1
end Go.Proofs.YtnenknghinpliaaGreatDoor
namespace Go.Proofs.YtnenknghinpliaaGreatDoor
open Go.AS
namespace ScriptOnes
noncomputable section
open Go.ChangeShapes Go.WideShapes Go.ChangeAt Go.RowKit

theorem here {W : World} (h : laidMetH Tryz.prog Rows.scriptOnesRow.laid W) : ∃ t fz, W.heap[2]? = some (.cells #[.iface 264 (.agg #[.pointer (some ⟨9, 38, none⟩)])] t fz) :=
  handle_here (x := ("errors.errorType", Rows.laid_errors_errorType)) (r := []) (nm := [101, 114, 114, 111, 114]) (g := 2) (u := 264) (ty := 38) h rfl rfl rfl (by kernel_rfl) (by kernel_rfl) (by kernel_rfl) (by kernel_rfl)
theorem globals {W : World} (h : laidMetH Tryz.prog Rows.scriptOnesRow.laid W) : ∀ g x, Known27.Xl180.gl g = some x → GV ⟨fun _ => none, fun b => W.heap[b]?⟩ x g := fun g x hx => by
  have hx : bsel (Nat.beq g 2) (some (.ref (.lit (.iface 264 (.agg #[.pointer (some ⟨9, 38, none⟩)]))))) none = some x := hx
  cases hb : Nat.beq g 2
  · rw [hb, bsel_false] at hx; cases hx
  · rw [hb, bsel_true] at hx; cases hx
    obtain rfl := Nat.eq_of_beq_eq_true hb
    obtain ⟨t, fz, hh⟩ := here h
    exact ⟨handle_ref hh, fun vs hv => (by cases hv)⟩
theorem laid : Laid Tryz.prog := ⟨by kernel_rfl, by kernel_rfl, by kernel_rfl⟩
theorem own : ownKnob Tryz.prog.godebug = none := by kernel_rfl
theorem retType : Tryz.f3.resultTypes = #[4] := by kernel_rfl
theorem parts : ∀ t ∈ Tryz.f3.params.toList, t < Tryz.prog.types.size := by decide +kernel
set_option maxHeartbeats 2000000 in
set_option maxRecDepth 100000 in
theorem contract (H : Type) (enc : TypeId × Value → H) (W : World) (base : Nat) (args : Array Value) (ds gs : List (DataW H)) (before : List MemPlace)
    (hok : ∀ (j : Nat) t v, Tryz.f3.params[j]? = some t → args[j]? = some v → Value.okWide Tryz.prog W .any base t v)
    (hW : DataW.Whole enc Tryz.prog Tryz.f3.params.toList Rows.scriptOnesSpec.vars false W args.toList ds gs before) (hL : laidMetH Tryz.prog Rows.scriptOnesRow.laid W) :
    Calls Tryz.prog 3 args W fun e W' => ∃ v, e = .returned v ∧ Rows.scriptOnesSpec.post enc Tryz.prog Tryz.f3 false true false false W args v W' := by
  have hW0 := hW
  obtain ⟨p, q, hA, _⟩ := hW
  rw [Tryz.params3] at hA
  change DataW.TrodAll enc Tryz.prog W 0 (fun _ => true) true [22, 23] args.toList ds p at hA
  obtain ⟨al⟩ := args
  obtain ⟨v0, vs0, d0, ds0, p0, q0, hargs0, rfl, rfl, hd0, hrest0⟩ := trodAll_cons hA
  obtain rfl : al = v0 :: vs0 := by simpa using hargs0
  obtain ⟨v1, vs1, d1, ds1, p1, q1, hargs1, rfl, rfl, hd1, hrest1⟩ := trodAll_cons hrest0
  obtain rfl := hargs1
  obtain ⟨rfl, rfl, rfl⟩ := trodAll_nil hrest1
  obtain ⟨n0, hr0⟩ := hd0
  obtain ⟨n1, hr1⟩ := hd1
  obtain ⟨sa, sl, sc, rfl⟩ := okWide_slice Tryz.underlying22 (hok 0 22 _ (by rw [show Tryz.f3.params = #[22, 23] by kernel_rfl]; rfl) rfl)
  obtain ⟨ta, tl, tc, rfl⟩ := okWide_slice Tryz.underlying23 (hok 1 23 _ (by rw [show Tryz.f3.params = #[22, 23] by kernel_rfl]; rfl) rfl)
  obtain ⟨a1, zs, c1, he1, hz⟩ := readI hr0
  obtain ⟨a2, ys, c2, he2, hc2, hy⟩ := readH hr1
  injection he1 with e1 e2 e3
  injection he2 with e4 e5 e6
  subst e1 e2 e3 e4 e5 e6
  refine (ones_ok _ _ _ _ zs ys W hz hy hc2 fun w1 hb => Known27.known_ok hb (globals hL)).mono ?_
  rintro e W' ⟨rfl, hb⟩
  exact ⟨_, rfl, law_post laid hW0 retType (show Tryz.prog.underlying 4 = some .bool by kernel_rfl) parts rfl hb rfl⟩

/-- The listed variables but the handle: laid by the library's function. -/
noncomputable def plainLaid : List (String × DataW Unit) := Rows.scriptOnesRow.laid.filter fun x => x.2.handleName?.isNone
noncomputable def base (os : Os) : World :=
  { World.holding Tryz.prog os ⟨#[], #[], []⟩ with heap := ⟨Lay.setRows (World.holding Tryz.prog os ⟨#[], #[], []⟩).heap.toList [(2, [.iface 264 (.agg #[.pointer (some ⟨9, 38, none⟩)])])]⟩ }
noncomputable def start (os : Os) : World := (base os).layVars Tryz.prog plainLaid
theorem start_os (os : Os) : (start os).os = os := World.layVars_os _ _ _
theorem start_fits (os : Os) : (base os).layFits Tryz.prog plainLaid [] = true := by kernel_rfl
theorem start_ifaces (os : Os) : (base os).layIfaces Tryz.prog plainLaid (start os) = true := by kernel_rfl
theorem start_handle (os : Os) : (Rows.scriptOnesRow.laid.filter fun x => x.2.handleName?.isSome).all (handleAtB Tryz.prog ((start os).forCall (fun _ _ => 0) ⟨#[], #[.slice none 0 0, .slice none 0 0], []⟩).memory) = true := by kernel_rfl
theorem start_plain (os : Os) : laidMet Tryz.prog plainLaid ((start os).forCall (fun _ _ => 0) ⟨#[], #[.slice none 0 0, .slice none 0 0], []⟩).memory := by
  have e1 : (plainLaid.filter fun x => (plainLaid.map (·.1)).contains x.1) = plainLaid := List.filter_eq_self.2 fun x hx => List.contains_iff_mem.2 (List.mem_map.2 ⟨x, hx, rfl⟩)
  have e2 : (plainLaid.filter fun x => !(plainLaid.map (·.1)).contains x.1) = [] := List.filter_eq_nil_iff.2 fun x hx => by rw [List.contains_iff_mem.2 (List.mem_map.2 ⟨x, hx, rfl⟩)]; simp
  have h : laidMet Tryz.prog plainLaid (start os) := laidMet_layVars (w0 := base os) (plainLaid.map (·.1)) [] (by rw [e1]; rfl) (by rw [e1]; exact start_fits os) (by rw [e1]; exact start_ifaces os) (by rw [e2]; exact LaidIn.none)
  exact h.of_heap (by simp [World.memory, World.forCall, Input.heap])
theorem start_met (os : Os) : laidMetH Tryz.prog Rows.scriptOnesRow.laid ((start os).forCall (fun _ _ => 0) ⟨#[], #[.slice none 0 0, .slice none 0 0], []⟩).memory := laidMetH_of_parts (start_plain os) (start_handle os)
theorem reads (os : Os) {H : Type} (enc : TypeId × Value → H) : DataW.whole enc Tryz.prog ((start os).forCall (fun _ _ => 0) ⟨#[], #[.slice none 0 0, .slice none 0 0], []⟩).memory Tryz.f3.params.toList Rows.scriptOnesSpec.vars false (#[.slice none 0 0, .slice none 0 0] : Array Value).toList 8 = some ([.nil, .nil], [], []) := by kernel_rfl
theorem start_ref (os : Os) : ((start os).forCall (fun _ _ => 0) ⟨#[], #[.slice none 0 0, .slice none 0 0], []⟩).variablesRefB Tryz.checked.prog = true := by kernel_rfl
theorem start_tail (os : Os) : (((start os).forCall (fun _ _ => 0) ⟨#[], #[.slice none 0 0, .slice none 0 0], []⟩).heap.toList.drop Tryz.checked.prog.globals.size).take ((begin Tryz.checked.prog (fun _ _ => 0) default).world.heap.size - Tryz.checked.prog.globals.size) =
      (begin Tryz.checked.prog (fun _ _ => 0) default).world.heap.toList.drop Tryz.checked.prog.globals.size := by kernel_rfl
theorem start_ok (os : Os) : Input.okWideB Tryz.checked.prog ((start os).forCall (fun _ _ => 0) ⟨#[], #[.slice none 0 0, .slice none 0 0], []⟩) 3 ⟨#[], #[.slice none 0 0, .slice none 0 0], []⟩ = true := by kernel_rfl
set_option maxRecDepth 100000 in
theorem lifted (os : Os) (started : os.Started) (H : Type) (enc : TypeId × Value → H) (F : Stop.Interp) :
    ReturnsInHanded {} Tryz.checked os 3 .any ((OpenSpec.ofChange Rows.scriptOnesSpec).preRow enc Tryz.prog Tryz.f3 Rows.scriptOnesRow.domain false Rows.scriptOnesRow.laid) (((OpenSpec.ofChange Rows.scriptOnesSpec).at F).post enc Tryz.prog Tryz.f3 false true false false) := by
  refine returnsInHanded_of_row (C := Tryz.checked) (s := OpenSpec.ofChange Rows.scriptOnesSpec) own started (by kernel_rfl) Tryz.func3
    (witness_row_atRef (enc := enc) (C := Tryz.checked) false (start os) #[.slice none 0 0, .slice none 0 0] (start_os os) (start_ref os) (start_tail os) (start_ok os)
      (OpenSpec.preRow_of_cond 8 (reads os enc) (by kernel_rfl) (fun k hk => by cases hk) (by kernel_rfl) (start_met os))) ?_
  intro W base args ds gs before hok hW _ _ _ hL _ _
  exact contract H enc W base args ds gs before hok hW hL
theorem both {a b : Bool} (ha : a = true) (hb : b = true) : (a && b) = true := by rw [ha, hb]; rfl
set_option maxHeartbeats 100000000 in
theorem closed : joinedFacts Tryz.pinned.checked.prog 3 Tryz.f3 (OpenSpec.ofChange Rows.scriptOnesSpec).bare Rows.scriptOnesRow = true := by
  unfold joinedFacts
  iterate 31 refine both ?_ (by as_aux_lemma => kernel_rfl)
  as_aux_lemma => kernel_rfl
theorem said : Rows.ScriptOnesSaid :=
  OpenClaim.holds_of_cond 3 Tryz.f3 rfl rfl rfl rfl rfl rfl rfl ⟨rfl, rfl, rfl, rfl, rfl⟩ rfl rfl rfl rfl rfl (by kernel_rfl) Tryz.func3 closed
    (of_decide_eq_true (by kernel_rfl)) (by unfold Func.isWrapper; first | (rw [if_pos (by decide +kernel)]; kernel_rfl) | (rw [if_neg (by decide +kernel)]; exact ⟨rfl, rfl⟩))
    (fun os started H enc _ F => by rw [OpenClaim.pre_eq_preRow]; exact lifted os started H enc F)
theorem plain (f : FuncId) (fn : Func) (hf : Tryz.pinned.checked.prog.funcNamed "taproot/taprootlaw27.ScriptOnes" = some f) (hfn : Tryz.pinned.checked.prog.funcs[f]? = some fn) :
    true = Tryz.pinned.checked.prog.looks [] ∧ ∀ (j : Nat) t, fn.params[j]? = some t → Tryz.pinned.checked.prog.wantsStandIn t = false := by
  obtain rfl : f = 3 := Option.some.inj ((show Tryz.prog.funcNamed "taproot/taprootlaw27.ScriptOnes" = some 3 by kernel_rfl).symm.trans hf) |>.symm
  obtain rfl : fn = Tryz.f3 := (Option.some.inj (Tryz.func3.symm.trans hfn)).symm
  refine ⟨by kernel_rfl, fun j t ht => ?_⟩
  have hm : t ∈ Tryz.f3.params.toList := by
    rw [Array.mem_toList_iff]; exact Array.mem_of_getElem? ht
  have all : ∀ t ∈ Tryz.f3.params.toList, Tryz.pinned.checked.prog.wantsStandIn t = false := by
    have h : Tryz.f3.params.toList.all (fun t => !Tryz.prog.wantsStandIn t) = true := by kernel_rfl
    intro t ht
    have := List.all_eq_true.1 h t ht
    rw [Bool.not_eq_true'] at this
    exact this
  exact all t hm
theorem goes_of_none {P : Program} (h : P.funcs.any Func.goes = false) (f : FuncId) : P.goes f = false := by
  have hn : ∀ g : FuncId, (P.funcs[g]?).any Func.goes = false := fun g => by
    cases hg : P.funcs[g]? with
    | none => rfl
    | some fn =>
      have hm := Array.mem_of_getElem? hg
      rw [Array.any_eq_false'] at h
      simpa using h fn hm
  unfold Program.goes
  rw [h, Bool.and_false, Bool.or_false, List.any_eq_false]
  intro g _ hg
  rw [hn g] at hg
  cases hg
theorem no_go : Tryz.pinned.checked.prog.funcs.any Func.goes = false := by kernel_rfl
theorem named3 : Tryz.pinned.checked.prog.funcNamed "taproot/taprootlaw27.ScriptOnes" = some 3 := by kernel_rfl
theorem goes_by : false = Rows.scriptOnesRow.goesBy Tryz.pinned.checked.prog := by
  show false = (Tryz.pinned.checked.prog.goesFrom "taproot/taprootlaw27.ScriptOnes" || false)
  rw [Bool.or_false]
  unfold Program.goesFrom
  rw [named3, Option.any_some, goes_of_none no_go 3]
theorem card : Rows.ScriptOnesCardSaid :=
  Claim7.holds_tied_plain_at .later [] _ _ _ _ said (fun _ h => by cases h) (by kernel_rfl) (fun _ h => by cases h) scriptOnes_row_tie rfl ⟨rfl, rfl⟩ (by kernel_rfl) rfl plain goes_by
end
end ScriptOnes
end Go.Proofs.YtnenknghinpliaaGreatDoor
