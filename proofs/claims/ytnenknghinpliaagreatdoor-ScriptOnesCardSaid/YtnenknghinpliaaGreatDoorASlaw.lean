/- A law: a call that answers true and leaves what came in as it was. -/
import Derived.Test.YtnenknghinpliaaGreatDoorASrefl
import Derived.Below
import Derived.ChangeSame
import Derived.ChangeBears
import Derived.ReadAgain
import Derived.ProofKit
import Derived.OpenShut
import Derived.Deep.DeepHandedRow
import Derived.Deep.DeepWitnessRowRef
import Derived.LaidMore
import Derived.LaidHandle
import Derived.SevenTiedAt
namespace Go.AS
noncomputable section
open Go.RowKit Go.WideShapes Go.ChangeShapes Go.ChangeAt

section
variable {H : Type} {enc : TypeId × Value → H} {P : Program} {W W' : World}
theorem same_of_below (hb : Below W.heap.size W W') {p : MemPlace} (h : p.block < W.heap.size) : W.sameAt W' p := by
  cases p with
  | cell b off => simp only [World.sameAt, World.cell?]; rw [hb.block b h]
  | map b => exact hb.block b h
theorem trodAll_below (hb : Below W.heap.size W W') {base : Nat} {sp : Nat → Bool} {held : Bool} : ∀ {ts : List TypeId} {vs : List Value} {ds : List (DataW H)} {ps : List MemPlace}, (∀ p ∈ ps, p.block < W.heap.size) →
    DataW.TrodAll enc P W base sp held ts vs ds ps → DataW.TrodAll enc P W' base sp held ts vs ds ps
  | [], [], [], _, _, h => h
  | _ :: _, _ :: _, _ :: _, _, hp, ⟨p, q, ⟨n, h1⟩, h2, e⟩ =>
    ⟨p, q, ⟨n, DataW.trod_carry n _ _ _ h1 fun x hx => same_of_below hb (hp x (by rw [e]; exact List.mem_append_left _ hx))⟩, trodAll_below hb (fun x hx => hp x (by rw [e]; exact List.mem_append_right _ hx)) h2, e⟩
/-- The facts on a program's types that a law's end asks. -/
structure Laid (P : Program) : Prop where
  out : laidOutB P = true
  maps : mapsRowed P = true
  full : ((List.range P.types.size).all fun t => match P.underlying t with | some (.slice e) => decide (0 < P.cellsOf e) | _ => true) = true
/-- What a law's call leaves is what its row asks. -/
theorem law_post (hP : Laid P) {f : Func} {s : ChangeSpec} {apart fresh handsOn again : Bool} {args : Array Value} {ds gs : List (DataW H)} {before : List MemPlace} (hW : DataW.Whole enc P f.params.toList s.vars apart W args.toList ds gs before)
    {t : TypeId} (hrt : f.resultTypes = #[t]) (ht : P.underlying t = some .bool) (hpt : ∀ t ∈ f.params.toList, t < P.types.size) (hv : s.vars = []) (hb : Below W.heap.size W W')
    (hs : s.fn H ds = { results := [.lit (.bool true)], args := ds }) : s.post enc P f apart fresh handsOn again W args (.bool true) W' := by
  have hW0 := hW
  obtain ⟨p, q, hA, hV, rfl, hz, hn⟩ := hW
  rw [hv] at hV
  obtain ⟨rfl, rfl⟩ : gs = [] ∧ q = [] := by
    cases gs with
    | nil => exact ⟨rfl, hV⟩
    | cons g r => exact hV.elim
  simp only [List.append_nil] at *
  have hlt : ∀ x ∈ p, x.block < W.heap.size := fun x hx => hW0.lt x (by simpa using hx)
  have hold : ∀ x ∈ p, (fun b => decide (b < W.heap.size)) x.block = true := fun x hx => by simpa using hlt x hx
  have hargs : ∀ sp : Nat → Bool, (∀ x ∈ p, sp x.block = true) → DataW.TrodAll enc P W' 0 sp true f.params.toList args.toList ds p := fun sp hsp =>
    trodAll_below hb hlt ((DataW.TrodAll.respare (kids_rows hP.out hP.maps) (fun t e => slices_full_of P hP.full t e) hpt hA hsp))
  have hres : ∀ (b : Nat) (sp : Nat → Bool) (hd : Bool), DataW.TrodAll enc P W' b sp hd f.resultTypes.toList ((Value.bool true).resultList f.resultTypes.size) [.lit (.bool true)] [] := fun b sp hd => by
    rw [hrt]; exact trodAll_mk1 (shut_bool ht true)
  have e : s.fn H (ds ++ []) = { results := [.lit (.bool true)], args := ds } := by rw [List.append_nil]; exact hs
  have hargs' : ∀ sp : Nat → Bool, (∀ x ∈ p, sp x.block = true) → DataW.TrodAll enc P W' 0 sp true f.params.toList args.toList (s.fn H (ds ++ [])).args p := by rw [e]; exact hargs
  have hres' : ∀ (b : Nat) (sp : Nat → Bool) (hd : Bool), DataW.TrodAll enc P W' b sp hd f.resultTypes.toList ((Value.bool true).resultList f.resultTypes.size) (s.fn H (ds ++ [])).results [] := by rw [e]; exact hres
  have hvars' : ∀ sp : Nat → Bool, DataW.TrodVars enc P W' sp s.vars (s.fn H (ds ++ [])).vars [] := fun sp => by rw [e, hv]; rfl
  refine ⟨ds, [], p, [], p, [], by simpa using hW0, hres' _ _ _, hargs' _ hold, hvars' _, World.keptBut_mono (fun x hx => ⟨hx, ?_⟩) (hb.frame (· ∈ p)), fun _ => ?_⟩
  · exact Or.inr (by simpa using hx)
  · refine ⟨?_, _, _, ([] ++ p) ++ [], ⟨[] ++ p, [], trodAll_append (hargs' _ (fun _ _ => rfl)) (hres' _ _ _), hvars' _, rfl, ?_, ?_⟩, ?_⟩
    · exact ok_one hrt rfl (okWide_bool_mk ht _)
    · intro b off hp
      have hin : MemPlace.cell b off ∈ p := by simpa using hp
      rw [hb.frozen (hlt _ hin)]
      exact hz b off hin
    · intro ha
      have := hn ha
      simpa using this
    · intro x hx _
      simpa using hx
end
/-- What a row's list of laid variables says of the one that holds a type's handle: the variable's object. -/
theorem handle_here {P : Program} {l : List (String × DataW Unit)} {W : World} (h : laidMetH P l W) {x : String × DataW Unit} {r : List (String × DataW Unit)} (hl : (l.filter fun x => x.2.handleName?.isSome) = x :: r) {nm : List UInt8} (hn : x.2.handleName? = some nm) (hf : x.2.funcsIn? = none)
    {g u ty : Nat} {hd : Value} (hg : P.globalNamed x.1 = some g) (hu : (P.cutTypes.find? (·.1 == "internal/reflectlite.rtype")).map (·.2) = some u) (hrow : ((List.range P.types.size).filter fun t => P.rowNamed t nm) = [ty]) (hh : typeHandle P ty = hd) :
    ∃ t fz, W.heap[g]? = some (.cells #[.iface u (.agg #[hd])] t fz) := by
  unfold laidMetH at h
  rw [hl] at h
  have h := h.2 x (List.mem_cons_self ..)
  rw [hf] at h
  obtain ⟨name, u', ty', e1, e2, e3, e4, e5⟩ := h
  obtain rfl := Option.some.inj (hn.symm.trans e1)
  obtain rfl := Option.some.inj (hu.symm.trans e2)
  have hm : ty' ∈ (List.range P.types.size).filter fun t => P.rowNamed t nm := List.mem_filter.2 ⟨List.mem_range.2 e3, e4⟩
  rw [hrow] at hm
  obtain rfl := List.mem_singleton.1 hm
  rw [hh] at e5
  simp only [World.var?, hg, Option.bind_some] at e5
  split at e5
  · rename_i cs t fz hc
    cases e5
    exact ⟨t, fz, hc⟩
  · cases e5
theorem handle_ref {m : Nat → Option Obj} {g u : Nat} {hd : Value} {t : TypeId} {fz : Nat × Nat} (h : m g = some (.cells #[.iface u (.agg #[hd])] t fz)) :
    VR ⟨fun _ => none, m⟩ (.ref (.lit (.iface u (.agg #[hd])))) (.pointer (some ⟨g, 0, none⟩)) :=
  .ref (rest := []) h (.ccons (.lit _) .cnil) rfl
end
end Go.AS
