/- Struct and array literals; maps. -/
import Derived.Test.YtnenknghinpliaaGreatDoorASk
namespace Go.AS
noncomputable section

theorem foldl_spl (o : Nat) : ∀ (us : List Value) (j : Nat) (cs : Array Value), o + j + us.length ≤ cs.size →
    (us.zipIdx j).foldl (fun (cs : Array Value) (x : Value × Nat) => cs.setIfInBounds (o + x.2) x.1) cs = (spl cs.toList (o + j) us).toArray := by
  intro us
  induction us with
  | nil => intro j cs _; simp [spl]
  | cons u us ih =>
    intro j cs hle
    simp only [List.length_cons] at hle
    rw [List.zipIdx_cons, List.foldl_cons, ih (j + 1) _ (by simp; omega)]
    congr 1
    apply List.ext_getElem?; intro i
    rw [spl_get (by simp; omega), spl_get (by simp; omega)]
    simp only [List.length_cons, Array.toList_setIfInBounds]
    by_cases hi : i = o + j
    · subst hi
      rw [if_neg (by omega), if_pos (by omega)]
      have : o + j < cs.toList.length := by simp; omega
      rw [List.getElem?_set_self this]; simp
    · by_cases hi2 : o + (j + 1) ≤ i ∧ i < o + (j + 1) + us.length
      · rw [if_pos hi2, if_pos (by omega)]
        obtain ⟨d, rfl⟩ : ∃ d, i = o + j + (d + 1) := ⟨i - (o + j) - 1, by omega⟩
        rw [show o + j + (d + 1) - (o + j) = d + 1 by omega, show o + j + (d + 1) - (o + (j + 1)) = d by omega]; simp
      · rw [if_neg hi2, if_neg (by omega), List.getElem?_set_ne (by omega)]

/-- The place, the size and the kind of part i. -/
def placeE (B : Tb) (T : TI) (i : Nat) : Option (Nat × TI) :=
  match T.desc with
  | .struct fs => match fs[i]? with
    | some f => match ti B f.type with
      | some U => some (f.offset, U)
      | none => none
    | none => none
  | .array _ e => match ti B e with
    | some U => some (i * U.size, U)
    | none => none
  | _ => none
def setParts (B : Tb) (T : TI) : AV → List (Nat × AV) → Option AV
  | x, [] => some x
  | x, (i, y) :: r =>
    match placeE B T i with
    | some (off, U) => if y.fsz = U.size ∧ (U.agg = true ∨ y.leaf = true) ∧ y.storable = true then match x.setAt off U.size U.agg y with
      | some x' => setParts B T x' r
      | none => none else none
    | none => none
def aggZero (B : Tb) (T : TI) (t : TypeId) : Option AV :=
  match T.zero with
  | some (.agg cs) => if T.agg = true ∧ (cs.toList.all (·.oneCell')) = true then some (unfl B 8 t cs.toList) else none
  | _ => none
def partsOk (B : Tb) (T : TI) : Bool :=
  match T.desc with
  | .struct fs => fs.toList.all fun f => (ti B f.type).isSome
  | .array _ e => (ti B e).isSome
  | _ => false
def buildE (B : Tb) (T : TI) (t : TypeId) (parts : List (Nat × AV)) : Option AV :=
  if partsOk B T = false then none else
  match aggZero B T t with
  | some z => match setParts B T z parts with
    | some x => match x with
      | .agg xs => some (.agg xs)
      | .lit (.agg cs) => some (.lit (.agg cs))
      | _ => none
    | none => none
  | none => none
theorem setParts_sound {P : Program} {B : Tb} [TbOk B P] {T : TI} {E : Env} (place : Nat → Option (Nat × Nat)) (hpl : ∀ i off U, placeE B T i = some (off, U) → place i = some (off, U.size)) : ∀ (parts : List (Nat × AV)) (vs : List (Nat × Value)) (x x' : AV) (v : Value)
    (cells : Array Value), vs.map (·.1) = parts.map (·.1) → RR E .vs (parts.map (·.2)) (vs.map (·.2)) → VR E x v → v.cells = cells → setParts B T x parts = some x' →
    ∃ v' out, Instr.fill place cells vs = some out ∧ VR E x' v' ∧ v'.cells = out
  | [], vs, x, x', v, cells, hv, _, hx, hc, h => by
    have : vs = [] := by simpa using hv
    subst this
    simp only [setParts, Option.some.injEq] at h; subst h
    exact ⟨v, cells, rfl, hx, hc⟩
  | p :: parts, vs, x, x', v, cells, hv, hr, hx, hc, h => by
    cases vs with
    | nil => simp at hv
    | cons q vs =>
      simp only [List.map_cons, List.cons.injEq] at hv
      obtain ⟨hv1, hv2⟩ := hv
      simp only [List.map_cons] at hr
      obtain ⟨u, us, h1, h2, h3⟩ := hr.vs_cons_inv
      simp only [List.cons.injEq] at h3
      obtain ⟨rfl, rfl⟩ := h3
      obtain ⟨i, y⟩ := p
      obtain ⟨i', u⟩ := q
      simp only at hv1 h1 h2
      subst hv1
      unfold setParts at h
      split at h
      · rename_i off U hp
        split at h
        · rename_i hcond; obtain ⟨hsz, hlf, hst⟩ := hcond
          split at h
          · rename_i x1 hset
            have husz : u.cells.size = U.size := by rw [h1.size, hsz]
            have hone : U.agg = false → u.oneCell' = true := fun hg => by
              have hl : y.leaf = true := hlf.resolve_left (by simp [hg])
              have := leaf_cells h1 hl
              exact storable_sound y h1 hst u (by rw [this]; simp)
            obtain ⟨h5, v1, h6, h7⟩ := setAt_sound x hx hset h1 husz hone
            rw [hc] at h5 h7
            have hbd : off + u.cells.size ≤ cells.size := by simpa using h5
            obtain ⟨v', out, g1, g2, g3⟩ := setParts_sound place hpl parts vs x1 x' v1 v1.cells hv2 h2 h6 rfl h
            refine ⟨v', out, ?_, g2, g3⟩
            unfold Instr.fill
            simp only [hpl i' off U hp]
            rw [if_neg (by simp only [ne_eq, Bool.or_eq_true, decide_eq_true_eq, not_or, Nat.not_lt]; exact ⟨fun h => h husz, hbd⟩)]
            rw [← Array.foldl_toList, Array.toList_zipIdx, foldl_spl off _ 0 cells (by simpa using h5)]
            have : v1.cells = (spl cells.toList (off + 0) u.cells.toList).toArray := by apply Array.ext'; rw [h7]; simp
            rw [← this]; exact g1
          · cases h
        · cases h
      · cases h
theorem unfl_agg {E : Env} {P : Program} {B : Tb} [TbOk B P] {t : TypeId} {T : TI} (hT : ti B t = some T) (hg : T.agg = true) (f : Nat) {cs : List Value} (h : ∀ u ∈ cs, u.oneCell' = true) : VR E (unfl B (f + 1) t cs) (.agg cs.toArray) := by
  unfold unfl
  rw [hT]
  simp only
  split
  · rename_i fs _
    exact .agg (splitFs_cs (B := B) (f := unfl B f) (fun t cs h => unfl_cs (E := E) f t cs h) fs.toList cs h)
  · rename_i n e _
    split
    · exact .lit _
    · exact .agg (chunks_cs (n := cellsOf B e) (f := unfl B f e) (fun cs h => unfl_cs (E := E) f e cs h) n cs h)
  · rename_i h1 h2
    unfold TI.agg at hg
    split at hg
    · rename_i hd; exact absurd hd (h1 _)
    · rename_i hd; exact absurd hd (h2 _ _)
    · cases hg
theorem run_places {P : Program} {B : Tb} [TbOk B P] (w : World) : ∀ fs : List Field, (∀ f ∈ fs, (ti B f.type).isSome = true) →
    ∃ places : List (Nat × Nat), (fs.mapM fun (f : Field) => (do pure (f.offset, ← sizeOf f.type) : Sem (Nat × Nat))).run P w = .ok places w ∧ ∀ (i : Nat) (f : Field) (U : TI), fs[i]? = some f → ti B f.type = some U → places[i]? = some (f.offset, U.size)
  | [], _ => ⟨[], by simp, by simp⟩
  | f :: fs, h => by
    obtain ⟨places, h1, h2⟩ := run_places w fs fun g hg => h g (List.mem_cons_of_mem _ hg)
    obtain ⟨U, hU⟩ := Option.isSome_iff_exists.1 (h f (List.mem_cons_self ..))
    refine ⟨(f.offset, U.size) :: places, ?_, fun i g V hg hV => ?_⟩
    · simp only [List.mapM_cons, Sem.run_bind, run_ti_size hU, Result.andThen_ok, Sem.run_pure, h1]
    · cases i with
      | zero => simp at hg; subst hg; rw [hU] at hV; cases hV; simp
      | succ i => simp at hg ⊢; exact h2 i g V hg hV
theorem build_sound {P : Program} {B : Tb} [TbOk B P] {t : TypeId} {T : TI} (hT : ti B t = some T) {E : Env} {w : World} {parts : List (Nat × AV)} {vs : List (Nat × Value)} {x : AV} (hv : vs.map (·.1) = parts.map (·.1))
    (hr : RR E .vs (parts.map (·.2)) (vs.map (·.2))) (h : buildE B T t parts = some x) : ∃ u, (Instr.build t vs.toArray).run P w = .ok u w ∧ VR E x u := by
  unfold buildE at h
  split at h
  · cases h
  rename_i hpo
  simp only [Bool.not_eq_false] at hpo
  split at h
  · rename_i z hz
    split at h
    · rename_i x0 hset
      have hx0 : x0 = x := by split at h <;> cases h <;> rfl
      subst hx0
      unfold aggZero at hz
      split at hz
      · rename_i cs hzero
        split at hz
        · rename_i hc; obtain ⟨hg, hall⟩ := hc
          cases hz
          have hvz : VR E (unfl B 8 t cs.toList) (.agg cs.toList.toArray) := unfl_agg hT hg 7 (fun u hu => List.all_eq_true.1 hall u hu)
          have hout : ∀ v' : Value, VR E x0 v' → v' = .agg v'.cells := by
            intro v' hv'
            split at h <;> cases h
            · obtain ⟨ds, rfl, _⟩ := hv'.agg_inv; rfl
            · have := hv'.lit_inv; subst this; rfl
          have hzr := run_ti_zero hT w hzero
          unfold TI.agg at hg
          split at hg
          · rename_i fs hd
            have hplaces : ∃ places, (fs.mapM fun (f : Field) => (do pure (f.offset, ← sizeOf f.type) : Sem (Nat × Nat))).run P w = .ok places w ∧ ∀ i off U, placeE B T i = some (off, U) → places[i]? = some (off, U.size) := by
              unfold partsOk at hpo
              simp only [hd, List.all_eq_true] at hpo
              obtain ⟨places, q1, q2⟩ := run_places (P := P) w fs.toList hpo
              refine ⟨places.toArray, ?_, fun i off U hp => ?_⟩
              · rw [Array.mapM_eq_mapM_toList]
                simp only [Sem.run_map, q1, Result.andThen_ok]
              · unfold placeE at hp
                simp only [hd] at hp
                split at hp
                · rename_i f hf
                  split at hp
                  · rename_i V hV; cases hp
                    have := q2 i f _ (by simpa using hf) hV
                    simpa using this
                  · cases hp
                · cases hp
            obtain ⟨places, hp1, hp2⟩ := hplaces
            obtain ⟨v', out, g1, g2, g3⟩ := setParts_sound (places[·]?) hp2 parts vs _ x0 _ cs hv hr hvz (by simp [Value.cells]) hset
            refine ⟨.agg out, ?_, by rw [hout v' g2, g3] at g2; exact g2⟩
            simp only [Instr.build, Sem.run_bind, hzr, Result.andThen_ok, run_ti_underlying hT, hd, hp1]
            simp only [Value.cells, g1, Sem.run_pure]
          · rename_i n e hd
            cases hU : ti B e with
            | none => unfold partsOk at hpo; simp [hd, hU] at hpo
            | some U =>
            obtain ⟨v', out, g1, g2, g3⟩ := setParts_sound (fun i => some (i * U.size, U.size)) (fun i off U' hp => by
              unfold placeE at hp; simp only [hd, hU, Option.some.injEq, Prod.mk.injEq] at hp; obtain ⟨rfl, rfl⟩ := hp; rfl) parts vs _ x0 _ cs hv hr hvz (by simp [Value.cells]) hset
            refine ⟨.agg out, ?_, by rw [hout v' g2, g3] at g2; exact g2⟩
            simp only [Instr.build, Sem.run_bind, hzr, Result.andThen_ok, run_ti_underlying hT, hd, run_ti_size hU]
            simp only [Value.cells, g1, Sem.run_pure]
          · cases hg
        · cases hz
      · cases hz
    · cases h
  · cases h
end
end Go.AS
