/- Cells: loading and storing; parts of abstract values. -/
import Derived.Test.YtnenknghinpliaaGreatDoorASb
import Derived.Laws.Cells
namespace Go.AS
noncomputable section

/-- What the walk asks of a type. -/
structure TI where
  desc : TypeDesc
  size : Nat
  bytes : Nat
  zero : Option Value
  methods : Array Method
  cmp : Bool
def TI.agg (T : TI) : Bool := match T.desc with | .struct _ | .array _ _ => true | _ => false
def tiOf (P : Program) (t : TypeId) : Option TI :=
  match P.info? t, P.underlying t with
  | some i, some d => some ⟨d, i.size, i.bytes, i.zero, i.methods, i.comparable⟩
  | _, _ => none
/-- The types that the walk of a program meets. -/
abbrev Tb := TypeId → Option TI
def ti (B : Tb) (t : TypeId) : Option TI := B t
def cellsOf (B : Tb) (t : TypeId) : Nat := match ti B t with | some T => T.size | none => 0
/-- The table tells of the program's types what is so. -/
class TbOk (B : Tb) (P : outParam Program) : Prop where
  ok : ∀ t T, B t = some T → tiOf P t = some T
theorem TbOk.self (P : Program) : TbOk (tiOf P) P := ⟨fun _ _ h => h⟩
theorem ti_spec {P : Program} {B : Tb} [TbOk B P] {t : TypeId} {T : TI} (h : ti B t = some T) : ∃ i, P.info? t = some i ∧ P.underlying t = some T.desc ∧ i.size = T.size ∧ i.bytes = T.bytes ∧ i.zero = T.zero ∧ i.methods = T.methods ∧ i.comparable = T.cmp := by
  have h := TbOk.ok (B := B) (P := P) t T h
  unfold tiOf at h
  split at h
  · rename_i i d h1 h2; cases h; exact ⟨i, h1, h2, rfl, rfl, rfl, rfl, rfl⟩
  · cases h
section
variable {P : Program} {B : Tb} [TbOk B P] {t : TypeId} {T : TI} (h : ti B t = some T) (w : World)
include h
theorem run_ti_underlying : (underlying t).run P w = .ok T.desc w := by
  obtain ⟨i, h1, h2, _⟩ := ti_spec (P := P) h
  simp [underlying, h2]
theorem run_ti_info : ∃ i, (typeInfo t).run P w = .ok i w ∧ i.size = T.size ∧ i.bytes = T.bytes ∧ i.zero = T.zero := by
  obtain ⟨i, h1, h2, h3, h4, h5, _⟩ := ti_spec (P := P) h
  exact ⟨i, by simp [typeInfo, h1], h3, h4, h5⟩
theorem run_ti_size : (sizeOf t).run P w = .ok T.size w := by
  obtain ⟨i, h1, h2, _⟩ := run_ti_info (P := P) h w
  simp [sizeOf, h1, h2]
theorem run_ti_agg : (isAgg t).run P w = .ok T.agg w := by
  simp only [isAgg, Sem.run_bind, run_ti_underlying h, Result.andThen_ok, TI.agg]
  split <;> simp_all
theorem run_ti_zero {v : Value} (hz : T.zero = some v) : (zeroValue t).run P w = .ok v w := by
  obtain ⟨i, h1, _, _, h4⟩ := run_ti_info (P := P) h w
  simp [zeroValue, h1, h4, hz]
end

theorem cell_of {w : World} {b : Nat} {c : Array Value} {t : TypeId} {fz : Nat × Nat} (h : w.heap[b]? = some (.cells c t fz)) (off : Nat) : w.cell? ⟨b, off, none⟩ = c[off]? := by
  simp [World.cell?, h]
theorem frozen_of {w : World} {b : Nat} {c : Array Value} {t : TypeId} {fz : Nat × Nat} (h : w.heap[b]? = some (.cells c t fz)) (off : Nat) : w.frozen? ⟨b, off, none⟩ = (fz.1 ≤ off && off < fz.2) := by
  simp [World.frozen?, h]
theorem drop_get {α : Type} {l cs rest : List α} {off : Nat} (h : l.drop off = cs ++ rest) {k : Nat} (hk : k < cs.length) : l[off + k]? = cs[k]? := by
  rw [← List.getElem?_drop, h, List.getElem?_append_left hk]
theorem add_none (b off n : Nat) : (Addr.add ⟨b, off, none⟩ n) = ⟨b, off + n, none⟩ := by
  unfold Addr.add; split
  · simp [*]
  · rfl

theorem run_load_cell {P : Program} {w : World} {b : Nat} {c : Array Value} {t : TypeId} {fz : Nat × Nat} (h : w.heap[b]? = some (.cells c t fz)) {off : Nat} {v : Value} (hv : c[off]? = some v) :
    (load ⟨b, off, none⟩).run P w = .ok v w := by
  simp [cell_of h, hv]
theorem run_load_cells {P : Program} {w : World} {b : Nat} {c : Array Value} {t : TypeId} {fz : Nat × Nat} (h : w.heap[b]? = some (.cells c t fz)) {off : Nat} {cs rest : List Value}
    (hc : c.toList.drop off = cs ++ rest) : (loadCells ⟨b, off, none⟩ cs.length).run P w = .ok cs.toArray w := by
  have := run_loadCells_list (P := P) (w := w) ⟨b, off, none⟩ cs fun j v hj => by
    have hlt : j < cs.length := by rw [List.getElem?_eq_some_iff] at hj; exact hj.1
    rw [add_none, cell_of h, ← hj, ← drop_get hc hlt]; simp
  exact this
/-- A variable's value out of a block. -/
theorem run_loadVar_agg {P : Program} {B : Tb} [TbOk B P] {tv : TypeId} {T : TI} (hT : ti B tv = some T) (hg : T.agg = true) {w : World} {b : Nat} {c : Array Value} {t : TypeId} {fz : Nat × Nat}
    (h : w.heap[b]? = some (.cells c t fz)) {off : Nat} {cs rest : List Value} (hc : c.toList.drop off = cs ++ rest) (hn : cs.length = T.size) :
    (loadVar tv ⟨b, off, none⟩).run P w = .ok (.agg cs.toArray) w := by
  simp only [loadVar, Sem.run_bind, run_ti_agg hT, Result.andThen_ok, hg, if_true, run_ti_size hT, ← hn, run_load_cells h hc]
  simp
theorem run_loadVar_one {P : Program} {B : Tb} [TbOk B P] {tv : TypeId} {T : TI} (hT : ti B tv = some T) (hg : T.agg = false) {w : World} {b : Nat} {c : Array Value} {t : TypeId} {fz : Nat × Nat}
    (h : w.heap[b]? = some (.cells c t fz)) {off : Nat} {v : Value} (hv : c[off]? = some v) : (loadVar tv ⟨b, off, none⟩).run P w = .ok v w := by
  simp only [loadVar, Sem.run_bind, run_ti_agg hT, Result.andThen_ok, hg, Bool.false_eq_true, if_false, run_load_cell h hv]

/-! Storing. -/
def spl (c : List Value) (off : Nat) (vs : List Value) : List Value := c.take off ++ (vs ++ c.drop (off + vs.length))
theorem spl_length {c vs : List Value} {off : Nat} (h : off + vs.length ≤ c.length) : (spl c off vs).length = c.length := by simp [spl]; omega
theorem spl_get {c vs : List Value} {off : Nat} (h : off + vs.length ≤ c.length) (j : Nat) : (spl c off vs)[j]? = if off ≤ j ∧ j < off + vs.length then vs[j - off]? else c[j]? := by
  unfold spl
  by_cases h1 : j < off
  · rw [List.getElem?_append_left (by simp; omega), if_neg (by omega)]; simp [h1]
  · rw [List.getElem?_append_right (by simp; omega)]
    have : (List.take off c).length = off := by simp; omega
    rw [this]
    by_cases h2 : j < off + vs.length
    · rw [if_pos (by omega), List.getElem?_append_left (by omega)]
    · rw [if_neg (by omega), List.getElem?_append_right (by omega), List.getElem?_drop]; congr 1; omega

theorem setCell_heap {w : World} {b : Nat} {c : Array Value} {t : TypeId} {fz : Nat × Nat} (h : w.heap[b]? = some (.cells c t fz)) (off : Nat) (v : Value) :
    (w.setCell ⟨b, off, none⟩ v).heap[b]? = some (.cells (c.setIfInBounds off v) t fz) := by
  simp [World.setCell, Array.getElem?_modify, h]
theorem setCell_heap_ne {w : World} {b : Nat} (off : Nat) (v : Value) {k : Nat} (hk : k ≠ b) : (w.setCell ⟨b, off, none⟩ v).heap[k]? = w.heap[k]? := by
  simp [World.setCell, Array.getElem?_modify, Ne.symm hk]
theorem run_storeCells_spl {P : Program} {b off : Nat} {t : TypeId} {fz : Nat × Nat} : ∀ (vs : List Value) (i : Nat) (c : Array Value) (w : World), w.heap[b]? = some (.cells c t fz) →
    off + i + vs.length ≤ c.size → (∀ v ∈ vs, v.oneCell' = true) → free fz (off + i) (off + i + vs.length) →
    ∃ w', (storeCells ⟨b, off, none⟩ vs i).run P w = .ok () w' ∧ w'.heap[b]? = some (.cells (spl c.toList (off + i) vs).toArray t fz) ∧ w'.heap.size = w.heap.size ∧
      (∀ k, k ≠ b → w'.heap[k]? = w.heap[k]?) ∧ w'.os = w.os ∧ w'.tape = w.tape ∧ w'.output = w.output := by
  intro vs
  induction vs with
  | nil => intro i c w h hb _ _; exact ⟨w, by simp [storeCells], by simp [spl, h], rfl, fun _ _ => rfl, rfl, rfl, rfl⟩
  | cons v vs ih =>
    intro i c w h hb hv hf
    simp only [List.length_cons] at hb hf
    have hlt : off + i < c.size := by omega
    have hget : c[off + i]? = some c[off + i] := by simp [hlt]
    have hst : (store ⟨b, off + i, none⟩ v).run P w = .ok () (w.setCell ⟨b, off + i, none⟩ v) := by
      have h0 := hf (off + i) (by omega) (by omega)
      rw [run_store P w _ v .plain (hv v (List.mem_cons_self ..)), cell_of h, hget, frozen_of h, h0]
      simp
    obtain ⟨w', h1, h2, h3, h4, h5, h6, h7⟩ := ih (i + 1) (c.setIfInBounds (off + i) v) (w.setCell ⟨b, off + i, none⟩ v) (setCell_heap h _ _) (by simp; omega)
      (fun u hu => hv u (List.mem_cons_of_mem _ hu)) (fun j hj1 hj2 => hf j (by omega) (by omega))
    refine ⟨w', ?_, ?_, ?_, fun k hk => (h4 k hk).trans (setCell_heap_ne _ _ hk), h5, h6, h7⟩
    · simp only [storeCells, Sem.run_bind, add_none, hst, Result.andThen_ok, h1]
    · rw [h2]
      congr 3
      apply List.ext_getElem?
      intro j
      rw [spl_get (by simp; omega), spl_get (by simp; omega)]
      simp only [List.length_cons, Array.toList_setIfInBounds]
      by_cases hj : j = off + i
      · subst hj
        rw [if_neg (by omega), if_pos (by omega)]
        simp [hlt]
      · by_cases hj2 : off + (i + 1) ≤ j ∧ j < off + (i + 1) + vs.length
        · rw [if_pos hj2, if_pos (by omega)]
          obtain ⟨d, rfl⟩ : ∃ d, j = off + i + (d + 1) := ⟨j - (off + i) - 1, by omega⟩
          rw [show off + i + (d + 1) - (off + i) = d + 1 from by omega, show off + i + (d + 1) - (off + (i + 1)) = d from by omega]; simp
        · rw [if_neg hj2, if_neg (by omega), List.getElem?_set_ne (by omega)]
    · rw [h3]; simp [World.setCell]
theorem run_storeVar {P : Program} {B : Tb} [TbOk B P] {tv : TypeId} {T : TI} (hT : ti B tv = some T) {w : World} {b off : Nat} {c : Array Value} {t : TypeId} {fz : Nat × Nat} (h : w.heap[b]? = some (.cells c t fz)) {v : Value}
    (hn : v.cells.size = T.size) (hb : off + T.size ≤ c.size) (hv : ∀ u ∈ v.cells.toList, u.oneCell' = true) (hf : free fz off (off + T.size)) :
    ∃ w', (storeVar tv ⟨b, off, none⟩ v).run P w = .ok () w' ∧ w'.heap[b]? = some (.cells (spl c.toList off v.cells.toList).toArray t fz) ∧ w'.heap.size = w.heap.size ∧
      (∀ k, k ≠ b → w'.heap[k]? = w.heap[k]?) ∧ w'.os = w.os ∧ w'.tape = w.tape ∧ w'.output = w.output := by
  have := run_storeCells_spl (P := P) (off := off) v.cells.toList 0 c w h (by simp; omega) hv (by simpa [hn] using hf)
  simp only [Nat.add_zero] at this
  obtain ⟨w', h1, h2⟩ := this
  refine ⟨w', ?_, h2⟩
  simp only [storeVar, Sem.run_bind, run_ti_size hT, Result.andThen_ok, hn]
  simpa using h1

/-! Parts of an abstract value, by the cells at which they stand. 'g': is the part's type a struct or an array? -/
def litAt (v : Value) (off n : Nat) (g : Bool) : Option AV :=
  match v with
  | .agg cs =>
    if g then if off = 0 ∧ n = cs.size then some (.lit (.agg cs)) else if off + n ≤ cs.size then some (.lit (.agg (cs.extract off (off + n)))) else none
    else if n = 1 then (cs[off]?).map .lit else none
  | v => if off = 0 ∧ n = 1 ∧ g = false then some (.lit v) else none
mutual
def AV.getAt : AV → Nat → Nat → Bool → Option AV
  | .lit v, off, n, g => litAt v off n g
  | .agg xs, off, n, g => if off = 0 ∧ g = true ∧ n = AV.fszs xs then some (.agg xs) else AV.getAts xs off n g
  | x, off, n, g => if off = 0 ∧ n = 1 ∧ g = false then some x else none
def AV.getAts : List AV → Nat → Nat → Bool → Option AV
  | [], _, _, _ => none
  | x :: xs, off, n, g => if off < x.fsz then x.getAt off n g else AV.getAts xs (off - x.fsz) n g
end
/-- A part 'y' at 'off' in what takes the cells 'cs'. -/
def PartR (E : Env) (cs : List Value) (off n : Nat) (g : Bool) (y : AV) : Prop :=
  if g then ∃ ds rest, cs.drop off = ds ++ rest ∧ ds.length = n ∧ VR E y (.agg ds.toArray) else n = 1 ∧ ∃ u, cs[off]? = some u ∧ VR E y u
theorem litAt_sound {E : Env} {v : Value} {off n : Nat} {g : Bool} {y : AV} (h : litAt v off n g = some y) : PartR E v.cells.toList off n g y := by
  unfold litAt at h
  split at h
  · rename_i cs
    unfold PartR
    cases g with
    | true =>
      simp only [if_true] at h ⊢
      split at h
      · rename_i he; cases h; obtain ⟨rfl, rfl⟩ := he
        exact ⟨cs.toList, [], by simp [Value.cells], by simp, by simpa using RR.lit _⟩
      · split at h
        · rename_i he; cases h
          refine ⟨(cs.extract off (off + n)).toList, cs.toList.drop (off + n), ?_, by simp; omega, by rw [Array.toArray_toList]; exact RR.lit _⟩
          simp only [Value.cells, Array.toList_extract, List.extract, Nat.add_sub_cancel_left]
          rw [← List.drop_drop, List.take_append_drop]
        · cases h
    | false =>
      simp only [Bool.false_eq_true, if_false] at h ⊢
      split at h
      · rename_i he; subst he
        cases hc : cs[off]? with
        | none => rw [hc] at h; cases h
        | some u => rw [hc] at h; cases h; exact ⟨rfl, u, by simpa [Value.cells] using hc, .lit _⟩
      · cases h
  · rename_i v' hne
    split at h
    · rename_i he; cases h; obtain ⟨rfl, rfl, rfl⟩ := he
      unfold PartR
      refine (if_neg (by simp)).mpr ⟨rfl, v, ?_, .lit _⟩
      have : v.cells = #[v] := by unfold Value.cells; split <;> simp_all
      simp [this]
    · cases h
theorem leaf_sound {E : Env} {x y : AV} {v : Value} {off n : Nat} {g : Bool} (hx : VR E x v) (hc : v.cells = #[v]) (h : (if off = 0 ∧ n = 1 ∧ g = false then some x else none) = some y) :
    PartR E v.cells.toList off n g y := by
  split at h
  · rename_i he; cases h; obtain ⟨rfl, rfl, rfl⟩ := he
    exact (if_neg (by simp)).mpr ⟨rfl, v, by simp [hc], hx⟩
  · cases h
mutual
theorem getAt_sound {E : Env} : ∀ (x : AV) {v : Value} {off n : Nat} {g : Bool} {y : AV}, VR E x v → x.getAt off n g = some y → PartR E v.cells.toList off n g y
  | .lit u, v, off, n, g, y, hx, h => by
    have := hx.lit_inv; subst this
    rw [AV.getAt] at h; exact litAt_sound h
  | .agg xs, v, off, n, g, y, hx, h => by
    obtain ⟨cs, rfl, hcs⟩ := hx.agg_inv
    rw [AV.getAt] at h
    split at h
    · rename_i he; cases h; obtain ⟨rfl, rfl, rfl⟩ := he
      exact (if_pos rfl).mpr ⟨cs, [], by simp [Value.cells], by rw [hcs.cs_length], .agg hcs⟩
    · simpa [Value.cells] using getAts_sound xs hcs h
  | .ptr .., v, off, n, g, y, hx, h => by rw [AV.getAt] at h; exact leaf_sound hx (by cases hx; rfl) h
                                          all_goals simp
  | .slc .., v, off, n, g, y, hx, h => by rw [AV.getAt] at h; exact leaf_sound hx (by cases hx <;> rfl) h
                                          all_goals simp
  | .sub .., v, off, n, g, y, hx, h => by rw [AV.getAt] at h; exact leaf_sound hx (by cases hx <;> rfl) h
                                          all_goals simp
  | .yld _ , v, off, n, g, y, hx, h => by rw [AV.getAt] at h; exact leaf_sound hx (by cases hx <;> rfl) h
                                          all_goals simp
  | .ref _, v, off, n, g, y, hx, h => by rw [AV.getAt] at h; exact leaf_sound hx (by cases hx; rfl) h
                                         all_goals simp
  | .lst .., v, off, n, g, y, hx, h => by rw [AV.getAt] at h; exact leaf_sound hx (by cases hx <;> rfl) h
                                          all_goals simp
  | .mp .., v, off, n, g, y, hx, h => by rw [AV.getAt] at h; exact leaf_sound hx (by cases hx; rfl) h
                                         all_goals simp
  | .mpv .., v, off, n, g, y, hx, h => by rw [AV.getAt] at h; exact leaf_sound hx (by cases hx; rfl) h
                                          all_goals simp
  | .fn .., v, off, n, g, y, hx, h => by rw [AV.getAt] at h; exact leaf_sound hx (by cases hx; rfl) h
                                         all_goals simp
  | .iface .., v, off, n, g, y, hx, h => by rw [AV.getAt] at h; exact leaf_sound hx (by cases hx; rfl) h
                                            all_goals simp
  | .tup .., v, off, n, g, y, hx, h => by rw [AV.getAt] at h; exact leaf_sound hx (by cases hx; rfl) h
                                          all_goals simp
theorem getAts_sound {E : Env} : ∀ (xs : List AV) {cs : List Value} {off n : Nat} {g : Bool} {y : AV}, RR E .cs xs cs → AV.getAts xs off n g = some y → PartR E cs off n g y
  | [], cs, off, n, g, y, _, h => by rw [AV.getAts] at h; cases h
  | x :: xs, cs, off, n, g, y, hx, h => by
    obtain ⟨v, cs', h1, h2, rfl⟩ := hx.cs_cons_inv
    rw [AV.getAts] at h
    have hsz := h1.size
    split at h
    · rename_i hlt
      have := getAt_sound x h1 h
      unfold PartR at this ⊢
      split at this
      · rename_i hg; rw [if_pos hg]
        obtain ⟨ds, rest, h3, h4, h5⟩ := this
        refine ⟨ds, rest ++ cs', ?_, h4, h5⟩
        rw [List.drop_append_of_le_length (by simp; omega), h3]; simp
      · rename_i hg; rw [if_neg hg]
        obtain ⟨h3, u, h4, h5⟩ := this
        exact ⟨h3, u, by rw [List.getElem?_append_left (by simp; omega)]; exact h4, h5⟩
    · rename_i hge
      have := getAts_sound xs h2 h
      have hl : v.cells.toList.length = x.fsz := by simpa using hsz
      unfold PartR at this ⊢
      split at this
      · rename_i hg; rw [if_pos hg]
        obtain ⟨ds, rest, h3, h4, h5⟩ := this
        refine ⟨ds, rest, ?_, h4, h5⟩
        rw [List.drop_append, List.drop_eq_nil_of_le (by omega), hl]; simpa using h3
      · rename_i hg; rw [if_neg hg]
        obtain ⟨h3, u, h4, h5⟩ := this
        exact ⟨h3, u, by rw [List.getElem?_append_right (by omega), hl]; exact h4, h5⟩
end
end
end Go.AS
