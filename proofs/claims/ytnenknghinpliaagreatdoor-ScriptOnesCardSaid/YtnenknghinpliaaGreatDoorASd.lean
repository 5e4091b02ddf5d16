/- Parts of an abstract value set anew. -/
import Derived.Test.YtnenknghinpliaaGreatDoorASc
namespace Go.AS
noncomputable section

/-- May it be stored, cell by cell? -/
def Value.storable (v : Value) : Bool := v.cells.toList.all (·.oneCell')
mutual
def AV.storable : AV → Bool
  | .lit v => Value.storable v
  | .agg xs => AV.storables xs
  | .tup _ => false
  | _ => true
def AV.storables : List AV → Bool
  | [] => true
  | x :: xs => x.storable && AV.storables xs
end
mutual
theorem storable_sound {E : Env} : ∀ (x : AV) {v : Value}, VR E x v → x.storable = true → ∀ u ∈ v.cells.toList, u.oneCell' = true
  | .lit u, v, hx, h => by
    have := hx.lit_inv; subst this
    rw [AV.storable, Value.storable, List.all_eq_true] at h; exact h
  | .agg xs, v, hx, h => by
    obtain ⟨cs, rfl, hcs⟩ := hx.agg_inv
    rw [AV.storable] at h
    simpa [Value.cells] using storables_sound xs hcs h
  | .tup _, v, hx, h => by rw [AV.storable] at h; cases h
  | .ptr .., v, hx, _ => by cases hx; simp [Value.cells, Value.oneCell']
  | .slc .., v, hx, _ => by cases hx <;> simp [Value.cells, Value.oneCell']
  | .sub .., v, hx, _ => by cases hx <;> simp [Value.cells, Value.oneCell']
  | .yld _, v, hx, _ => by cases hx <;> simp [Value.cells, Value.oneCell']
  | .ref _, v, hx, _ => by cases hx; simp [Value.cells, Value.oneCell']
  | .lst .., v, hx, _ => by cases hx <;> simp [Value.cells, Value.oneCell']
  | .mp .., v, hx, _ => by cases hx; simp [Value.cells, Value.oneCell']
  | .mpv .., v, hx, _ => by cases hx; simp [Value.cells, Value.oneCell']
  | .fn .., v, hx, _ => by cases hx; simp [Value.cells, Value.oneCell']
  | .iface .., v, hx, _ => by cases hx; simp [Value.cells, Value.oneCell']
theorem storables_sound {E : Env} : ∀ (xs : List AV) {cs : List Value}, RR E .cs xs cs → AV.storables xs = true → ∀ u ∈ cs, u.oneCell' = true
  | [], cs, hx, _ => by obtain rfl := hx.cs_nil_inv; simp
  | x :: xs, cs, hx, h => by
    obtain ⟨v, cs', h1, h2, rfl⟩ := hx.cs_cons_inv
    rw [AV.storables, Bool.and_eq_true] at h
    intro u hu
    rcases List.mem_append.1 hu with hu | hu
    · exact storable_sound x h1 h.1 u hu
    · exact storables_sound xs h2 h.2 u hu
end

/-- The part at 'off' of size 'n' is 'y' from now on ('g': its type is a struct or an array). -/
def litSet (v : Value) (off n : Nat) (g : Bool) (y : AV) : Option AV :=
  match v with
  | .agg cs =>
    if g then
      if off = 0 ∧ n = cs.size then some y else
      match y with
      | .lit (.agg ds) => if off + n ≤ cs.size ∧ ds.size = n then some (.lit (.agg (spl cs.toList off ds.toList).toArray)) else none
      | _ => none
    else if n = 1 ∧ off < cs.size then
      match y with
      | .lit u => if u.oneCell' then some (.lit (.agg (cs.setIfInBounds off u))) else none
      | y => if cs.toList.all (·.oneCell') then some (.agg ((cs.toList.map .lit).set off y)) else none
    else none
  | _ => if off = 0 ∧ n = 1 ∧ g = false then some y else none
mutual
def AV.setAt : AV → Nat → Nat → Bool → AV → Option AV
  | .lit v, off, n, g, y => litSet v off n g y
  | .agg xs, off, n, g, y => if off = 0 ∧ g = true ∧ n = AV.fszs xs then some y else (AV.setAts xs off n g y).map .agg
  | _, off, n, g, y => if off = 0 ∧ n = 1 ∧ g = false then some y else none
def AV.setAts : List AV → Nat → Nat → Bool → AV → Option (List AV)
  | [], _, _, _, _ => none
  | x :: xs, off, n, g, y => if off < x.fsz then (x.setAt off n g y).map (· :: xs) else (AV.setAts xs (off - x.fsz) n g y).map (x :: ·)
end
theorem cells_one {v : Value} (h : v.oneCell' = true) : v.cells = #[v] := by cases v <;> simp_all [Value.cells, Value.oneCell']
theorem RR.cs_lits {E : Env} : ∀ (cs : List Value), (∀ u ∈ cs, u.oneCell' = true) → RR E .cs (cs.map .lit) cs
  | [], _ => .cnil
  | u :: cs, h => by
    have := RR.ccons (RR.lit (E := E) u) (RR.cs_lits cs fun v hv => h v (List.mem_cons_of_mem _ hv))
    rw [cells_one (h u (List.mem_cons_self ..))] at this
    simpa using this
theorem fszs_lits : ∀ (cs : List Value), (∀ u ∈ cs, u.oneCell' = true) → AV.fszs (cs.map .lit) = cs.length
  | [], _ => by simp [AV.fszs]
  | u :: cs, h => by
    simp only [List.map_cons, AV.fszs, AV.fsz, fszs_lits cs fun v hv => h v (List.mem_cons_of_mem _ hv), cells_one (h u (List.mem_cons_self ..))]; simp; omega
theorem RR.cs_set {E : Env} {y : AV} {u : Value} (hy : VR E y u) (hu : u.oneCell' = true) : ∀ (xs : List AV) (off : Nat) {cs : List Value}, RR E .cs xs cs → (∀ x ∈ xs, x.fsz = 1) → off < xs.length →
    RR E .cs (xs.set off y) (cs.set off u)
  | [], _, _, _, _, h => by simp at h
  | x :: xs, 0, cs, hx, h1, _ => by
    obtain ⟨v, cs', h2, h3, rfl⟩ := hx.cs_cons_inv
    have hs := h2.size
    rw [h1 x (List.mem_cons_self ..)] at hs
    have := RR.ccons hy h3
    rw [cells_one hu] at this
    have hv : ∃ z, v.cells.toList = [z] := List.length_eq_one_iff.1 (by simpa using hs)
    obtain ⟨z, hz⟩ := hv
    rw [hz]; simpa using this
  | x :: xs, off + 1, cs, hx, h1, hlt => by
    obtain ⟨v, cs', h2, h3, rfl⟩ := hx.cs_cons_inv
    have hs := h2.size
    rw [h1 x (List.mem_cons_self ..)] at hs
    obtain ⟨z, hz⟩ : ∃ z, v.cells.toList = [z] := List.length_eq_one_iff.1 (by simpa using hs)
    have := RR.cs_set hy hu xs off h3 (fun y hy => h1 y (List.mem_cons_of_mem _ hy)) (by simpa using hlt)
    have := RR.ccons h2 this
    rw [hz] at this ⊢
    simpa using this
theorem spl_whole {c vs : List Value} (h : vs.length = c.length) : spl c 0 vs = vs := by simp [spl, h]
theorem spl_one {c : List Value} {off : Nat} {u : Value} (h : off < c.length) : spl c off [u] = c.set off u := by
  apply List.ext_getElem?; intro j
  rw [spl_get (by simp; omega)]
  by_cases hj : j = off
  · subst hj; simp [h]
  · rw [if_neg (by simp; omega), List.getElem?_set_ne (by omega)]
theorem spl_left {a b vs : List Value} {off : Nat} (h : off + vs.length ≤ a.length) : spl (a ++ b) off vs = spl a off vs ++ b := by
  simp only [spl]
  rw [List.take_append_of_le_length (by omega), List.drop_append_of_le_length (by omega)]; simp
theorem spl_right {a b vs : List Value} {off : Nat} (h : a.length ≤ off) : spl (a ++ b) off vs = a ++ spl b (off - a.length) vs := by
  simp only [spl]
  rw [List.take_append, List.take_of_length_le h, List.drop_append, List.drop_eq_nil_of_le (by omega)]
  simp; congr 2; omega
/-- Setting a part keeps the size, and the cells turn where the part stands. -/
def SetR (E : Env) (y' : AV) (cs : List Value) (off : Nat) (vs : List Value) : Prop :=
  off + vs.length ≤ cs.length ∧ ∃ v', VR E y' v' ∧ v'.cells.toList = spl cs off vs
theorem litSet_sound {E : Env} {v : Value} {off n : Nat} {g : Bool} {y y' : AV} {u : Value} (h : litSet v off n g y = some y') (hy : VR E y u) (hn : u.cells.size = n) (hg : g = false → u.oneCell' = true) :
    SetR E y' v.cells.toList off u.cells.toList := by
  unfold litSet at h
  split at h
  · rename_i cs
    split at h
    · rename_i hgt
      split at h
      · rename_i he; cases h; obtain ⟨rfl, he⟩ := he
        have hl : u.cells.toList.length = (Value.agg cs).cells.toList.length := by
          show u.cells.toList.length = cs.toList.length
          simp only [Array.length_toList]; omega
        exact ⟨by omega, u, hy, (spl_whole hl).symm⟩
      · split at h
        · rename_i ds
          split at h
          · rename_i he; cases h; obtain ⟨h1, h2⟩ := he
            have := hy.lit_inv; subst this
            exact ⟨by simp [Value.cells]; omega, _, .lit _, by simp [Value.cells]⟩
          · cases h
        · cases h
    · rename_i hgf
      have hgf' : g = false := by simpa using hgf
      have hone := hg hgf'
      split at h
      · rename_i he; obtain ⟨rfl, hlt⟩ := he
        split at h
        · split at h
          · rename_i u' hu; cases h
            have := hy.lit_inv; subst this
            refine ⟨by rw [cells_one hone]; simp [Value.cells]; omega, _, .lit _, ?_⟩
            rw [cells_one hone]
            simp only [Value.cells, Array.toList_setIfInBounds]
            rw [spl_one (by simpa using hlt)]
          · cases h
        · rename_i y'' hne
          split at h
          · rename_i hall; cases h
            rw [List.all_eq_true] at hall
            refine ⟨by rw [cells_one hone]; simp [Value.cells]; omega, _, .agg (RR.cs_set hy hone (cs.toList.map .lit) off (RR.cs_lits _ hall) ?_ (by simpa using hlt)), ?_⟩
            · intro x hx
              obtain ⟨z, hz, rfl⟩ := List.mem_map.1 hx
              simp [AV.fsz, cells_one (hall z hz)]
            · rw [cells_one hone]
              simp only [Value.cells]
              rw [spl_one (by simpa using hlt)]
          · cases h
      · cases h
  · rename_i v' hne
    split at h
    · rename_i he; cases h; obtain ⟨rfl, rfl, rfl⟩ := he
      have hc : v.cells = #[v] := by unfold Value.cells; split <;> simp_all
      refine ⟨by rw [hc]; simp [hn], u, hy, ?_⟩
      rw [spl_whole]; rw [hc]; simp [hn]
    · cases h
theorem leafSet_sound {E : Env} {y y' : AV} {v u : Value} {off n : Nat} {g : Bool} (hc : v.cells = #[v]) (h : (if off = 0 ∧ n = 1 ∧ g = false then some y else none) = some y') (hy : VR E y u)
    (hn : u.cells.size = n) : SetR E y' v.cells.toList off u.cells.toList := by
  split at h
  · rename_i he; cases h; obtain ⟨rfl, rfl, rfl⟩ := he
    refine ⟨by rw [hc]; simp [hn], u, hy, ?_⟩
    rw [spl_whole]; rw [hc]; simp [hn]
  · cases h
mutual
theorem setAt_sound {E : Env} : ∀ (x : AV) {v : Value} {off n : Nat} {g : Bool} {y y' : AV} {u : Value}, VR E x v → x.setAt off n g y = some y' → VR E y u → u.cells.size = n → (g = false → u.oneCell' = true) →
    SetR E y' v.cells.toList off u.cells.toList
  | .lit w, v, off, n, g, y, y', u, hx, h, hy, hn, hg => by
    have := hx.lit_inv; subst this
    rw [AV.setAt] at h; exact litSet_sound h hy hn hg
  | .agg xs, v, off, n, g, y, y', u, hx, h, hy, hn, hg => by
    obtain ⟨cs, rfl, hcs⟩ := hx.agg_inv
    rw [AV.setAt] at h
    split at h
    · rename_i he; cases h; obtain ⟨rfl, rfl, he⟩ := he
      have := hcs.cs_length
      have hl : u.cells.toList.length = (Value.agg cs.toArray).cells.toList.length := by
        show u.cells.toList.length = cs.length
        simp only [Array.length_toList]; omega
      exact ⟨by omega, u, hy, (spl_whole hl).symm⟩
    · cases hs : AV.setAts xs off n g y with
      | none => rw [hs] at h; cases h
      | some ys =>
        rw [hs] at h; cases h
        obtain ⟨h1, cs', h2, h3⟩ := setAts_sound xs hcs hs hy hn hg
        exact ⟨by simpa [Value.cells] using h1, _, .agg h2, by simpa [Value.cells] using h3⟩
  | .ptr .., v, off, n, g, y, y', u, hx, h, hy, hn, hg => by rw [AV.setAt] at h; exact leafSet_sound (by cases hx; rfl) h hy hn
                                                             all_goals simp
  | .slc .., v, off, n, g, y, y', u, hx, h, hy, hn, hg => by rw [AV.setAt] at h; exact leafSet_sound (by cases hx <;> rfl) h hy hn
                                                             all_goals simp
  | .sub .., v, off, n, g, y, y', u, hx, h, hy, hn, hg => by rw [AV.setAt] at h; exact leafSet_sound (by cases hx <;> rfl) h hy hn
                                                             all_goals simp
  | .yld _ , v, off, n, g, y, y', u, hx, h, hy, hn, hg => by rw [AV.setAt] at h; exact leafSet_sound (by cases hx <;> rfl) h hy hn
                                                             all_goals simp
  | .ref _, v, off, n, g, y, y', u, hx, h, hy, hn, hg => by rw [AV.setAt] at h; exact leafSet_sound (by cases hx; rfl) h hy hn
                                                            all_goals simp
  | .lst .., v, off, n, g, y, y', u, hx, h, hy, hn, hg => by rw [AV.setAt] at h; exact leafSet_sound (by cases hx <;> rfl) h hy hn
                                                             all_goals simp
  | .mp .., v, off, n, g, y, y', u, hx, h, hy, hn, hg => by rw [AV.setAt] at h; exact leafSet_sound (by cases hx; rfl) h hy hn
                                                            all_goals simp
  | .mpv .., v, off, n, g, y, y', u, hx, h, hy, hn, hg => by rw [AV.setAt] at h; exact leafSet_sound (by cases hx; rfl) h hy hn
                                                             all_goals simp
  | .fn .., v, off, n, g, y, y', u, hx, h, hy, hn, hg => by rw [AV.setAt] at h; exact leafSet_sound (by cases hx; rfl) h hy hn
                                                            all_goals simp
  | .iface .., v, off, n, g, y, y', u, hx, h, hy, hn, hg => by rw [AV.setAt] at h; exact leafSet_sound (by cases hx; rfl) h hy hn
                                                               all_goals simp
  | .tup .., v, off, n, g, y, y', u, hx, h, hy, hn, hg => by rw [AV.setAt] at h; exact leafSet_sound (by cases hx; rfl) h hy hn
                                                             all_goals simp
theorem setAts_sound {E : Env} : ∀ (xs : List AV) {cs : List Value} {off n : Nat} {g : Bool} {y : AV} {ys : List AV} {u : Value}, RR E .cs xs cs → AV.setAts xs off n g y = some ys → VR E y u → u.cells.size = n →
    (g = false → u.oneCell' = true) → off + u.cells.toList.length ≤ cs.length ∧ ∃ cs', RR E .cs ys cs' ∧ cs' = spl cs off u.cells.toList
  | [], cs, off, n, g, y, ys, u, _, h, _, _, _ => by rw [AV.setAts] at h; cases h
  | x :: xs, cs, off, n, g, y, ys, u, hx, h, hy, hn, hg => by
    obtain ⟨v, cs', h1, h2, rfl⟩ := hx.cs_cons_inv
    rw [AV.setAts] at h
    have hsz : v.cells.toList.length = x.fsz := by simpa using h1.size
    split at h
    · rename_i hlt
      cases hs : x.setAt off n g y with
      | none => rw [hs] at h; cases h
      | some x' =>
        rw [hs] at h; cases h
        obtain ⟨h3, v', h4, h5⟩ := setAt_sound x h1 hs hy hn hg
        refine ⟨by simp at h3 ⊢; omega, _, .ccons h4 h2, ?_⟩
        rw [h5, spl_left h3]
    · rename_i hge
      cases hs : AV.setAts xs (off - x.fsz) n g y with
      | none => rw [hs] at h; cases h
      | some ys' =>
        rw [hs] at h; cases h
        obtain ⟨h3, cs2, h4, h5⟩ := setAts_sound xs h2 hs hy hn hg
        refine ⟨by simp at h3 hsz ⊢; omega, _, .ccons h1 h4, ?_⟩
        rw [spl_right (by omega), h5, hsz]
end
/-- An element of a row, as a list of cells, is replaced. -/
theorem RR.cs_setElem {E : Env} {sz : Nat} {y : AV} {u : Value} (hy : VR E y u) (hu : u.cells.size = sz) : ∀ (xs : List AV) (k : Nat) {cs : List Value}, RR E .cs xs cs → (∀ x ∈ xs, x.fsz = sz) → k < xs.length →
    RR E .cs (xs.set k y) (spl cs (k * sz) u.cells.toList) ∧ k * sz + sz ≤ cs.length
  | [], _, _, _, _, h => by simp at h
  | x :: xs, 0, cs, hx, h1, _ => by
    obtain ⟨v, cs', h2, h3, rfl⟩ := hx.cs_cons_inv
    have hs := h2.size
    rw [h1 x (List.mem_cons_self ..)] at hs
    have := RR.ccons hy h3
    refine ⟨?_, by simp; omega⟩
    rw [Nat.zero_mul, spl_left (by simp; omega), spl_whole (by simp; omega)]
    exact this
  | x :: xs, k + 1, cs, hx, h1, hlt => by
    obtain ⟨v, cs', h2, h3, rfl⟩ := hx.cs_cons_inv
    have hs : v.cells.toList.length = sz := by simpa [h1 x (List.mem_cons_self ..)] using h2.size
    obtain ⟨h4, h5⟩ := RR.cs_setElem hy hu xs k h3 (fun y hy => h1 y (List.mem_cons_of_mem _ hy)) (by simpa using hlt)
    refine ⟨?_, by simp [Nat.succ_mul] at hs h5 ⊢; omega⟩
    rw [spl_right (by rw [hs, Nat.succ_mul]; omega), hs, show (k + 1) * sz - sz = k * sz by rw [Nat.succ_mul]; omega]
    exact .ccons h2 h4
theorem spl_spl {cs vs : List Value} {a off n : Nat} (ha : a + n ≤ cs.length) (ho : off + vs.length ≤ n) :
    spl cs a (spl ((cs.drop a).take n) off vs) = spl cs (a + off) vs := by
  apply List.ext_getElem?; intro j
  have hl : ((cs.drop a).take n).length = n := by simp; omega
  have h1 : (spl ((cs.drop a).take n) off vs).length = n := by rw [spl_length (by omega), hl]
  have e1 := spl_get (c := cs) (vs := spl ((cs.drop a).take n) off vs) (off := a) (by omega) j
  have e2 := spl_get (c := cs) (vs := vs) (off := a + off) (by omega) j
  have e3 := spl_get (c := (cs.drop a).take n) (vs := vs) (off := off) (by omega) (j - a)
  rw [e1, e2, h1]
  by_cases hj : a ≤ j ∧ j < a + n
  · rw [if_pos hj, e3]
    by_cases hj2 : a + off ≤ j ∧ j < a + off + vs.length
    · rw [if_pos hj2, if_pos (by omega)]; congr 1; omega
    · rw [if_neg hj2, if_neg (by omega), List.getElem?_take, if_pos (by omega), List.getElem?_drop]; congr 1; omega
  · rw [if_neg hj, if_neg (by omega)]
/-! The cells that a value takes, one by one. -/
mutual
def flatA : AV → List AV
  | .lit v => v.cells.toList.map .lit
  | .agg xs => flatAs xs
  | x => [x]
def flatAs : List AV → List AV
  | [] => []
  | x :: xs => flatA x ++ flatAs xs
end
theorem flat_leaf {E : Env} {x : AV} {v : Value} (h : VR E x v) (hc : v.cells = #[v]) (h1 : x.fsz = 1) (hf : flatA x = [x]) : RR E .cs (flatA x) v.cells.toList ∧ ∀ y ∈ flatA x, y.fsz = 1 := by
  rw [hf]
  exact ⟨by simpa using RR.cs_one h, fun y hy => by obtain rfl := List.mem_singleton.1 hy; exact h1⟩
theorem lits_one {l : List Value} (h : ∀ u ∈ l, u.oneCell' = true) : ∀ x ∈ l.map AV.lit, x.fsz = 1 := by
  intro x hx
  obtain ⟨v, hv, rfl⟩ := List.mem_map.1 hx
  rw [AV.fsz, cells_one (h v hv)]; rfl
mutual
theorem flatA_sound {E : Env} : ∀ (x : AV) {v : Value}, VR E x v → (∀ u ∈ v.cells.toList, u.oneCell' = true) → RR E .cs (flatA x) v.cells.toList ∧ ∀ y ∈ flatA x, y.fsz = 1
  | .lit u, v, hx, ho => by
    have := hx.lit_inv; subst this
    rw [flatA]; exact ⟨RR.cs_lits _ ho, lits_one ho⟩
  | .agg xs, v, hx, ho => by
    obtain ⟨cs, rfl, hcs⟩ := hx.agg_inv
    rw [flatA]
    simp only [Value.cells] at ho ⊢
    exact flatAs_sound xs hcs ho
  | .ptr .., v, hx, _ => flat_leaf hx (by cases hx; rfl) (by simp [AV.fsz]) (by simp [flatA])
  | .slc .., v, hx, _ => flat_leaf hx (by cases hx <;> rfl) (by simp [AV.fsz]) (by simp [flatA])
  | .sub .., v, hx, _ => flat_leaf hx (by cases hx <;> rfl) (by simp [AV.fsz]) (by simp [flatA])
  | .yld _, v, hx, _ => flat_leaf hx (by cases hx <;> rfl) (by simp [AV.fsz]) (by simp [flatA])
  | .ref _, v, hx, _ => flat_leaf hx (by cases hx; rfl) (by simp [AV.fsz]) (by simp [flatA])
  | .lst .., v, hx, _ => flat_leaf hx (by cases hx <;> rfl) (by simp [AV.fsz]) (by simp [flatA])
  | .mp .., v, hx, _ => flat_leaf hx (by cases hx; rfl) (by simp [AV.fsz]) (by simp [flatA])
  | .mpv .., v, hx, _ => flat_leaf hx (by cases hx; rfl) (by simp [AV.fsz]) (by simp [flatA])
  | .fn .., v, hx, _ => flat_leaf hx (by cases hx; rfl) (by simp [AV.fsz]) (by simp [flatA])
  | .iface .., v, hx, _ => flat_leaf hx (by cases hx; rfl) (by simp [AV.fsz]) (by simp [flatA])
  | .tup .., v, hx, _ => flat_leaf hx (by cases hx; rfl) (by simp [AV.fsz]) (by simp [flatA])
theorem flatAs_sound {E : Env} : ∀ (xs : List AV) {cs : List Value}, RR E .cs xs cs → (∀ u ∈ cs, u.oneCell' = true) → RR E .cs (flatAs xs) cs ∧ ∀ y ∈ flatAs xs, y.fsz = 1
  | [], cs, hx, _ => by obtain rfl := hx.cs_nil_inv; rw [flatAs]; exact ⟨.cnil, fun y hy => by cases hy⟩
  | x :: xs, cs, hx, ho => by
    obtain ⟨v, cs', h1, h2, rfl⟩ := hx.cs_cons_inv
    obtain ⟨a1, a2⟩ := flatA_sound x h1 fun u hu => ho u (List.mem_append_left _ hu)
    obtain ⟨b1, b2⟩ := flatAs_sound xs h2 fun u hu => ho u (List.mem_append_right _ hu)
    rw [flatAs]
    exact ⟨RR.cs_append a1 b1, fun y hy => (List.mem_append.1 hy).elim (a2 y) (b2 y)⟩
end
theorem flatA_len {E : Env} {x : AV} {v : Value} (hx : VR E x v) (ho : ∀ u ∈ v.cells.toList, u.oneCell' = true) : (flatA x).length = x.fsz := by
  obtain ⟨a1, a2⟩ := flatA_sound x hx ho
  have h1 := a1.cs_length
  rw [AV.fszs_uniform a2, Nat.mul_one, Array.length_toList, hx.size] at h1
  exact h1.symm
end
end Go.AS
