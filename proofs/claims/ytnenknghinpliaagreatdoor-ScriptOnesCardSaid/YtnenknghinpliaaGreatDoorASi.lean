/- New slices, lengths, conversions, assertions. -/
import Derived.Test.YtnenknghinpliaaGreatDoorASh
namespace Go.AS
noncomputable section

/-! A slice's literal: all its elements, in order. -/
def buildSliceE (B : Tb) (T : TI) (n : Nat) (parts : List (Nat × AV)) : Option (TypeId × TI × List AV) :=
  match T.desc with
  | .slice e => match ti B e with
    | some U => match U.zero with
      | some z => if z.cells.size = U.size ∧ n * U.size ≤ 16777216 ∧ 0 < U.size ∧ parts.map (·.1) = List.range n ∧ (parts.all fun p => p.2.fsz == U.size && p.2.storable) = true then some (e, U, parts.map (·.2)) else none
      | none => none
    | none => none
  | _ => none
theorem fill_all {E : Env} {sz : Nat} (hsz : 0 < sz) : ∀ (parts : List (Nat × AV)) (vs : List (Nat × Value)) (k m : Nat) (cells : Array Value) (done : List Value), parts.map (·.1) = List.range' k m → vs.map (·.1) = parts.map (·.1) →
    RR E .vs (parts.map (·.2)) (vs.map (·.2)) → (∀ p ∈ parts, p.2.fsz = sz) → done.length = k * sz → cells.toList.take (k * sz) = done → cells.size = (k + m) * sz →
    ∃ out cs, Instr.fill (fun i => some (i * sz, sz)) cells vs = some out ∧ RR E .cs (parts.map (·.2)) cs ∧ out.toList = done ++ cs ∧ cs.length = m * sz
  | [], vs, k, m, cells, done, hk, hv, hr, _, hd, ht, hs => by
    have hm : m = 0 := by have := congrArg List.length hk; simpa using this.symm
    subst hm
    have : vs = [] := by simpa using hv
    subst this
    refine ⟨cells, [], rfl, .cnil, ?_, by simp⟩
    rw [List.append_nil, ← ht, List.take_of_length_le (by simp [hs])]
  | p :: parts, vs, k, m, cells, done, hk, hv, hr, hf, hd, ht, hs => by
    cases vs with
    | nil => simp at hv
    | cons q vs =>
      simp only [List.map_cons] at hk hv hr ⊢
      cases m with
      | zero => simp at hk
      | succ m =>
        rw [List.range'_succ] at hk
        simp only [List.cons.injEq] at hk hv
        obtain ⟨hk1, hk2⟩ := hk
        obtain ⟨hv1, hv2⟩ := hv
        obtain ⟨v, vs', h1, h2, h3⟩ := hr.vs_cons_inv
        simp only [List.cons.injEq] at h3
        obtain ⟨rfl, rfl⟩ := h3
        have hvsz : q.2.cells.size = sz := by rw [h1.size]; exact hf p (List.mem_cons_self ..)
        have hq1 : q.1 = k := by rw [hv1, hk1]
        have hfold : ∀ (us : List Value) (j : Nat) (cs : Array Value), k * sz + j + us.length ≤ cs.size →
            (us.zipIdx j).foldl (fun (cs : Array Value) (x : Value × Nat) => cs.setIfInBounds (k * sz + x.2) x.1) cs = (spl cs.toList (k * sz + j) us).toArray := by
          intro us
          induction us with
          | nil => intro j cs _; simp [spl]
          | cons u us ih =>
            intro j cs hle
            simp only [List.length_cons] at hle
            rw [List.zipIdx_cons, List.foldl_cons, ih (j + 1) _ (by simp; omega)]
            congr 1
            apply List.ext_getElem?; intro i
            rw [spl_get (by simp; omega), spl_get (by simp; omega)]
            simp only [List.length_cons, Array.toList_setIfInBounds]
            by_cases hi : i = k * sz + j
            · subst hi
              rw [if_neg (by omega), if_pos (by omega)]
              have : k * sz + j < cs.toList.length := by simp; omega
              rw [List.getElem?_set_self this]; simp
            · by_cases hi2 : k * sz + (j + 1) ≤ i ∧ i < k * sz + (j + 1) + us.length
              · rw [if_pos hi2, if_pos (by omega)]
                obtain ⟨d, rfl⟩ : ∃ d, i = k * sz + j + (d + 1) := ⟨i - (k * sz + j) - 1, by omega⟩
                rw [show k * sz + j + (d + 1) - (k * sz + j) = d + 1 by omega, show k * sz + j + (d + 1) - (k * sz + (j + 1)) = d by omega]; simp
              · rw [if_neg hi2, if_neg (by omega), List.getElem?_set_ne (by omega)]
        have hfit : k * sz + sz ≤ cells.size := by rw [hs, show k + (m + 1) = (k + 1) + m by omega, Nat.add_mul, Nat.add_mul]; omega
        have hstep := hfold q.2.cells.toList 0 cells (by simp; omega)
        have hcl : (spl cells.toList (k * sz + 0) q.2.cells.toList).length = cells.size := by rw [spl_length (by simp; omega)]; simp
        obtain ⟨out, cs, g1, g2, g3, g4⟩ := fill_all hsz parts vs (k + 1) m (spl cells.toList (k * sz + 0) q.2.cells.toList).toArray (done ++ q.2.cells.toList) (by rw [hk2]) hv2 h2 (fun p hp => hf p (List.mem_cons_of_mem _ hp))
          (by simp [hd, hvsz, Nat.succ_mul]) (by
            simp only [Nat.add_zero, Nat.succ_mul]
            rw [← ht]
            simp only [spl]
            rw [List.take_append, List.take_of_length_le (by simp; omega)]
            congr 1
            have : (List.take (k * sz) cells.toList).length = k * sz := by simp; omega
            rw [this, show k * sz + sz - k * sz = q.2.cells.toList.length by simp; omega, List.take_left])
          (by rw [List.size_toArray, hcl, hs]; congr 1; omega)
        refine ⟨out, q.2.cells.toList ++ cs, ?_, .ccons h1 g2, by rw [g3]; simp, by simp [g4, hvsz, Nat.succ_mul]; omega⟩
        unfold Instr.fill
        simp only [hq1]
        rw [if_neg]
        · rw [← Array.foldl_toList, Array.toList_zipIdx, hstep]; exact g1
        · simp [hvsz]; omega
theorem buildSlice_run {P : Program} {B : Tb} [TbOk B P] {t e : TypeId} {T U : TI} (hT : ti B t = some T) {n : Nat} {parts : List (Nat × AV)} {xs : List AV} (h : buildSliceE B T n parts = some (e, U, xs)) {E : Env} {vs : List (Nat × Value)}
    (hv : vs.map (·.1) = parts.map (·.1)) (hr : RR E .vs (parts.map (·.2)) (vs.map (·.2))) (w : World) :
    ∃ out cs, (Instr.buildSlice t n vs.toArray).run P w = .ok (.slice (some ⟨w.heap.size, 0, none⟩) n n) (w.alloc (.cells out e)) ∧ RR E .cs xs cs ∧ out.toList = cs ∧ xs.length = n ∧ (∀ x ∈ xs, x.fsz = U.size) ∧ (∀ u ∈ cs, u.oneCell' = true) ∧ 0 < U.size := by
  unfold buildSliceE at h
  split at h
  · rename_i _ hd
    split at h
    · rename_i _ hU
      split at h
      · rename_i z hz
        split at h
        · rename_i hc; cases h
          obtain ⟨hzs, hlim, hpos, hidx, hall⟩ := hc
          rw [List.all_eq_true] at hall
          have hf : ∀ p ∈ parts, p.2.fsz = U.size := fun p hp => by have := hall p hp; simp at this; exact this.1
          have hst : ∀ p ∈ parts, p.2.storable = true := fun p hp => by have := hall p hp; simp at this; exact this.2
          have hlen : parts.length = n := by have := congrArg List.length hidx; simpa using this
          obtain ⟨out, cs, g1, g2, g3, g4⟩ := fill_all (E := E) hpos parts vs 0 n ((Array.range (n * U.size)).map (z.cells[· % z.cells.size]!)) [] (by rw [hidx, List.range_eq_range']) hv hr hf (by simp) (by simp) (by simp)
          have hemp : n * U.size = 0 → (Array.range (n * U.size)).map (fun x => (#[] : Array Value)[x % (#[] : Array Value).size]!) = (Array.range (n * U.size)).map (z.cells[· % z.cells.size]!) := fun h0 => by simp [h0]
          refine ⟨out, cs, ?_, g2, by simpa using g3, by simp [hlen], fun x hx => ?_, fun u hu => ?_, hpos⟩
          · simp only [Instr.buildSlice, Sem.run_bind, run_ti_underlying hT, Result.andThen_ok, hd, run_ti_size hU]
            rw [if_neg (by omega)]
            split
            · rename_i h0
              simp only [Sem.run_bind, Sem.run_pure, Result.andThen_ok, hemp h0, g1]
              rfl
            · simp only [Sem.run_bind, Sem.run_pure, Result.andThen_ok, run_ti_zero hU w hz, g1]
              rfl
          · obtain ⟨p, hp, rfl⟩ := List.mem_map.1 hx; exact hf p hp
          · -- each cell is single
            have : ∀ (ps : List (Nat × AV)) (cs : List Value), (∀ p ∈ ps, p.2.storable = true) → RR E .cs (ps.map (·.2)) cs → ∀ u ∈ cs, u.oneCell' = true := by
              intro ps
              induction ps with
              | nil => intro cs _ h; simp only [List.map_nil] at h; obtain rfl := h.cs_nil_inv; simp
              | cons p ps ih =>
                intro cs hs h
                simp only [List.map_cons] at h
                obtain ⟨v, cs', h1, h2, rfl⟩ := h.cs_cons_inv
                intro u hu
                rcases List.mem_append.1 hu with hu | hu
                · exact storable_sound p.2 h1 (hs p (List.mem_cons_self ..)) u hu
                · exact ih cs' (fun q hq => hs q (List.mem_cons_of_mem _ hq)) h2 u hu
            exact this parts cs hst g2 u hu
        · cases h
      · cases h
    · cases h
  · cases h
/-- A block just made, as a list that nobody writes. -/
theorem new_lst {E : Env} {τ : Hp} {w : World} (hh : Holds E τ w) {p : Id} {out : Array Value} {e : TypeId} {xs : List AV} {sz n : Nat} {cs rest : List Value} (hr : RR E .cs xs cs) (ho : out.toList = cs ++ rest) (hn : xs.length = n)
    (hs : ∀ x ∈ xs, x.fsz = sz) (h1 : ∀ u ∈ cs, u.oneCell' = true) {cap : Nat} (hc : n ≤ cap) (hnl : noLabs xs = true) {ex : Bool} (he : ex = true → cap = n) :
    ∃ E', VR E' (.lst ex sz xs) (.slice (some ⟨w.heap.size, 0, none⟩) n cap) ∧ Holds E' τ (w.alloc (.cells out e)) ∧ Adv E τ w E' τ (w.alloc (.cells out e)) ∧ NewIn E E' p := by
  obtain ⟨q1, q2⟩ := hh.newMem (.cells out e)
  exact ⟨_, .lst (c := out) (t := e) (fz := (0, 0)) (rest := rest) (by simp [Env.mem]) ((hr.pure_of hnl).mono q2.le.pure) (by simpa using ho) hs hn hc he h1, q1, q2, Env.mem_newIn⟩
/-- A block just made, as a row of the call's own. -/
theorem new_row {E : Env} {τ : Hp} {w : World} (hh : Holds E τ w) {p : Id} (hp : Fresh E p) {out : Array Value} {e : TypeId} {xs : List AV} {sz n cap : Nat} {cs rest : List Value} (hr : RR E .cs xs cs) (ho : out.toList = cs ++ rest) (hn : xs.length = n)
    (hs : ∀ x ∈ xs, x.fsz = sz) (h1 : ∀ u ∈ cs, u.oneCell' = true) (hc : n ≤ cap) (hb : cap * sz ≤ out.size) (d : Nat) :
    ∃ E', VR E' (.slc d p 0 n) (.slice (some ⟨w.heap.size, 0, none⟩) n cap) ∧ Holds E' (τ.app [(d, ⟨p, .row (noLabs xs) sz xs⟩)]) (w.alloc (.cells out e)) ∧ Adv E τ w E' (τ.app [(d, ⟨p, .row (noLabs xs) sz xs⟩)]) (w.alloc (.cells out e)) ∧ NewIn E E' p := by
  have hle : E.le (E.name p (.at w.heap.size 0 sz cap)) := Env.name_le (hp p (List.suffix_refl _))
  obtain ⟨q1, q2⟩ := hh.new hp (.cells out e) 0 sz cap d (.row (noLabs xs) sz xs) (.row (rest := rest) (c := out) (t := e) (fz := (0, 0)) (by show (w.heap.push _)[w.heap.size]? = _; simp) (hr.sel_of.mono (hle.sel _)) (by simpa using ho) hs (by omega)
    (by omega) (free_zero _ _) h1)
  refine ⟨_, ?_, q1, q2, Env.name_newIn⟩
  have := RR.slc (E := E.name p (.at w.heap.size 0 sz cap)) d (i := p) (off := 0) (len := n) (c := cap) (Env.name_self ..) hc (by omega)
  simpa using this

/-! Lengths. -/
def lenE (T : TI) : AV → Option Int
  | .lit (.string s) => match T.desc with | .string => some s.size | _ => none
  | .lit (.slice _ n _) => match T.desc with | .slice _ => some n | _ => none
  | .lst _ _ xs => match T.desc with | .slice _ => some xs.length | _ => none
  | .slc _ _ _ n => match T.desc with | .slice _ => some n | _ => none
  | .mpv ks _ => match T.desc with | .map _ _ => some ks.length | _ => none
  | .lit (.map none) => match T.desc with | .map _ _ => some 0 | _ => none
  | _ => match T.desc with | .array n _ => some n | _ => none
theorem slice_len {E : Env} {ex : Bool} {sz : Nat} {xs : List AV} {v : Value} (h : VR E (.lst ex sz xs) v) : ∃ a c, v = .slice a xs.length c := by
  rcases lst_inv h with ⟨rfl, a, c, rfl, _⟩ | ⟨b, off, cp, c, t, fz, cs, rest, rfl, _⟩
  · exact ⟨_, _, rfl⟩
  · exact ⟨_, _, rfl⟩
theorem len_sound {P : Program} {B : Tb} [TbOk B P] {t rt : TypeId} {T : TI} (hT : ti B t = some T) {E : Env} {τ : Hp} {w : World} (hh : Holds E τ w) {x : AV} {v : Value} {n : Int} (hx : VR E x v) (h : lenE T x = some n) :
    (Builtin.len_ #[t] rt #[v]).run P w = .ok (.int .i64 n) w := by
  have pre : (Builtin.len_ #[t] rt #[v]).run P w = (do match T.desc, v with
      | .string, .string s => pure (goInt s.size)
      | .array n _, _ => pure (goInt n)
      | .pointer arr, _ =>
        let .array n _ ← underlying arr | stuck "len: pointer to array expected"
        pure (goInt n)
      | .slice _, .slice _ n _ => pure (goInt n)
      | .map _ _, .map none | .chan _ _, .chan none => pure (goInt 0)
      | .map _ _, .map (some r) =>
        let .map entries _ ← getObj r | stuck "len: map expected"
        pure (goInt entries.size)
      | .chan _ _, .chan (some r) =>
        let .chan _ buf _ _ _ timer ← getObj r | stuck "len: channel expected"
        pure (goInt (if timer then 0 else buf.size))
      | _, _ => stuck "len: string, array, pointer to array, slice, map or channel expected" : Sem Value).run P w := by
    simp only [Builtin.len_, List.getElem?_toArray, List.getElem?_cons_zero, Sem.run_bind, run_ti_underlying hT, Result.andThen_ok]
    rfl
  rw [pre]
  unfold lenE at h
  split at h
  · have := hx.lit_inv; subst this
    split at h
    · rename_i hd; cases h; simp [hd, goInt]
    · cases h
  · have := hx.lit_inv; subst this
    split at h
    · rename_i hd; cases h; simp [hd, goInt]
    · cases h
  · obtain ⟨a, c, rfl⟩ := slice_len hx
    split at h
    · rename_i hd; cases h; simp [hd, goInt]
    · cases h
  · rcases slc_inv hx with ⟨rfl, ⟨a, rfl⟩, _⟩ | ⟨b, base, sz, cap, c, rfl, _⟩ <;>
    · split at h
      · rename_i hd; cases h; simp [hd, goInt]
      · cases h
  · cases hx with
    | mpv h1 hk hu hv =>
      split at h
      · rename_i hd; cases h
        have := hh.imm _ _ h1
        simp [hd, getObj, Sem.run, this, goInt, ← hk]
      · cases h
  · have := hx.lit_inv; subst this
    split at h
    · rename_i hd; cases h; simp [hd, goInt]
    · cases h
  · split at h
    · rename_i hd; cases h
      cases v <;> simp [hd, goInt]
    · cases h
end
end Go.AS
