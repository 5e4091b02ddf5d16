/- Operations on memory: what they do to abstract memory. -/
import Derived.Test.YtnenknghinpliaaGreatDoorASd
namespace Go.AS
noncomputable section

/-- 's' hands back a value that stands for 'x', and memory turns by 'upd'; what is new is named below 'p'. -/
def Ret (P : Program) (s : Sem Value) (E : Env) (τ : Hp) (w : World) (p : Id) (x : AV) (upd : Upd) : Prop :=
  ∃ v w' E', s.run P w = .ok v w' ∧ VR E' x v ∧ Holds E' (τ.app upd) w' ∧ Adv E τ w E' (τ.app upd) w' ∧ NewIn E E' p
theorem Ret.pure {P : Program} {s : Sem Value} {E : Env} {τ : Hp} {w : World} {p : Id} {x : AV} (hh : Holds E τ w) {v : Value} (h : s.run P w = .ok v w) (hv : VR E x v) : Ret P s E τ w p x [] :=
  ⟨v, w, E, h, hv, hh, .refl _ _ _, .refl _ _⟩

/-- A part that is a whole value of its own: it may lie behind a pointer. -/
def AV.leaf : AV → Bool
  | .lit v => v.oneCell'
  | .agg _ => false
  | .tup _ => false
  | _ => true
theorem leaf_cells {E : Env} {x : AV} {v : Value} (h : VR E x v) (hl : x.leaf = true) : v.cells = #[v] := by
  cases x with
  | lit u => have := h.lit_inv; subst this; exact cells_one hl
  | agg _ => cases hl
  | tup _ => cases hl
  | _ => cases h <;> rfl

/-- What stands in a row at element k, cell s. -/
theorem row_part {E : Env} {xs : List AV} {cs : List Value} {sz : Nat} (hx : RR E .cs xs cs) (hs : ∀ x ∈ xs, x.fsz = sz) {k s n : Nat} {g : Bool} {x y : AV} (hk : xs[k]? = some x) (hy : x.getAt s n g = some y) :
    PartR E cs (k * sz + s) n g y := by
  obtain ⟨v, h1, rest, h2, h3⟩ := hx.cs_elem hs hk
  have := getAt_sound x h1 hy
  unfold PartR at this ⊢
  split at this
  · rename_i hg; rw [if_pos hg]
    obtain ⟨ds, r, h4, h5, h6⟩ := this
    by_cases hz : s ≤ v.cells.toList.length
    · refine ⟨ds, r ++ rest, ?_, h5, h6⟩
      rw [← List.drop_drop, h2, List.drop_append_of_le_length hz, h4]; simp
    · rw [List.drop_eq_nil_of_le (by omega)] at h4
      have h7 : ds = [] := by
        have := congrArg List.length h4; simp at this; exact List.length_eq_zero_iff.1 (by omega)
      subst h7
      exact ⟨[], cs.drop (k * sz + s), by simp, h5, h6⟩
  · rename_i hg; rw [if_neg hg]
    obtain ⟨h4, u, h5, h6⟩ := this
    refine ⟨h4, u, ?_, h6⟩
    have hlt : s < v.cells.toList.length := by rw [List.getElem?_eq_some_iff] at h5; exact h5.1
    rw [← List.getElem?_drop, h2, List.getElem?_append_left hlt]; exact h5
theorem run_loadVar_part {P : Program} {B : Tb} [TbOk B P] {tv : TypeId} {T : TI} (hT : ti B tv = some T) {w : World} {b : Nat} {c : Array Value} {t : TypeId} {fz : Nat × Nat} (h : w.heap[b]? = some (.cells c t fz)) {E : Env}
    {base off : Nat} {cs rest : List Value} (hc : c.toList.drop base = cs ++ rest) {y : AV} (hp : PartR E cs off T.size T.agg y) : ∃ v, (loadVar tv ⟨b, base + off, none⟩).run P w = .ok v w ∧ VR E y v := by
  unfold PartR at hp
  split at hp
  · rename_i hg
    obtain ⟨ds, r, h1, h2, h3⟩ := hp
    refine ⟨_, run_loadVar_agg hT hg h (off := base + off) (cs := ds) (rest := c.toList.drop (base + off + ds.length)) ?_ h2, h3⟩
    by_cases hle : off ≤ cs.length
    · have h4 : c.toList.drop (base + off) = ds ++ (r ++ rest) := by
        rw [← List.drop_drop, hc, List.drop_append_of_le_length hle, h1]; simp
      rw [h4, ← List.drop_drop, h4, List.drop_left]
    · rw [List.drop_eq_nil_of_le (by omega)] at h1
      have h7 : ds = [] := by
        have := congrArg List.length h1; simp at this; exact List.length_eq_zero_iff.1 (by omega)
      subst h7; simp
  · rename_i hg
    obtain ⟨h1, u, h2, h3⟩ := hp
    refine ⟨u, run_loadVar_one hT (by simpa using hg) h ?_, h3⟩
    have hlt : off < cs.length := by rw [List.getElem?_eq_some_iff] at h2; exact h2.1
    have := drop_get hc hlt
    rw [h2] at this; simpa using this

/-! Loading. -/
def loadE (T : TI) (look : Nat → Option Ent) : AV → Option AV
  | .ptr l i k s =>
    match look l with
    | some e => if e.id = i then match e.obj with
      | .row _ _ xs => match xs[k]? with
        | some x => x.getAt s T.size T.agg
        | none => none
      | _ => none else none
    | none => none
  | .ref y => y.getAt 0 T.size T.agg
  | _ => none
theorem load_sound {P : Program} {B : Tb} [TbOk B P] {t : TypeId} {T : TI} (hT : ti B t = some T) {E : Env} {τ : Hp} {w : World} (hh : Holds E τ w) {look : Nat → Option Ent} (hl : ∀ l e, look l = some e → aget τ l = some e)
    {x y : AV} {v : Value} (hx : VR E x v) (h : loadE T look x = some y) : ∃ u, (Instr.loadAt t v).run P w = .ok u w ∧ VR E y u := by
  unfold loadE at h
  split at h
  · rename_i l i k s
    obtain ⟨b, base, sz, cap, h1, rfl⟩ := hx.ptr_inv
    split at h
    · rename_i e he
      split at h
      · rename_i hid
        split at h
        · rename_i pu rz xs hobj
          split at h
          · rename_i x' hk
            obtain ⟨L, h2, h3⟩ := hh.own l e (hl l e he)
            rw [hid, h1] at h2; cases h2
            rw [hobj] at h3
            cases h3 with
            | row hw hr hc hs hn hb hf ho hzz =>
              have hr := hr.mono (E.sel_le _)
              have hp := row_part hr hs hk h
              obtain ⟨u, h4, h5⟩ := run_loadVar_part (P := P) hT hw hc hp
              refine ⟨u, ?_, h5⟩
              simp only [Instr.loadAt, Instr.sureAddr, Sem.run_bind, Sem.run_pure, Result.andThen_ok]
              rw [Nat.add_assoc]; exact h4
          · cases h
        · cases h
      · cases h
    · cases h
  · rename_i y'
    obtain ⟨b, off, c, t', fz, cs, rest, rfl, h1, h2, h3⟩ := hx.ref_inv
    have hp := row_part (xs := [y']) (k := 0) (sz := y'.fsz) h2 (by simp) rfl h
    rw [Nat.zero_mul, Nat.zero_add] at hp
    obtain ⟨u, h4, h5⟩ := run_loadVar_part hT (hh.imm _ _ h1) h3 hp
    refine ⟨u, ?_, h5⟩
    simpa only [Instr.loadAt, Instr.sureAddr, Sem.run_bind, Sem.run_pure, Result.andThen_ok, Nat.add_zero] using h4
  · cases h

/-! Storing. -/
def storeE (T : TI) (look : Nat → Option Ent) (y : AV) : AV → Option Upd
  | .ptr l i k s =>
    match look l with
    | some e => if e.id = i ∧ y.storable = true ∧ y.fsz = T.size ∧ (T.agg = true ∨ y.leaf = true) then match e.obj with
      | .row pu sz xs => match xs[k]? with
        | some x => match x.setAt s T.size T.agg y with
          | some x' => some [(l, ⟨i, .row (pu && noLab y) sz (xs.set k x')⟩)]
          | none => none
        | none => none
      | _ => none else none
    | none => none
  | _ => none
theorem store_sound {P : Program} {B : Tb} [TbOk B P] {t : TypeId} {T : TI} (hT : ti B t = some T) {E : Env} {τ : Hp} {w : World} (hh : Holds E τ w) {look : Nat → Option Ent} (hl : ∀ l e, look l = some e → aget τ l = some e)
    {x y : AV} {v u : Value} {upd : Upd} (hx : VR E x v) (hy : VR E y u) (h : storeE T look y x = some upd) :
    ∃ w', (Instr.storeAt t v u).run P w = .ok () w' ∧ Holds E (τ.app upd) w' ∧ Adv E τ w E (τ.app upd) w' := by
  unfold storeE at h
  split at h
  · rename_i l i k s
    obtain ⟨b, base, sz, cap, h1, rfl⟩ := hx.ptr_inv
    split at h
    · rename_i e he
      split at h
      · rename_i hcond; obtain ⟨hid, hst, hsz, hag⟩ := hcond
        split at h
        · rename_i pu rz xs hobj
          split at h
          · rename_i x' hk
            split at h
            · rename_i x'' hset
              cases h
              have hget := hl l e he
              obtain ⟨L, h2, h3⟩ := hh.own l e hget
              rw [hid, h1] at h2; cases h2
              rw [hobj] at h3
              cases h3 with
              | row hw hr hc hs hn hb hf ho hzz =>
                rename_i c t' fz cs rest
                have hr := hr.mono (E.sel_and_le pu (noLab y))
                have hyE := hy
                have hy : VR (E.sel (pu && noLab y)) y u := by
                  cases hnl : noLab y
                  · rw [Bool.and_false]; exact hyE
                  · cases pu
                    · exact hyE
                    · exact hyE.pure_of (by simp [noLabs, hnl])
                have husz : u.cells.size = T.size := by rw [hy.size, hsz]
                obtain ⟨vx, h4, rx, h5, h6⟩ := hr.cs_elem hs hk
                have hgo : T.agg = false → u.oneCell' = true := fun hg => by
                  have hlf : y.leaf = true := by rcases hag with hag | hag; · rw [hg] at hag; cases hag
                                                 · exact hag
                  have := leaf_cells hy hlf
                  have h9 := storable_sound y hy hst u (by rw [this]; simp)
                  exact h9
                obtain ⟨h7, v'', h8, h9⟩ := setAt_sound x' h4 hset hy husz hgo
                have hklt : k < xs.length := by rw [List.getElem?_eq_some_iff] at hk; exact hk.1
                have hv''sz : v''.cells.size = sz := by
                  have : v''.cells.toList.length = vx.cells.toList.length := by rw [h9, spl_length h7]
                  simpa [h6] using this
                obtain ⟨h10, h11⟩ := RR.cs_setElem h8 hv''sz xs k hr hs hklt
                have hksz : k * sz + sz ≤ cap * sz := by rw [← Nat.succ_mul]; exact Nat.mul_le_mul_right _ (by omega)
                have hul : u.cells.toList.length = T.size := by simpa using husz
                have h7' : s + T.size ≤ sz := by simp at h7; omega
                obtain ⟨w', g1, g2, g3, g4, g5, g6, g7⟩ := run_storeVar (P := P) hT (w := w) (b := b) (off := base + k * sz + s) hw husz (by omega) (storable_sound y hy hst)
                  (fun j hj1 hj2 => hf j (by omega) (by omega))
                have hcl : c.toList.length = c.size := by simp
                have hcsl : cs.length + rest.length = c.size - base := by
                  have := congrArg List.length hc; simp at this; omega
                have hcs' : spl cs (k * sz) v''.cells.toList = spl cs (k * sz + s) u.cells.toList := by
                  have hvx : vx.cells.toList = (cs.drop (k * sz)).take sz := by
                    rw [h5, List.take_left' (by simpa using h6)]
                  rw [h9, hvx, spl_spl h11 (by omega)]
                have hob : ObjR E w' (.row (pu && noLab y) sz (xs.set k x'')) (.at b base sz cap) := by
                  refine .row g2 h10 (rest := rest) ?_ ?_ (by simpa using hn) ?_ hf ?_
                  · rw [hcs']
                    have hpre : c.toList = c.toList.take base ++ (cs ++ rest) := by rw [← hc, List.take_append_drop]
                    have hbl : (c.toList.take base).length = base := by simp; omega
                    show (spl c.toList (base + k * sz + s) u.cells.toList).drop base = _
                    rw [hpre, spl_right (by omega), hbl, List.drop_append, List.drop_eq_nil_of_le (by omega), hbl]
                    simp only [Nat.sub_self, List.drop_zero, List.nil_append]
                    rw [show base + k * sz + s - base = k * sz + s by omega, spl_left (by omega)]
                  · intro z hz
                    rcases List.mem_or_eq_of_mem_set hz with hz | rfl
                    · exact hs z hz
                    · rw [← h8.size]; exact hv''sz
                  · rw [List.size_toArray, spl_length (by simp; omega), hcl]; exact hb
                  · rw [hcs']; intro z hz
                    rcases List.mem_append.1 hz with hz | hz
                    · exact ho z (List.mem_of_mem_take hz)
                    · rcases List.mem_append.1 hz with hz | hz
                      · exact storable_sound y hy hst z hz
                      · exact ho z (List.mem_of_mem_drop hz)
                obtain ⟨q1, q2⟩ := hh.write hget (by rw [hid]; exact h1) rfl (.row (pu && noLab y) sz (xs.set k x'')) hob g3 g4 g5 g6 g7
                rw [hid] at q1 q2
                refine ⟨w', ?_, q1, q2⟩
                simpa only [Instr.storeAt, Instr.sureAddr, Sem.run_bind, Sem.run_pure, Result.andThen_ok] using g1
            · cases h
          · cases h
        · cases h
      · cases h
    · cases h
  · cases h

/-! A value out of the cells of a type. -/
def packLit : List Value → AV
  | [v] => .lit v
  | cs => .lit (.agg cs.toArray)
def scalar (B : Tb) (t : TypeId) : Bool :=
  match ti B t with
  | some T => match T.desc with | .bool | .int _ | .float _ | .complex _ | .string => true | _ => false
  | none => true
def chunks (f : List Value → AV) (n : Nat) : Nat → List Value → List AV
  | 0, cs => if cs = [] then [] else [packLit cs]
  | k + 1, cs => f (cs.take n) :: chunks f n k (cs.drop n)
def splitFs (B : Tb) (f : TypeId → List Value → AV) : List Field → List Value → List AV
  | [], cs => if cs = [] then [] else [packLit cs]
  | fd :: r, cs => f fd.type (cs.take (cellsOf B fd.type)) :: splitFs B f r (cs.drop (cellsOf B fd.type))
def unfl (B : Tb) : Nat → TypeId → List Value → AV
  | 0, _, cs => packLit cs
  | f + 1, t, cs =>
    match ti B t with
    | some T => match T.desc with
      | .struct fs => .agg (splitFs B (unfl B f) fs.toList cs)
      | .array n e => if scalar B e then .lit (.agg cs.toArray) else .agg (chunks (unfl B f e) (cellsOf B e) n cs)
      | _ => packLit cs
    | none => packLit cs
theorem packLit_cs {E : Env} {cs : List Value} (h : ∀ u ∈ cs, u.oneCell' = true) : RR E .cs [packLit cs] cs := by
  unfold packLit
  split
  · rename_i v
    have := RR.cs_one (RR.lit (E := E) v)
    rwa [cells_one (h v (by simp))] at this
  · have := RR.cs_one (RR.lit (E := E) (.agg cs.toArray))
    simpa [Value.cells] using this
theorem RR.cs_cat {E : Env} {x : AV} {xs : List AV} {a b : List Value} (h : RR E .cs [x] a) (k : RR E .cs xs b) : RR E .cs (x :: xs) (a ++ b) := by
  have := RR.cs_append h k; simpa using this
theorem chunks_cs {E : Env} {f : List Value → AV} {n : Nat} (hf : ∀ cs, (∀ u ∈ cs, u.oneCell' = true) → RR E .cs [f cs] cs) : ∀ (k : Nat) (cs : List Value), (∀ u ∈ cs, u.oneCell' = true) → RR E .cs (chunks f n k cs) cs
  | 0, cs, h => by
    unfold chunks; split
    · rename_i e; subst e; exact .cnil
    · exact packLit_cs h
  | k + 1, cs, h => by
    unfold chunks
    have := RR.cs_cat (hf (cs.take n) fun u hu => h u (List.mem_of_mem_take hu)) (chunks_cs (n := n) hf k (cs.drop n) fun u hu => h u (List.mem_of_mem_drop hu))
    rwa [List.take_append_drop] at this
theorem splitFs_cs {E : Env} {B : Tb} {f : TypeId → List Value → AV} (hf : ∀ t cs, (∀ u ∈ cs, u.oneCell' = true) → RR E .cs [f t cs] cs) :
    ∀ (fs : List Field) (cs : List Value), (∀ u ∈ cs, u.oneCell' = true) → RR E .cs (splitFs B f fs cs) cs
  | [], cs, h => by
    unfold splitFs; split
    · rename_i e; subst e; exact .cnil
    · exact packLit_cs h
  | fd :: fs, cs, h => by
    unfold splitFs
    have := RR.cs_cat (hf fd.type (cs.take (cellsOf B fd.type)) fun u hu => h u (List.mem_of_mem_take hu)) (splitFs_cs (B := B) hf fs (cs.drop (cellsOf B fd.type)) fun u hu => h u (List.mem_of_mem_drop hu))
    rwa [List.take_append_drop] at this
theorem unfl_cs {E : Env} {B : Tb} : ∀ (f : Nat) (t : TypeId) (cs : List Value), (∀ u ∈ cs, u.oneCell' = true) → RR E .cs [unfl B f t cs] cs
  | 0, _, cs, h => by unfold unfl; exact packLit_cs h
  | f + 1, t, cs, h => by
    unfold unfl
    split
    · split
      · rename_i fs _
        have := RR.cs_one (RR.agg (splitFs_cs (B := B) (f := unfl B f) (fun t cs h => unfl_cs (E := E) f t cs h) fs.toList cs h))
        simpa [Value.cells] using this
      · rename_i n e _
        split
        · have := RR.cs_one (RR.lit (E := E) (.agg cs.toArray))
          simpa [Value.cells] using this
        · have := RR.cs_one (RR.agg (chunks_cs (n := cellsOf B e) (f := unfl B f e) (fun cs h => unfl_cs (E := E) f e cs h) n cs h))
          simpa [Value.cells] using this
      · exact packLit_cs h
    · exact packLit_cs h

/-! New variables. -/
def zeroE (B : Tb) (T : TI) (t : TypeId) : Option AV :=
  match T.zero with
  | some z => if z.cells.toList.all (·.oneCell') then some (unfl B 8 t z.cells.toList) else none
  | none => none
theorem zero_sound {B : Tb} {T : TI} {t : TypeId} {x : AV} (h : zeroE B T t = some x) : ∃ z, T.zero = some z ∧ (∀ u ∈ z.cells.toList, u.oneCell' = true) ∧ ∀ E, RR E .cs [x] z.cells.toList := by
  unfold zeroE at h
  split at h
  · rename_i z hz
    split at h
    · rename_i hall; cases h
      exact ⟨z, hz, fun u hu => List.all_eq_true.1 hall u hu, fun E => unfl_cs 8 t _ fun u hu => List.all_eq_true.1 hall u hu⟩
    · cases h
  · cases h
theorem free_zero (lo hi : Nat) : free (0, 0) lo hi := fun j _ _ => by simp
theorem newVar_sound {P : Program} {t : TypeId} {E : Env} {τ : Hp} {w : World} (hh : Holds E τ w) {p : Id} (hp : Fresh E p) {x : AV} {v : Value} (hx : RR E .cs [x] v.cells.toList) (hv : ∀ u ∈ v.cells.toList, u.oneCell' = true) (d : Nat) :
    ∃ a w' E', (newVar t v).run P w = .ok a w' ∧ VR E' (.ptr d p 0 0) (.pointer (some a)) ∧ Holds E' (τ.app [(d, ⟨p, .row (noLab x) x.fsz [x]⟩)]) w' ∧ Adv E τ w E' (τ.app [(d, ⟨p, .row (noLab x) x.fsz [x]⟩)]) w' ∧ NewIn E E' p := by
  have hle : E.le (E.name p (.at w.heap.size 0 x.fsz 1)) := Env.name_le (hp p (List.suffix_refl _))
  have hlen := hx.cs_length
  simp [AV.fszs] at hlen
  obtain ⟨h1, h2⟩ := hh.new hp (.cells v.cells t) 0 x.fsz 1 d (.row (noLab x) x.fsz [x]) (.row (rest := []) (c := v.cells) (t := t) (fz := (0, 0)) (by show (w.heap.push _)[w.heap.size]? = _; simp) ((by have := hx.sel_of; simpa [noLabs] using this : RR (E.sel (noLab x)) .cs [x] v.cells.toList).mono (hle.sel _)) (by simp) (by simp) (by simp)
    (by omega) (free_zero _ _) hv)
  refine ⟨⟨w.heap.size, 0, none⟩, w.alloc (.cells v.cells t), _, rfl, ?_, h1, h2, Env.name_newIn⟩
  have := RR.ptr (E := E.name p (.at w.heap.size 0 x.fsz 1)) d 0 0 (Env.name_self ..)
  simpa using this
theorem newRef_sound {P : Program} {t : TypeId} {E : Env} {τ : Hp} {w : World} (hh : Holds E τ w) {p : Id} {x : AV} {v : Value} (hn : noLab x = true) (hx : RR E .cs [x] v.cells.toList) :
    ∃ a w' E', (newVar t v).run P w = .ok a w' ∧ VR E' (.ref x) (.pointer (some a)) ∧ Holds E' τ w' ∧ Adv E τ w E' τ w' ∧ NewIn E E' p := by
  obtain ⟨h1, h2⟩ := hh.newMem (.cells v.cells t)
  refine ⟨⟨w.heap.size, 0, none⟩, w.alloc (.cells v.cells t), _, rfl, ?_, h1, h2, Env.mem_newIn⟩
  exact .ref (c := v.cells) (t := t) (fz := (0, 0)) (rest := []) (by simp [Env.mem]) ((hx.pure_of (by simp [noLabs, hn])).mono h2.le.pure) (by simp)
end
end Go.AS
