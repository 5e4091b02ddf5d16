/- Operations on values: addresses of fields and elements, slices, appends. -/
import Derived.Test.YtnenknghinpliaaGreatDoorASe
namespace Go.AS
noncomputable section

/-- A run that asks nothing, not even of the program. -/
def pureQ {α : Type} : Sem α → Option α
  | .pure a => some a
  | .mark _ k => pureQ k
  | _ => none
theorem pureQ_sound {α : Type} {P : Program} : ∀ {s : Sem α} {a : α}, pureQ s = some a → ∀ w, s.run P w = .ok a w := by
  intro s
  induction s with
  | pure b => intro a h w; simp only [pureQ, Option.some.injEq] at h; subst h; rfl
  | mark m k ih => intro a h w; simp only [pureQ] at h; simp only [Sem.run]; exact ih h w
  | _ => intro a h; simp [pureQ] at h
/-- The model's own value, where no address stands in it. -/
def AV.val? : AV → Option Value
  | .lit v => some v
  | .iface t x => (AV.val? x).map (.iface t)
  | _ => none
theorem val_sound {E : Env} : ∀ {x : AV} {v u : Value}, VR E x v → x.val? = some u → v = u := by
  intro x
  induction x using AV.val?.induct with
  | case1 u' => intro v u hx h; simp only [AV.val?, Option.some.injEq] at h; subst h; exact hx.lit_inv
  | case2 t x ih =>
    intro v u hx h
    obtain ⟨v', rfl, hx'⟩ := hx.iface_inv
    simp only [AV.val?, Option.map_eq_some_iff] at h
    obtain ⟨u', h1, rfl⟩ := h
    rw [ih hx' h1]
  | case3 x h1 h2 => intro v u hx h; unfold AV.val? at h; split at h <;> first | (exfalso; exact h1 _ rfl) | (exfalso; exact h2 _ _ rfl) | cases h

/-! Fields. -/
theorem ref_part {E : Env} {b off : Nat} {c : Array Value} {t : TypeId} {fz : Nat × Nat} {cs rest : List Value} {o n : Nat} {g : Bool} {z : AV} (h : E.m b = some (.cells c t fz)) (hc : c.toList.drop off = cs ++ rest)
    (hp : PartR E.pure cs o n g z) (hz : g = true ∨ z.leaf = true) : VR E (.ref z) (.pointer (some ⟨b, off + o, none⟩)) := by
  unfold PartR at hp
  split at hp
  · rename_i hg
    obtain ⟨ds, r, h1, h2, h3⟩ := hp
    have hr := RR.cs_one h3
    simp only [Value.cells] at hr
    by_cases hle : o ≤ cs.length
    · refine .ref (rest := r ++ rest) h hr ?_
      rw [← List.drop_drop, hc, List.drop_append_of_le_length hle, h1]; simp
    · rw [List.drop_eq_nil_of_le (by omega)] at h1
      have h7 : ds = [] := by
        have := congrArg List.length h1; simp at this; exact List.length_eq_zero_iff.1 (by omega)
      subst h7
      exact .ref (rest := c.toList.drop (off + o)) h hr (by simp)
  · rename_i hg
    obtain ⟨h1, u, h2, h3⟩ := hp
    have hlf : z.leaf = true := hz.resolve_left (by simpa using hg)
    have hr := RR.cs_one h3
    rw [leaf_cells h3 hlf] at hr
    have hlt : o < cs.length := by rw [List.getElem?_eq_some_iff] at h2; exact h2.1
    refine .ref (rest := cs.drop (o + 1) ++ rest) h hr ?_
    rw [← List.drop_drop, hc, List.drop_append_of_le_length (by omega)]
    rw [List.getElem?_eq_some_iff] at h2
    obtain ⟨_, rfl⟩ := h2
    rw [List.drop_eq_getElem_cons hlt]; rfl
def fieldAddrE (B : Tb) (T : TI) (f : Nat) (x : AV) : Option AV :=
  match T.desc with
  | .struct fs =>
    match fs[f]? with
    | some fd => match ti B fd.type with
      | some U => if U.size = 0 then none else match x with
        | .ptr l i k s => some (.ptr l i k (s + fd.offset))
        | .ref y => match y.getAt fd.offset U.size U.agg with
          | some z => if U.agg = true ∨ z.leaf = true then some (.ref z) else none
          | none => none
        | _ => none
      | none => none
    | none => none
  | _ => none
theorem fieldAddr_sound {P : Program} {B : Tb} [TbOk B P] {t : TypeId} {T : TI} (hT : ti B t = some T) {E : Env} {w : World} {f : Nat} {x y : AV} {v : Value} (hx : VR E x v) (h : fieldAddrE B T f x = some y) :
    ∃ u, (Instr.fieldAt t v f).run P w = .ok u w ∧ VR E y u := by
  unfold fieldAddrE at h
  split at h
  · rename_i fs hd
    split at h
    · rename_i fd hfd
      split at h
      · rename_i U hU
        split at h
        · cases h
        · rename_i hsz
          have run : ∀ b o, v = .pointer (some ⟨b, o, none⟩) → (Instr.fieldAt t v f).run P w = .ok (.pointer (some ⟨b, o + fd.offset, none⟩)) w := fun b o hv => by
            subst hv
            simp only [Instr.fieldAt, Sem.run_bind, run_ti_underlying hT, Result.andThen_ok, hd, hfd, Instr.sureAddr, Sem.run_pure, fieldPlace, run_ti_size hU, hsz, if_false, add_none]
          split at h
          · cases h
            obtain ⟨b, base, sz, cap, h1, hv⟩ := hx.ptr_inv
            refine ⟨_, run _ _ hv, ?_⟩
            rw [Nat.add_assoc]
            exact .ptr _ _ _ h1
          · rename_i y'
            split at h
            · rename_i z hz
              split at h
              · rename_i hlf; cases h
                obtain ⟨b, off, c, t', fz, cs, rest, hv, h1, h2, h3⟩ := hx.ref_invP
                refine ⟨_, run _ _ hv, ?_⟩
                have hp := row_part (xs := [y']) (k := 0) (sz := y'.fsz) h2 (by simp) rfl hz
                rw [Nat.zero_mul, Nat.zero_add] at hp
                exact ref_part h1 h3 hp hlf
              · cases h
            · cases h
          · cases h
      · cases h
    · cases h
  · cases h
theorem run_part {P : Program} {B : Tb} [TbOk B P] {t : TypeId} {T : TI} (hT : ti B t = some T) {E : Env} {w : World} {cs : List Value} {off : Nat} {y : AV} (hp : PartR E cs off T.size T.agg y) :
    ∃ u, (part t cs.toArray off).run P w = .ok u w ∧ VR E y u := by
  unfold PartR at hp
  split at hp
  · rename_i hg
    obtain ⟨ds, r, h1, h2, h3⟩ := hp
    refine ⟨.agg ds.toArray, ?_, h3⟩
    simp only [part, Sem.run_bind, run_ti_agg hT, Result.andThen_ok, hg, if_true, run_ti_size hT, Sem.run_pure]
    congr 2
    apply Array.ext'
    simp only [Array.toList_extract, List.extract, Nat.add_sub_cancel_left]
    rw [h1, ← h2, List.take_left]
  · rename_i hg
    obtain ⟨h1, u, h2, h3⟩ := hp
    refine ⟨u, ?_, h3⟩
    have h4 : cs.toArray[off]? = some u := by simpa using h2
    simp [part, run_ti_agg hT, hg, h4]
def fieldE (B : Tb) (T : TI) (f : Nat) (x : AV) : Option AV :=
  match T.desc with
  | .struct fs =>
    match fs[f]? with
    | some fd => match ti B fd.type with
      | some U => match x with
        | .lit (.agg cs) => litAt (.agg cs) fd.offset U.size U.agg
        | .agg xs => AV.getAts xs fd.offset U.size U.agg
        | _ => none
      | none => none
    | none => none
  | _ => none
theorem field_sound {P : Program} {B : Tb} [TbOk B P] {t : TypeId} {T : TI} (hT : ti B t = some T) {E : Env} {w : World} {f : Nat} {x y : AV} {v : Value} (hx : VR E x v) (h : fieldE B T f x = some y) :
    ∃ u, (Instr.field t v f).run P w = .ok u w ∧ VR E y u := by
  unfold fieldE at h
  split at h
  · rename_i fs hd
    split at h
    · rename_i fd hfd
      split at h
      · rename_i U hU
        split at h
        · rename_i cs
          have := hx.lit_inv; subst this
          obtain ⟨u, h1, h2⟩ := run_part hU (w := w) (E := E) (litAt_sound h)
          refine ⟨u, ?_, h2⟩
          simpa only [Instr.field, Sem.run_bind, run_ti_underlying hT, Result.andThen_ok, hd, hfd, asAgg, Sem.run_pure, Value.cells, Array.toArray_toList] using h1
        · rename_i xs
          obtain ⟨cs, rfl, hcs⟩ := hx.agg_inv
          obtain ⟨u, h1, h2⟩ := run_part hU (w := w) (E := E) (getAts_sound xs hcs h)
          refine ⟨u, ?_, h2⟩
          simpa only [Instr.field, Sem.run_bind, run_ti_underlying hT, Result.andThen_ok, hd, hfd, asAgg, Sem.run_pure] using h1
        · cases h
      · cases h
    · cases h
  · cases h
def indexE (B : Tb) (T : TI) (x : AV) (n : Int) : Option AV :=
  match T.desc with
  | .array len e => match ti B e with
    | some U => if 0 ≤ n ∧ n < len then match x with
        | .lit (.agg cs) => litAt (.agg cs) (n.toNat * U.size) U.size U.agg
        | .agg xs => AV.getAts xs (n.toNat * U.size) U.size U.agg
        | _ => none
      else none
    | none => none
  | .string => match x with
    | .lit (.string s) => if 0 ≤ n then (s[n.toNat]?).map fun b => .lit (.int .u8 b.toNat) else none
    | _ => none
  | _ => none
theorem index_sound {P : Program} {B : Tb} [TbOk B P] {t : TypeId} {T : TI} (hT : ti B t = some T) {E : Env} {w : World} {k : IntKind} {n : Int} {x y : AV} {v : Value} (hx : VR E x v) (h : indexE B T x n = some y) :
    ∃ u, (Instr.index t v (.int k n)).run P w = .ok u w ∧ VR E y u := by
  unfold indexE at h
  split at h
  · rename_i len e hd
    split at h
    · rename_i U hU
      split at h
      · rename_i hn
        split at h
        · rename_i cs
          have := hx.lit_inv; subst this
          obtain ⟨u, h1, h2⟩ := run_part hU (w := w) (E := E) (litAt_sound h)
          refine ⟨u, ?_, h2⟩
          simpa only [Instr.index, asIntOf, Sem.run_bind, Sem.run_pure, run_ti_underlying hT, Result.andThen_ok, hd, hn, and_self, if_true, run_ti_size hU, Value.cells, Array.toArray_toList] using h1
        · rename_i xs
          obtain ⟨cs, rfl, hcs⟩ := hx.agg_inv
          obtain ⟨u, h1, h2⟩ := run_part hU (w := w) (E := E) (getAts_sound xs hcs h)
          refine ⟨u, ?_, h2⟩
          simpa only [Instr.index, asIntOf, Sem.run_bind, Sem.run_pure, run_ti_underlying hT, Result.andThen_ok, hd, hn, and_self, if_true, run_ti_size hU] using h1
        · cases h
      · cases h
    · cases h
  · rename_i hd
    split at h
    · rename_i s
      have := hx.lit_inv; subst this
      split at h
      · rename_i hn
        cases hs : s[n.toNat]? with
        | none => rw [hs] at h; cases h
        | some b =>
          rw [hs] at h; cases h
          refine ⟨_, ?_, .lit _⟩
          simp [Instr.index, asIntOf, run_ti_underlying hT, hd, hn, hs]
      · cases h
    · cases h
  · cases h

/-! Lists. -/
theorem lst_invP {E : Env} {ex : Bool} {sz : Nat} {xs : List AV} {v : Value} (h : VR E (.lst ex sz xs) v) :
    (xs = [] ∧ ∃ a c, v = .slice a 0 c ∧ (ex = true → c = 0)) ∨
    ∃ b off cp c t fz cs rest, v = .slice (some ⟨b, off, none⟩) xs.length cp ∧ E.m b = some (.cells c t fz) ∧ RR E.pure .cs xs cs ∧ c.toList.drop off = cs ++ rest ∧ (∀ x ∈ xs, x.fsz = sz) ∧ xs.length ≤ cp ∧ (ex = true → cp = xs.length) ∧ (∀ u ∈ cs, u.oneCell' = true) := by
  cases h with
  | lstE _ a h => exact .inl ⟨rfl, a, _, rfl, h⟩
  | lst h hx hc hs hn h1 he ho => subst hn; exact .inr ⟨_, _, _, _, _, _, _, _, rfl, h, hx, hc, hs, h1, he, ho⟩
theorem lst_inv {E : Env} {ex : Bool} {sz : Nat} {xs : List AV} {v : Value} (h : VR E (.lst ex sz xs) v) :
    (xs = [] ∧ ∃ a c, v = .slice a 0 c ∧ (ex = true → c = 0)) ∨
    ∃ b off cp c t fz cs rest, v = .slice (some ⟨b, off, none⟩) xs.length cp ∧ E.m b = some (.cells c t fz) ∧ RR E .cs xs cs ∧ c.toList.drop off = cs ++ rest ∧ (∀ x ∈ xs, x.fsz = sz) ∧ xs.length ≤ cp ∧ (ex = true → cp = xs.length) ∧ (∀ u ∈ cs, u.oneCell' = true) := by
  rcases lst_invP h with h | ⟨b, off, cp, c, t, fz, cs, rest, h0, h1, h2, h3⟩
  · exact .inl h
  · exact .inr ⟨b, off, cp, c, t, fz, cs, rest, h0, h1, h2.mono E.pure_le, h3⟩
theorem slc_inv {E : Env} {l : Nat} {i : Id} {off len : Nat} {v : Value} (h : VR E (.slc l i off len) v) :
    (len = 0 ∧ (∃ a, v = .slice a 0 0) ∧ ∃ L, E.ρ i = some L) ∨ ∃ b base sz cap c, v = .slice (some ⟨b, base + off * sz, none⟩) len c ∧ E.ρ i = some (.at b base sz cap) ∧ len ≤ c ∧ off + c ≤ cap := by
  cases h with
  | slcZ _ _ a h => exact .inl ⟨rfl, ⟨a, rfl⟩, _, h⟩
  | slc _ h h1 h2 => exact .inr ⟨_, _, _, _, _, rfl, h, h1, h2⟩
/-- Elements cut out of a row. -/
theorem cs_cut {E : Env} {xs : List AV} {cs : List Value} {sz : Nat} (h : RR E .cs xs cs) (hs : ∀ x ∈ xs, x.fsz = sz) {k m : Nat} (hk : k + m ≤ xs.length) :
    ∃ d1 d2 d3, cs = d1 ++ (d2 ++ d3) ∧ d1.length = k * sz ∧ d2.length = m * sz ∧ RR E .cs (xs.take k) d1 ∧ RR E .cs ((xs.drop k).take m) d2 ∧ RR E .cs (xs.drop (k + m)) d3 := by
  have e1 : xs = xs.take k ++ ((xs.drop k).take m ++ (xs.drop k).drop m) := by rw [List.take_append_drop, List.take_append_drop]
  have h' := h
  rw [e1] at h'
  obtain ⟨d1, d23, rfl, h7, h8⟩ := h'.cs_append_inv
  obtain ⟨d2, d3, rfl, h9, h10⟩ := h8.cs_append_inv
  refine ⟨d1, d2, d3, rfl, ?_, ?_, h7, h9, by rw [List.drop_drop] at h10; exact h10⟩
  · rw [h7.cs_length, AV.fszs_uniform fun y hy => hs y (List.mem_of_mem_take hy), List.length_take, Nat.min_eq_left (by omega)]
  · rw [h9.cs_length, AV.fszs_uniform fun y hy => hs y (List.mem_of_mem_drop (List.mem_of_mem_take hy)), List.length_take, List.length_drop, Nat.min_eq_left (by omega)]

/-- The elements that a slice shows, each of 'sz' cells; and whether no label stands in them. -/
def elemsP (look : Nat → Option Ent) (sz : Nat) : AV → Option (Bool × List AV)
  | .lit (.slice _ 0 _) => some (true, [])
  | .lst _ sz' xs => if sz' = sz then some (true, xs) else none
  | .slc l i off len =>
    match look l with
    | some e => if e.id = i then match e.obj with
      | .row pu sz' xs => if sz' = sz ∧ off + len ≤ xs.length then some (pu, (xs.drop off).take len) else none
      | _ => none else none
    | none => none
  | .sub l i k s n =>
    match look l with
    | some e => if e.id = i then match e.obj with
      | .row pu _ xs => match xs[k]? with
        | some y => if sz = 1 ∧ s + n ≤ (flatA y).length then some (pu, ((flatA y).drop s).take n) else none
        | none => none
      | _ => none else none
    | none => none
  | _ => none
/-- What is known of a slice whose elements are known. -/
theorem elemsP_sound {E : Env} {τ : Hp} {w : World} (hh : Holds E τ w) {look : Nat → Option Ent} (hl : ∀ l e, look l = some e → aget τ l = some e) {sz : Nat} {x : AV} {v : Value} {pu : Bool} {xs : List AV} (hx : VR E x v)
    (h : elemsP look sz x = some (pu, xs)) : (∀ y ∈ xs, y.fsz = sz) ∧ ∃ a c, v = .slice a xs.length c ∧ xs.length ≤ c ∧ (xs = [] ∨ ∃ b o cells t fz cs rest, a = some ⟨b, o, none⟩ ∧ w.heap[b]? = some (.cells cells t fz) ∧ RR (E.sel pu) .cs xs cs ∧
      cells.toList.drop o = cs ++ rest ∧ (∀ u ∈ cs, u.oneCell' = true)) := by
  unfold elemsP at h
  split at h
  · cases h
    have := hx.lit_inv; subst this
    exact ⟨by simp, _, _, rfl, Nat.zero_le _, .inl rfl⟩
  · split at h
    · rename_i he; cases h; subst he
      rcases lst_invP hx with ⟨rfl, a, c, rfl, _⟩ | ⟨b, off, cp, c, t, fz, cs, rest, rfl, h1, h2, h3, h4, h5, h6, ho⟩
      · exact ⟨by simp, a, c, rfl, Nat.zero_le _, .inl rfl⟩
      · exact ⟨h4, _, cp, rfl, h5, .inr ⟨b, off, c, t, fz, cs, rest, rfl, hh.imm _ _ h1, h2, h3, ho⟩⟩
    · cases h
  · rename_i l i off len
    split at h
    · rename_i e he
      split at h
      · rename_i hid
        split at h
        · rename_i pu' sz' ys hobj
          split at h
          · rename_i hcond; obtain ⟨rfl, hle⟩ := hcond
            cases h
            obtain ⟨L, h2, h3⟩ := hh.own l e (hl l e he)
            rw [hobj] at h3
            have hlen : ((ys.drop off).take len).length = len := by simp; omega
            rcases slc_inv hx with ⟨rfl, ⟨a, rfl⟩, _⟩ | ⟨b, base, sz, cap, c, rfl, h1, h5, h6⟩
            · refine ⟨by simp, a, 0, by simp, by simp, .inl (by simp)⟩
            · rw [hid, h1] at h2; cases h2
              cases h3 with
              | row hw hr hc hs hn hb hf ho hzz =>
                rename_i cells t fz cs rest
                refine ⟨fun y hy => hs y (List.mem_of_mem_drop (List.mem_of_mem_take hy)), _, c, by rw [hlen], by omega, ?_⟩
                right
                have e1 : ys = ys.take off ++ ((ys.drop off).take len ++ (ys.drop off).drop len) := by rw [List.take_append_drop, List.take_append_drop]
                rw [e1] at hr
                obtain ⟨c1, c23, rfl, h7, h8⟩ := hr.cs_append_inv
                obtain ⟨c2, c3, rfl, h9, h10⟩ := h8.cs_append_inv
                refine ⟨b, _, cells, t, fz, c2, c3 ++ rest, rfl, hw, h9, ?_, fun u hu => ho u (by simp [hu])⟩
                have hl1 : c1.length = off * sz' := by
                  rw [h7.cs_length, AV.fszs_uniform fun y hy => hs y (List.mem_of_mem_take hy), List.length_take, Nat.min_eq_left (by omega)]
                rw [← List.drop_drop, hc, ← hl1, List.append_assoc, List.drop_left]; simp
          · cases h
        · cases h
      · cases h
    · cases h
  · rename_i l i k s n
    split at h
    · rename_i e he
      split at h
      · rename_i hid
        split at h
        · rename_i pu' sz' ys hobj
          split at h
          · rename_i y hy
            split at h
            · rename_i hcond; obtain ⟨rfl, hle⟩ := hcond
              cases h
              obtain ⟨L, h2, h3⟩ := hh.own l e (hl l e he)
              rw [hobj] at h3
              obtain ⟨b, base, sz, cap, c, h1, rfl, h5⟩ := hx.sub_inv
              rw [hid, h1] at h2; cases h2
              cases h3 with
              | row hw hr hc hs hn hb hf ho hzz =>
                rename_i cells t fz cs rest
                obtain ⟨v, q1, r1, q2, q3⟩ := hr.cs_elem hs hy
                have hov : ∀ u ∈ v.cells.toList, u.oneCell' = true := fun u hu => ho u (List.mem_of_mem_drop (i := k * sz') (by rw [q2]; exact List.mem_append_left _ hu))
                obtain ⟨f1, f2⟩ := flatA_sound y q1 hov
                have hflen : ((flatA y).drop s |>.take n).length = n := by simp; omega
                obtain ⟨d1, d2, d3, e1, g1, g2, g3, g4, g5⟩ := cs_cut f1 f2 hle
                refine ⟨fun z hz => f2 z (List.mem_of_mem_drop (List.mem_of_mem_take hz)), _, c, by rw [hflen], by omega, ?_⟩
                right
                refine ⟨b, _, cells, t, fz, d2, d3 ++ (r1 ++ rest), rfl, hw, g4, ?_, fun u hu => hov u (by rw [e1]; simp [hu])⟩
                have hk : k * sz' ≤ cs.length := by
                  have hlt : k < ys.length := by rw [List.getElem?_eq_some_iff] at hy; exact hy.1
                  rw [hr.cs_length, AV.fszs_uniform hs]
                  exact Nat.mul_le_mul_right _ (Nat.le_of_lt hlt)
                rw [← List.drop_drop, ← List.drop_drop, hc, List.drop_append_of_le_length hk, q2, e1]
                have : d1.length = s := by omega
                rw [← this]
                simp [List.drop_append]
            · cases h
          · cases h
        · cases h
      · cases h
    · cases h
  · cases h
def elems (look : Nat → Option Ent) (sz : Nat) (x : AV) : Option (List AV) := match elemsP look sz x with
  | some q => some q.2
  | none => none
theorem elems_sound {E : Env} {τ : Hp} {w : World} (hh : Holds E τ w) {look : Nat → Option Ent} (hl : ∀ l e, look l = some e → aget τ l = some e) {sz : Nat} {x : AV} {v : Value} {xs : List AV} (hx : VR E x v)
    (h : elems look sz x = some xs) : (∀ y ∈ xs, y.fsz = sz) ∧ ∃ a c, v = .slice a xs.length c ∧ xs.length ≤ c ∧ (xs = [] ∨ ∃ b o cells t fz cs rest, a = some ⟨b, o, none⟩ ∧ w.heap[b]? = some (.cells cells t fz) ∧ RR E .cs xs cs ∧
      cells.toList.drop o = cs ++ rest ∧ (∀ u ∈ cs, u.oneCell' = true)) := by
  unfold elems at h
  split at h
  · rename_i q hq; cases h
    obtain ⟨h1, a, c, h2, h3, h4⟩ := elemsP_sound hh hl hx hq
    refine ⟨h1, a, c, h2, h3, h4.imp id ?_⟩
    rintro ⟨b, o, cells, t, fz, cs, rest, g1, g2, g3, g4⟩
    exact ⟨b, o, cells, t, fz, cs, rest, g1, g2, g3.mono (E.sel_le _), g4⟩
  · cases h
end
end Go.AS
