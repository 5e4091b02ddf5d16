/- Arrays that lie as rows of their elements: loads, stores, addresses, slices. -/
import Derived.Test.YtnenknghinpliaaGreatDoorASla
namespace Go.AS
noncomputable section

def allSz (sz : Nat) : List AV → Bool
  | [] => true
  | x :: xs => Nat.beq x.fsz sz && allSz sz xs
theorem allSz_all {sz : Nat} : ∀ {xs : List AV}, allSz sz xs = true → ∀ x ∈ xs, x.fsz = sz
  | [], _, x, hx => by cases hx
  | y :: ys, h, x, hx => by
    rw [allSz, Bool.and_eq_true] at h
    rcases List.mem_cons.1 hx with rfl | hx
    · exact Nat.eq_of_beq_eq_true h.1
    · exact allSz_all h.2 x hx
/-- An array's elements, each of that size. -/
def partsE (sz : Nat) : AV → Option (List AV)
  | .agg xs => match allSz sz xs with
    | true => some xs
    | false => none
  | .lit v => match v with
    | .agg cs => match Nat.beq sz 1 && cs.toList.all (·.oneCell') with
      | true => some (cs.toList.map .lit)
      | false => none
    | _ => none
  | _ => none
theorem cs_lits {E : Env} : ∀ l : List Value, (∀ u ∈ l, u.oneCell' = true) → RR E .cs (l.map .lit) l
  | [], _ => .cnil
  | v :: l, h => by
    have := RR.ccons (RR.lit (E := E) v) (cs_lits l fun u hu => h u (List.mem_cons_of_mem _ hu))
    rw [cells_one (h v (List.mem_cons_self ..))] at this
    simpa using this
theorem lits_sz {l : List Value} (h : ∀ u ∈ l, u.oneCell' = true) : ∀ x ∈ l.map AV.lit, x.fsz = 1 := by
  intro x hx
  obtain ⟨v, hv, rfl⟩ := List.mem_map.1 hx
  rw [AV.fsz, cells_one (h v hv)]; rfl
theorem parts_sound {E : Env} {sz : Nat} {y : AV} {u : Value} (hy : VR E y u) {ys : List AV} (h : partsE sz y = some ys) : (∀ x ∈ ys, x.fsz = sz) ∧ RR E .cs ys u.cells.toList := by
  unfold partsE at h
  split at h
  · split at h
    · rename_i hall; cases h
      obtain ⟨cs, rfl, h1⟩ := hy.agg_inv
      exact ⟨allSz_all hall, by simpa [Value.cells] using h1⟩
    · cases h
  · have := hy.lit_inv; subst this
    split at h
    · rename_i cs
      split at h
      · rename_i hc; cases h
        rw [Bool.and_eq_true, List.all_eq_true] at hc
        have hsz := Nat.eq_of_beq_eq_true hc.1
        subst hsz
        exact ⟨lits_sz hc.2, by simpa [Value.cells] using cs_lits cs.toList hc.2⟩
      · cases h
    · cases h
  · cases h
theorem parts_lab {sz : Nat} {y : AV} {ys : List AV} (h : partsE sz y = some ys) : noLabs ys = noLab y := by
  unfold partsE at h
  split at h
  · split at h
    · cases h; rw [noLab]
    · cases h
  · split at h
    · rename_i cs
      split at h
      · cases h
        rw [noLab]
        · generalize cs.toList = l
          induction l with
          | nil => rfl
          | cons v l ih => rw [List.map_cons, noLabs, ih]; rfl
        all_goals (intros; rename_i hh; cases hh)
      · cases h
    · cases h
  · cases h
/-! Loads. -/
def spanE (T : TI) (look : Nat → Option Ent) : AV → Option AV
  | .ptr l i k s => match s with
    | 0 => match look l with
      | some e => match decide (e.id = i) with
        | true => match e.obj with
          | .row _ sz xs => match T.agg && (Nat.beq (T.size / sz * sz) T.size && Nat.ble (k + T.size / sz) xs.length) with
            | true => some (.agg ((xs.drop k).take (T.size / sz)))
            | false => none
          | _ => none
        | false => none
      | none => none
    | _ => none
  | _ => none
theorem span_sound {P : Program} {B : Tb} [TbOk B P] {t : TypeId} {T : TI} (hT : ti B t = some T) {E : Env} {τ : Hp} {w : World} (hh : Holds E τ w) {look : Nat → Option Ent} (hl : ∀ l e, look l = some e → aget τ l = some e)
    {x y : AV} {v : Value} (hx : VR E x v) (h : spanE T look x = some y) : ∃ u, (Instr.loadAt t v).run P w = .ok u w ∧ VR E y u := by
  unfold spanE at h
  split at h
  · rename_i l i k s
    obtain ⟨b, base, sz, cap, h1, rfl⟩ := hx.ptr_inv
    split at h
    · split at h
      · rename_i e he
        split at h
        · rename_i hid
          have hid := of_decide_eq_true hid
          split at h
          · rename_i pu rz xs hobj
            split at h
            · rename_i hc; cases h
              simp only [Bool.and_eq_true] at hc
              obtain ⟨hag, hsz, hk⟩ := hc
              have hsz := Nat.eq_of_beq_eq_true hsz
              have hk := Nat.le_of_ble_eq_true hk
              obtain ⟨L, h2, h3⟩ := hh.own l e (hl l e he)
              rw [hid, h1] at h2; cases h2
              rw [hobj] at h3
              cases h3 with
              | row hw hr hc hs hn hb hf ho hzz =>
                have hr := hr.mono (E.sel_le _)
                obtain ⟨d1, d2, d3, rfl, g1, g2, g3, g4, g5⟩ := cs_cut hr hs hk
                have hp : PartR E (d1 ++ (d2 ++ d3)) (k * sz) T.size T.agg (.agg ((xs.drop k).take (T.size / sz))) := by
                  unfold PartR
                  rw [if_pos hag]
                  exact ⟨d2, d3, by rw [← g1, List.drop_left], by rw [g2, hsz], .agg g4⟩
                obtain ⟨u, h4, h5⟩ := run_loadVar_part (P := P) hT hw hc hp
                refine ⟨u, ?_, h5⟩
                simp only [Instr.loadAt, Instr.sureAddr, Sem.run_bind, Sem.run_pure, Result.andThen_ok]
                exact h4
            · cases h
          · cases h
        · cases h
      · cases h
    · cases h
  · cases h
def loadA (T : TI) (look : Nat → Option Ent) (x : AV) : Option AV := match loadE T look x with
  | some y => some y
  | none => spanE T look x
theorem loadA_sound {P : Program} {B : Tb} [TbOk B P] {t : TypeId} {T : TI} (hT : ti B t = some T) {E : Env} {τ : Hp} {w : World} (hh : Holds E τ w) {look : Nat → Option Ent} (hl : ∀ l e, look l = some e → aget τ l = some e)
    {x y : AV} {v : Value} (hx : VR E x v) (h : loadA T look x = some y) : ∃ u, (Instr.loadAt t v).run P w = .ok u w ∧ VR E y u := by
  unfold loadA at h
  split at h
  · rename_i z hz; cases h; exact load_sound hT hh hl hx hz
  · exact span_sound hT hh hl hx h

/-! Stores. -/
def putSpanE (T : TI) (look : Nat → Option Ent) (y : AV) : AV → Option Upd
  | .ptr l i k s => match s with
    | 0 => match look l with
      | some e => match decide (e.id = i) && y.storable with
        | true => match e.obj with
          | .row pu sz xs => match partsE sz y with
            | some ys => match T.agg && (Nat.beq y.fsz T.size && (Nat.beq (ys.length * sz) T.size && Nat.ble (k + ys.length) xs.length)) with
              | true => some [(l, ⟨i, .row (pu && noLab y) sz (xs.take k ++ (ys ++ xs.drop (k + ys.length)))⟩)]
              | false => none
            | none => none
          | _ => none
        | false => none
      | none => none
    | _ => none
  | _ => none
theorem putSpan_sound {P : Program} {B : Tb} [TbOk B P] {t : TypeId} {T : TI} (hT : ti B t = some T) {E : Env} {τ : Hp} {w : World} (hh : Holds E τ w) {look : Nat → Option Ent} (hl : ∀ l e, look l = some e → aget τ l = some e)
    {x y : AV} {v u : Value} {upd : Upd} (hx : VR E x v) (hy : VR E y u) (h : putSpanE T look y x = some upd) :
    ∃ w', (Instr.storeAt t v u).run P w = .ok () w' ∧ Holds E (τ.app upd) w' ∧ Adv E τ w E (τ.app upd) w' := by
  unfold putSpanE at h
  split at h
  · rename_i l i k s
    obtain ⟨b, base, sz, cap, h1, rfl⟩ := hx.ptr_inv
    split at h
    · split at h
      · rename_i e he
        split at h
        · rename_i hcond
          rw [Bool.and_eq_true] at hcond
          have hid := of_decide_eq_true hcond.1
          have hst := hcond.2
          split at h
          · rename_i pu rz xs hobj
            split at h
            · rename_i ys hys
              split at h
              · rename_i hc; cases h
                simp only [Bool.and_eq_true] at hc
                obtain ⟨hag, hsz0, hm0, hk0⟩ := hc
                have hsz := Nat.eq_of_beq_eq_true hsz0
                have hm := Nat.eq_of_beq_eq_true hm0
                have hk := Nat.le_of_ble_eq_true hk0
                have hget := hl l e he
                obtain ⟨L, h2, h3⟩ := hh.own l e hget
                rw [hid, h1] at h2; cases h2
                rw [hobj] at h3
                cases h3 with
                | row hw hr hc hs hn hb hf ho hzz =>
                  rename_i c t' fz cs rest
                  have hr := hr.mono (E.sel_and_le pu (noLab y))
                  have hyE := hy
                  have hy : VR (E.sel (pu && noLab y)) y u := by
                    cases hnl : noLab y
                    · rw [Bool.and_false]; exact hyE
                    · cases pu
                      · exact hyE
                      · exact hyE.pure_of (by simp [noLabs, hnl])
                  obtain ⟨hyf, hyc⟩ := parts_sound hy hys
                  have husz : u.cells.size = T.size := by rw [hy.size, hsz]
                  have hul : u.cells.toList.length = ys.length * sz := by rw [Array.length_toList, husz, hm]
                  obtain ⟨d1, d2, d3, rfl, q1, q2, q3, q4, q5⟩ := cs_cut hr hs hk
                  have hkle : (k + ys.length) * sz ≤ cap * sz := Nat.mul_le_mul_right _ (by omega)
                  rw [Nat.add_mul] at hkle
                  obtain ⟨w', g1, g2, g3, g4, g5, g6, g7⟩ := run_storeVar (P := P) hT (w := w) (b := b) (off := base + k * sz + 0) hw husz (by omega) (storable_sound y hyE hst)
                    (fun j hj1 hj2 => hf j (by omega) (by omega))
                  have hcl : c.toList.length = c.size := by simp
                  have hcsl : (d1 ++ (d2 ++ d3)).length + rest.length = c.size - base := by
                    have := congrArg List.length hc; simp at this ⊢; omega
                  have hcs' : spl (d1 ++ (d2 ++ d3)) (k * sz) u.cells.toList = d1 ++ (u.cells.toList ++ d3) := by
                    unfold spl
                    rw [← q1, List.take_left, List.drop_append, List.drop_eq_nil_of_le (by omega), List.nil_append, Nat.add_sub_cancel_left, hul, ← q2, List.drop_left]
                    try rfl
                  have hob : ObjR E w' (.row (pu && noLab y) sz (xs.take k ++ (ys ++ xs.drop (k + ys.length)))) (.at b base sz cap) := by
                    refine .row g2 (RR.cs_append q3 (RR.cs_append hyc q5)) (rest := rest) ?_ ?_ ?_ ?_ hf ?_
                    · rw [← hcs']
                      have hpre : c.toList = c.toList.take base ++ ((d1 ++ (d2 ++ d3)) ++ rest) := by rw [← hc, List.take_append_drop]
                      have hbl : (c.toList.take base).length = base := by simp; omega
                      show (spl c.toList (base + k * sz + 0) u.cells.toList).drop base = _
                      rw [hpre, Nat.add_zero, spl_right (by omega), hbl, List.drop_append, List.drop_eq_nil_of_le (by omega), hbl]
                      simp only [Nat.sub_self, List.drop_zero, List.nil_append]
                      rw [show base + k * sz - base = k * sz by omega, spl_left (by simp [q1, q2, hul])]
                    · intro z hz
                      rcases List.mem_append.1 hz with hz | hz
                      · exact hs z (List.mem_of_mem_take hz)
                      · rcases List.mem_append.1 hz with hz | hz
                        · exact hyf z hz
                        · exact hs z (List.mem_of_mem_drop hz)
                    · simp; omega
                    · rw [List.size_toArray, spl_length (by rw [hul, hcl]; omega), hcl]; omega
                    · intro z hz
                      rcases List.mem_append.1 hz with hz | hz
                      · exact ho z (List.mem_append_left _ hz)
                      · rcases List.mem_append.1 hz with hz | hz
                        · exact storable_sound y hyE hst z hz
                        · exact ho z (List.mem_append_right _ (List.mem_append_right _ hz))
                  obtain ⟨q1, q2⟩ := hh.write (w' := w') hget (by rw [hid]; exact h1) rfl (.row (pu && noLab y) sz (xs.take k ++ (ys ++ xs.drop (k + ys.length)))) hob g3 g4 g5 g6 g7
                  rw [hid] at q1 q2
                  refine ⟨w', ?_, q1, q2⟩
                  simp only [Instr.storeAt, Instr.sureAddr, Sem.run_bind, Sem.run_pure, Result.andThen_ok]
                  exact g1
              · cases h
            · cases h
          · cases h
        · cases h
      · cases h
    · cases h
  · cases h
def storeA (T : TI) (look : Nat → Option Ent) (y x : AV) : Option Upd := match storeE T look y x with
  | some u => some u
  | none => putSpanE T look y x
theorem storeA_sound {P : Program} {B : Tb} [TbOk B P] {t : TypeId} {T : TI} (hT : ti B t = some T) {E : Env} {τ : Hp} {w : World} (hh : Holds E τ w) {look : Nat → Option Ent} (hl : ∀ l e, look l = some e → aget τ l = some e)
    {x y : AV} {v u : Value} {upd : Upd} (hx : VR E x v) (hy : VR E y u) (h : storeA T look y x = some upd) :
    ∃ w', (Instr.storeAt t v u).run P w = .ok () w' ∧ Holds E (τ.app upd) w' ∧ Adv E τ w E (τ.app upd) w' := by
  unfold storeA at h
  split at h
  · rename_i z hz; cases h; exact store_sound hT hh hl hx hy hz
  · exact putSpan_sound hT hh hl hx hy h

/-! Addresses of elements. -/
def elemArrE (B : Tb) (T : TI) (look : Nat → Option Ent) (x : AV) (n : Int) : Option AV :=
  match T.desc with
  | .array len e => match ti B e with
    | some U => match x with
      | .ptr l i k s => match s with
        | 0 => match look l with
          | some en => match decide (en.id = i) with
            | true => match en.obj with
              | .row _ sz _ => match Nat.beq sz U.size && decide (0 ≤ n ∧ n < len) with
                | true => some (.ptr l i (k + n.toNat) 0)
                | false => none
              | _ => none
            | false => none
          | none => none
        | _ => none
      | _ => none
    | none => none
  | _ => none
theorem elemArr_sound {P : Program} {B : Tb} [TbOk B P] {t : TypeId} {T : TI} (hT : ti B t = some T) {E : Env} {τ : Hp} {w : World} (hh : Holds E τ w) {look : Nat → Option Ent} (hl : ∀ l e, look l = some e → aget τ l = some e)
    {k : IntKind} {n : Int} {x y : AV} {v : Value} (hx : VR E x v) (h : elemArrE B T look x n = some y) : ∃ u, (Instr.indexAt t v (.int k n)).run P w = .ok u w ∧ VR E y u := by
  unfold elemArrE at h
  split at h
  · rename_i len e hd
    split at h
    · rename_i U hU
      split at h
      · rename_i l i k' s
        obtain ⟨b, base, sz, cap, h1, rfl⟩ := hx.ptr_inv
        split at h
        · split at h
          · rename_i en he
            split at h
            · rename_i hid
              have hid := of_decide_eq_true hid
              split at h
              · rename_i pu rz xs hobj
                split at h
                · rename_i hc; cases h
                  rw [Bool.and_eq_true] at hc
                  have hsz := Nat.eq_of_beq_eq_true hc.1
                  have hn := of_decide_eq_true hc.2
                  obtain ⟨L, h2, h3⟩ := hh.own l en (hl l en he)
                  rw [hid, h1] at h2; cases h2
                  rw [hobj] at h3
                  cases h3 with
                  | row hw hr hc hs hn' hb hf ho hzz =>
                    refine ⟨.pointer (some ⟨b, base + k' * sz + 0 + n.toNat * U.size, none⟩), ?_, ?_⟩
                    · simp only [Instr.indexAt, asIntOf, Sem.run_bind, Sem.run_pure, run_ti_underlying hT, Result.andThen_ok, hd, Instr.sureAddr, hn, and_self, if_true, run_ti_size hU, add_none]
                    · have := RR.ptr (E := E) l (k' + n.toNat) 0 h1
                      rw [Nat.add_mul, hsz] at this
                      rw [hsz]
                      have e1 : base + (k' * U.size + n.toNat * U.size) + 0 = base + k' * U.size + 0 + n.toNat * U.size := by omega
                      rw [e1] at this; exact this
                · cases h
              · cases h
            · cases h
          · cases h
        · cases h
      · cases h
    · cases h
  · cases h
def idxAddrA (B : Tb) (T : TI) (look : Nat → Option Ent) (x : AV) (n : Int) : Option AV := match elemArrE B T look x n with
  | some y => some y
  | none => indexAddrE B T look x n
theorem idxAddrA_sound {P : Program} {B : Tb} [TbOk B P] {t : TypeId} {T : TI} (hT : ti B t = some T) {E : Env} {τ : Hp} {w : World} (hh : Holds E τ w) {look : Nat → Option Ent} (hl : ∀ l e, look l = some e → aget τ l = some e)
    {k : IntKind} {n : Int} {x y : AV} {v : Value} (hx : VR E x v) (h : idxAddrA B T look x n = some y) : ∃ u, (Instr.indexAt t v (.int k n)).run P w = .ok u w ∧ VR E y u := by
  unfold idxAddrA at h
  split at h
  · rename_i z hz; cases h; exact elemArr_sound hT hh hl hx hz
  · exact indexAddr_sound hT hh hl hx h

/-! A slice of an array. -/
def sliceArrE (B : Tb) (T : TI) (look : Nat → Option Ent) (x : AV) (lo hi mx : Option Int) : Option AV :=
  match T.desc with
  | .array len e => match ti B e with
    | some U => match x with
      | .ptr l i k s => match s with
        | 0 => match look l with
          | some en => match decide (en.id = i) with
            | true => match en.obj with
              | .row _ sz xs => match Nat.beq sz U.size && (Nat.ble (k + len) xs.length && decide (0 ≤ lo.getD 0 ∧ lo.getD 0 ≤ hi.getD len ∧ hi.getD len ≤ mx.getD len ∧ mx.getD len ≤ len ∧ (mx.isSome = true → hi.isSome = true))) with
                | true => some (.slc l i (k + (lo.getD 0).toNat) (hi.getD len - lo.getD 0).toNat)
                | false => none
              | _ => none
            | false => none
          | none => none
        | _ => none
      | _ => none
    | none => none
  | _ => none
theorem sliceArr_sound {P : Program} {B : Tb} [TbOk B P] {t : TypeId} {T : TI} (hT : ti B t = some T) {E : Env} {τ : Hp} {w : World} (hh : Holds E τ w) {look : Nat → Option Ent} (hl : ∀ l e, look l = some e → aget τ l = some e)
    {x y : AV} {v : Value} {lo hi mx : Option Int} {vlo vhi vmx : Option Value} (rl : bndR lo vlo) (rh : bndR hi vhi) (rm : bndR mx vmx) (hx : VR E x v) (h : sliceArrE B T look x lo hi mx = some y) :
    ∃ u, (Instr.sliceAt t v vlo vhi vmx).run P w = .ok u w ∧ VR E y u := by
  unfold sliceArrE at h
  split at h
  · rename_i len e hd
    split at h
    · rename_i U hU
      split at h
      · rename_i l i k s
        obtain ⟨b, base, sz, cap, h1, rfl⟩ := hx.ptr_inv
        split at h
        · split at h
          · rename_i en he
            split at h
            · rename_i hid
              have hid := of_decide_eq_true hid
              split at h
              · rename_i pu rz xs hobj
                split at h
                · rename_i hc; cases h
                  simp only [Bool.and_eq_true] at hc
                  have hsz := Nat.eq_of_beq_eq_true hc.1
                  have hk := Nat.le_of_ble_eq_true hc.2.1
                  obtain ⟨c0, c1, c2, c3, c4⟩ := of_decide_eq_true hc.2.2
                  obtain ⟨L, h2, h3⟩ := hh.own l en (hl l en he)
                  rw [hid, h1] at h2; cases h2
                  rw [hobj] at h3
                  cases h3 with
                  | row hw hr hcc hs hn' hb hf ho hzz =>
                    refine ⟨.slice (some (if (mx.getD (len : Int)).toNat = (lo.getD 0).toNat then ⟨b, base + k * sz + 0, none⟩ else (⟨b, base + k * sz + 0, none⟩ : Addr).add ((lo.getD 0).toNat * U.size))) ((hi.getD (len : Int)).toNat - (lo.getD 0).toNat) ((mx.getD (len : Int)).toNat - (lo.getD 0).toNat), ?_, ?_⟩
                    · simp only [Instr.sliceAt, Sem.run_bind, run_ti_underlying hT, Result.andThen_ok, hd, Instr.sureAddr, Sem.run_pure, run_sliceBounds rl rh rm c0 c1 c2 c3 (Nat.le_refl _) c4, run_ti_size hU]
                    · have e1 : (hi.getD (len : Int)).toNat - (lo.getD 0).toNat = (hi.getD (len : Int) - lo.getD 0).toNat := by omega
                      rw [e1]
                      split
                      · rename_i hz
                        have e2 : (hi.getD (len : Int) - lo.getD 0).toNat = 0 := by omega
                        rw [e2, hz, Nat.sub_self]
                        exact .slcZ _ _ _ h1
                      · simp only [add_none, ← hsz]
                        have := RR.slc (E := E) l (off := k + (lo.getD 0).toNat) (len := (hi.getD (len : Int) - lo.getD 0).toNat) (c := (mx.getD (len : Int)).toNat - (lo.getD 0).toNat) h1 (by omega) (by omega)
                        rw [Nat.add_mul, ← Nat.add_assoc] at this
                        simpa using this
                · cases h
              · cases h
            · cases h
          · cases h
        · cases h
      · cases h
    · cases h
  · cases h
/-- A slice of an array of one-cell elements that lies within an element of a row. -/
def sliceSubE (B : Tb) (T : TI) (x : AV) (lo hi mx : Option Int) : Option AV :=
  match T.desc with
  | .array len e => match ti B e with
    | some U => match x with
      | .ptr l i k s => match Nat.beq U.size 1 && decide (mx = none ∧ 0 ≤ lo.getD 0 ∧ lo.getD 0 < len ∧ lo.getD 0 ≤ hi.getD len ∧ hi.getD len ≤ len) with
        | true => some (.sub l i k (s + (lo.getD 0).toNat) (hi.getD len - lo.getD 0).toNat)
        | false => none
      | _ => none
    | none => none
  | _ => none
theorem sliceSub_sound {P : Program} {B : Tb} [TbOk B P] {t : TypeId} {T : TI} (hT : ti B t = some T) {E : Env} {w : World}
    {x y : AV} {v : Value} {lo hi mx : Option Int} {vlo vhi vmx : Option Value} (rl : bndR lo vlo) (rh : bndR hi vhi) (rm : bndR mx vmx) (hx : VR E x v) (h : sliceSubE B T x lo hi mx = some y) :
    ∃ u, (Instr.sliceAt t v vlo vhi vmx).run P w = .ok u w ∧ VR E y u := by
  unfold sliceSubE at h
  split at h
  · rename_i len e hd
    split at h
    · rename_i U hU
      split at h
      · rename_i l i k s
        obtain ⟨b, base, sz, cap, h1, rfl⟩ := hx.ptr_inv
        split at h
        · rename_i hc; cases h
          rw [Bool.and_eq_true] at hc
          have hsz := Nat.eq_of_beq_eq_true hc.1
          obtain ⟨rfl, c0, c1, c2, c3⟩ := of_decide_eq_true hc.2
          have c4 : (none : Option Int).isSome = true → hi.isSome = true := fun h => by cases h
          refine ⟨.slice (some (if ((none : Option Int).getD (len : Int)).toNat = (lo.getD 0).toNat then ⟨b, base + k * sz + s, none⟩ else (⟨b, base + k * sz + s, none⟩ : Addr).add ((lo.getD 0).toNat * U.size))) ((hi.getD (len : Int)).toNat - (lo.getD 0).toNat) (((none : Option Int).getD (len : Int)).toNat - (lo.getD 0).toNat), ?_, ?_⟩
          · simp only [Instr.sliceAt, Sem.run_bind, run_ti_underlying hT, Result.andThen_ok, hd, Instr.sureAddr, Sem.run_pure, run_sliceBounds rl rh rm c0 c2 (by simpa using c3) (by simp) (Nat.le_refl _) c4, run_ti_size hU]
          · have e1 : (hi.getD (len : Int)).toNat - (lo.getD 0).toNat = (hi.getD (len : Int) - lo.getD 0).toNat := by omega
            rw [e1, if_neg (by simp only [Option.getD_none]; omega)]
            simp only [add_none, hsz, Nat.mul_one]
            have := RR.sub (E := E) l k (s + (lo.getD 0).toNat) (len := (hi.getD (len : Int) - lo.getD 0).toNat) (c := ((none : Option Int).getD (len : Int)).toNat - (lo.getD 0).toNat) h1 (by simp only [Option.getD_none]; omega)
            rw [← Nat.add_assoc] at this
            exact this
        · cases h
      · cases h
    · cases h
  · cases h
def sliceA (B : Tb) (T : TI) (look : Nat → Option Ent) (x : AV) (lo hi mx : Option Int) : Option AV := match sliceE B T look x lo hi mx with
  | some y => some y
  | none => match sliceArrE B T look x lo hi mx with
    | some y => some y
    | none => sliceSubE B T x lo hi mx
theorem sliceA_sound {P : Program} {B : Tb} [TbOk B P] {t : TypeId} {T : TI} (hT : ti B t = some T) {E : Env} {τ : Hp} {w : World} (hh : Holds E τ w) {look : Nat → Option Ent} (hl : ∀ l e, look l = some e → aget τ l = some e)
    {x y : AV} {v : Value} {lo hi mx : Option Int} {vlo vhi vmx : Option Value} (rl : bndR lo vlo) (rh : bndR hi vhi) (rm : bndR mx vmx) (hx : VR E x v) (h : sliceA B T look x lo hi mx = some y) :
    ∃ u, (Instr.sliceAt t v vlo vhi vmx).run P w = .ok u w ∧ VR E y u := by
  unfold sliceA at h
  split at h
  · rename_i z hz; cases h; exact slice_sound hT hh hl rl rh rm hx hz
  · split at h
    · rename_i z hz; cases h; exact sliceArr_sound hT hh hl rl rh rm hx hz
    · exact sliceSub_sound hT rl rh rm hx h

/-! New array variables. -/
def newRowsR (d : Nat) (p : Id) (sz : Nat) (xs : List AV) : Res := ⟨.ptr d p 0 0, [(d, ⟨p, .row (noLabs xs) sz xs⟩)], true⟩
theorem newRows_sound {P : Program} {t : TypeId} {E : Env} {τ : Hp} {w : World} (hh : Holds E τ w) {p : Id} (hp : Fresh E p) {sz : Nat} {xs : List AV} {v : Value} (hx : RR E .cs xs v.cells.toList) (hs : ∀ x ∈ xs, x.fsz = sz) (hv : ∀ u ∈ v.cells.toList, u.oneCell' = true) (d : Nat) :
    ∃ a w' E', (newVar t v).run P w = .ok a w' ∧ VR E' (.ptr d p 0 0) (.pointer (some a)) ∧ Holds E' (τ.app [(d, ⟨p, .row (noLabs xs) sz xs⟩)]) w' ∧ Adv E τ w E' (τ.app [(d, ⟨p, .row (noLabs xs) sz xs⟩)]) w' ∧ NewIn E E' p := by
  have hle : E.le (E.name p (.at w.heap.size 0 sz xs.length)) := Env.name_le (hp p (List.suffix_refl _))
  have hlen := hx.cs_length
  rw [AV.fszs_uniform hs, Array.length_toList] at hlen
  obtain ⟨h1, h2⟩ := hh.new hp (.cells v.cells t) 0 sz xs.length d (.row (noLabs xs) sz xs) (.row (rest := []) (c := v.cells) (t := t) (fz := (0, 0)) (by show (w.heap.push _)[w.heap.size]? = _; simp) (hx.sel_of.mono (hle.sel _)) (by simp) hs (Nat.le_refl _)
    (by omega) (free_zero _ _) hv)
  refine ⟨⟨w.heap.size, 0, none⟩, w.alloc (.cells v.cells t), _, rfl, ?_, h1, h2, Env.name_newIn⟩
  have := RR.ptr (E := E.name p (.at w.heap.size 0 sz xs.length)) d 0 0 (Env.name_self ..)
  simpa using this
/-- A variable of an array's type: its elements, if it lies as a row of them. -/
def arrPartsE (B : Tb) (T : TI) (z : AV) : Option (Nat × List AV) := match T.desc with
  | .array _ e => match ti B e with
    | some U => match partsE U.size z with
      | some xs => some (U.size, xs)
      | none => none
    | none => none
  | _ => none
def newRowR (d : Nat) (p : Id) (z : AV) : Res := ⟨.ptr d p 0 0, [(d, ⟨p, .row (noLab z) z.fsz [z]⟩)], true⟩
def newA (B : Tb) (T : TI) (d : Nat) (p : Id) (z : AV) : Res := match arrPartsE B T z with
  | some (sz, xs) => newRowsR d p sz xs
  | none => newRowR d p z
/-- A variable of a type, whatever is known of the type. -/
def newT (B : Tb) (t : TypeId) (d : Nat) (p : Id) (z : AV) : Res := match ti B t with
  | some T => newA B T d p z
  | none => newRowR d p z
theorem newA_sound {P : Program} {B : Tb} {t : TypeId} {T : TI} {E : Env} {τ : Hp} {w : World} (hh : Holds E τ w) {p : Id} (hp : Fresh E p) {z : AV} {v : Value} (hx : RR E .cs [z] v.cells.toList) (hv : ∀ u ∈ v.cells.toList, u.oneCell' = true) (d : Nat) :
    ∃ a w' E', (newVar t v).run P w = .ok a w' ∧ VR E' (newA B T d p z).x (.pointer (some a)) ∧ Holds E' (τ.app (newA B T d p z).upd) w' ∧ Adv E τ w E' (τ.app (newA B T d p z).upd) w' ∧ NewIn E E' p := by
  unfold newA
  split
  · rename_i sz xs hps
    unfold arrPartsE at hps
    split at hps
    · split at hps
      · split at hps
        · rename_i ys hys; cases hps
          obtain ⟨u, cs', h1, h2, h3⟩ := hx.cs_cons_inv
          obtain rfl := h2.cs_nil_inv
          rw [List.append_nil] at h3
          obtain ⟨g1, g2⟩ := parts_sound h1 hys
          rw [← h3] at g2
          exact newRows_sound hh hp g2 g1 hv d
        · cases hps
      · cases hps
    · cases hps
  · exact newVar_sound hh hp hx hv d
theorem newT_sound {P : Program} {B : Tb} {t : TypeId} {E : Env} {τ : Hp} {w : World} (hh : Holds E τ w) {p : Id} (hp : Fresh E p) {z : AV} {v : Value} (hx : RR E .cs [z] v.cells.toList) (hv : ∀ u ∈ v.cells.toList, u.oneCell' = true) (d : Nat) :
    ∃ a w' E', (newVar t v).run P w = .ok a w' ∧ VR E' (newT B t d p z).x (.pointer (some a)) ∧ Holds E' (τ.app (newT B t d p z).upd) w' ∧ Adv E τ w E' (τ.app (newT B t d p z).upd) w' ∧ NewIn E E' p := by
  unfold newT
  split
  · exact newA_sound hh hp hx hv d
  · exact newVar_sound hh hp hx hv d
end
end Go.AS
