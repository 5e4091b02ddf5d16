/- Functions that only look at what they are handed: what they answered at memory that nobody writes serves where the memory is owned. -/
import Derived.Test.YtnenknghinpliaaGreatDoorASmem
namespace Go.AS
noncomputable section

def lendAs (g : AV → Option AV) : List AV → Option (List AV)
  | [] => some []
  | x :: xs => match g x with
    | some y => match lendAs g xs with
      | some ys => some (y :: ys)
      | none => none
    | none => none
def rowSz : Option Ent → Nat
  | some e => match e.obj with
    | .row _ sz _ => sz
    | _ => 0
  | none => 0
/-- A value, as it stands in memory that nobody writes. -/
def lendA (σ : Hp) : Nat → AV → Option AV
  | 0, _ => none
  | n + 1, x => match x with
    | .lit v => some (.lit v)
    | .ref y => some (.ref y)
    | .lst e s xs => some (.lst e s xs)
    | .mpv ks vs => some (.mpv ks vs)
    | .ptr l i k s => match s with
      | 0 => match aget σ l with
        | some e => match decide (e.id = i) with
          | true => match e.obj with
            | .row _ _ xs => match xs[k]? with
              | some y => match lendA σ n y with
                | some z => some (.ref z)
                | none => none
              | none => none
            | _ => none
          | false => none
        | none => none
      | _ => none
    | .slc l i off len => match len with
      | 0 => some (.lst false (rowSz (aget σ l)) [])
      | m + 1 => match aget σ l with
        | some e => match decide (e.id = i) with
          | true => match e.obj with
            | .row _ sz xs => match Nat.ble (off + (m + 1)) xs.length with
              | true => match lendAs (lendA σ n) ((xs.drop off).take (m + 1)) with
                | some ys => some (.lst false sz ys)
                | none => none
              | false => none
            | _ => none
          | false => none
        | none => none
    | .mp l i => match aget σ l with
      | some e => match decide (e.id = i) with
        | true => match e.obj with
          | .map _ _ _ ks vs => match lendAs (lendA σ n) vs with
            | some us => some (.mpv ks us)
            | none => none
          | _ => none
        | false => none
      | none => none
    | .iface t y => match lendA σ n y with
      | some z => some (.iface t z)
      | none => none
    | .agg xs => match lendAs (lendA σ n) xs with
      | some ys => some (.agg ys)
      | none => none
    | .tup xs => match lendAs (lendA σ n) xs with
      | some ys => some (.tup ys)
      | none => none
    | .fn g xs ys => match lendAs (lendA σ n) xs, lendAs (lendA σ n) ys with
      | some as, some bs => some (.fn g as bs)
      | _, _ => none
    | .sub .. => none
    | .yld _ => none

open Classical in
/-- All that is owned, as what nobody writes. -/
noncomputable def EnvLend (E : Env) (σ : Hp) (w : World) : Env := ⟨fun _ => none, fun b => match E.m b with
  | some o => some o
  | none => if Own E σ b then w.heap[b]? else none⟩
theorem EnvLend.m_le {E : Env} {σ : Hp} {w : World} : ∀ b o, E.m b = some o → (EnvLend E σ w).m b = some o := fun b o h => by simp only [EnvLend, h]
theorem EnvLend.own {E : Env} {σ : Hp} {w : World} (hh : Holds E σ w) {b : Nat} {o : Obj} (ho : Own E σ b) (hw : w.heap[b]? = some o) : (EnvLend E σ w).m b = some o := by
  have h0 := hh.apart b ho
  simp only [EnvLend, h0, ho, if_true, hw]
theorem EnvLend.imm {E : Env} {σ : Hp} {w : World} (hh : Holds E σ w) {b : Nat} {o : Obj} (h : (EnvLend E σ w).m b = some o) : w.heap[b]? = some o := by
  simp only [EnvLend] at h
  split at h
  · rename_i o' h0; cases h; exact hh.imm b _ h0
  · split at h
    · exact h
    · cases h
theorem EnvLend.moves {E : Env} {σ : Hp} {w : World} : Moves E (EnvLend E σ w) [] := ⟨fun m hm => (by cases hm), EnvLend.m_le⟩

theorem lendAs_cons {g : AV → Option AV} {x : AV} {xs ys : List AV} (h : lendAs g (x :: xs) = some ys) : ∃ y yr, g x = some y ∧ lendAs g xs = some yr ∧ ys = y :: yr := by
  unfold lendAs at h
  split at h
  · rename_i y hy
    split at h
    · rename_i yr hyr; cases h; exact ⟨y, yr, hy, hyr, rfl⟩
    · cases h
  · cases h
section
variable {E : Env} {σ : Hp} {w : World}
/-- What lending one value asks. -/
def LendOk (E : Env) (σ : Hp) (w : World) (g : AV → Option AV) : Prop := ∀ E0 : Env, E0.le E → E0.m = E.m → ∀ x y v, g x = some y → VR E0 x v → VR (EnvLend E σ w) y v ∧ y.fsz = x.fsz
theorem LendOk.vs {g : AV → Option AV} (hg : LendOk E σ w g) {E0 : Env} (h0 : E0.le E) (hm : E0.m = E.m) : ∀ {xs ys : List AV} {vs : List Value}, lendAs g xs = some ys → RR E0 .vs xs vs → RR (EnvLend E σ w) .vs ys vs
  | [], ys, vs, h, hx => by cases h; obtain rfl := hx.vs_nil_inv; exact .vnil
  | x :: xs, ys, vs, h, hx => by
    obtain ⟨y, yr, h1, h2, rfl⟩ := lendAs_cons h
    obtain ⟨v, vs', h3, h4, rfl⟩ := hx.vs_cons_inv
    exact .vcons (hg E0 h0 hm x y v h1 h3).1 (hg.vs h0 hm h2 h4)
theorem LendOk.cs {g : AV → Option AV} (hg : LendOk E σ w g) {E0 : Env} (h0 : E0.le E) (hm : E0.m = E.m) : ∀ {xs ys : List AV} {cs : List Value}, lendAs g xs = some ys → RR E0 .cs xs cs → RR (EnvLend E σ w) .cs ys cs ∧ ys.length = xs.length ∧ AV.fszs ys = AV.fszs xs ∧ ∀ sz, (∀ x ∈ xs, x.fsz = sz) → ∀ y ∈ ys, y.fsz = sz
  | [], ys, cs, h, hx => by cases h; obtain rfl := hx.cs_nil_inv; exact ⟨.cnil, rfl, rfl, fun _ _ y hy => by cases hy⟩
  | x :: xs, ys, cs, h, hx => by
    obtain ⟨y, yr, h1, h2, rfl⟩ := lendAs_cons h
    obtain ⟨v, cs', h3, h4, rfl⟩ := hx.cs_cons_inv
    obtain ⟨a1, a2⟩ := hg E0 h0 hm x y v h1 h3
    obtain ⟨b1, b2, b3, b4⟩ := hg.cs h0 hm h2 h4
    refine ⟨.ccons a1 b1, by simp [b2], by rw [AV.fszs, AV.fszs, a2, b3], fun sz hs z hz => ?_⟩
    rcases List.mem_cons.1 hz with rfl | hz
    · rw [a2]; exact hs x (List.mem_cons_self ..)
    · exact b4 sz (fun q hq => hs q (List.mem_cons_of_mem _ hq)) z hz
theorem sel_m (E : Env) (b : Bool) : (E.sel b).m = E.m := by cases b <;> rfl
theorem lend_ok (hh : Holds E σ w) : ∀ n : Nat, LendOk E σ w (lendA σ n)
  | 0 => fun _ _ _ _ _ _ h => by cases h
  | n + 1 => by
    have ih := lend_ok hh n
    intro E0 h0 hm x y v h hx
    have hp : E0.pure.le (EnvLend E σ w).pure := ⟨fun _ _ h => (by cases h), fun b o h => EnvLend.m_le b o (by rw [← hm]; exact h)⟩
    unfold lendA at h
    split at h
    · cases h; have := hx.lit_inv; subst this; exact ⟨.lit _, rfl⟩
    · cases h
      cases hx with
      | ref h1 h2 h3 => exact ⟨.ref (hp.m _ _ h1) (h2.mono hp) h3, rfl⟩
    · cases h
      refine ⟨?_, rfl⟩
      cases hx with
      | lstE _ a h => exact .lstE _ a h
      | lst h1 h2 h3 h4 h5 h6 h7 h8 => exact .lst (hp.m _ _ h1) (h2.mono hp) h3 h4 h5 h6 h7 h8
    · cases h
      cases hx with
      | mpv h1 h2 h3 h4 => exact ⟨.mpv (hp.m _ _ h1) h2 h3 (h4.mono hp), rfl⟩
    · rename_i l i k s
      split at h
      · split at h
        · rename_i e he
          split at h
          · rename_i hid
            have hid := of_decide_eq_true hid
            split at h
            · rename_i pu sz xs hobj
              split at h
              · rename_i y' hy'
                split at h
                · rename_i z hz; cases h
                  obtain ⟨b, base, sz', cap, h1, rfl⟩ := hx.ptr_inv
                  obtain ⟨L, h2, h3⟩ := hh.own l e he
                  rw [hid, h0.ρ _ _ h1] at h2; cases h2
                  rw [hobj] at h3
                  cases h3 with
                  | row hw hr hc hs hn hb hf ho hzz =>
                    rename_i c t fz cs rest
                    obtain ⟨u, h4, r1, h5, h6⟩ := hr.cs_elem hs hy'
                    obtain ⟨g1, g2⟩ := ih (E.sel pu) (E.sel_le _) (sel_m _ _) _ _ _ hz h4
                    have hown : Own E σ b := ⟨l, e, _, he, by rw [hid]; exact h0.ρ _ _ h1, rfl⟩
                    have hk : k * sz ≤ cs.length := by
                      have hlt : k < xs.length := by rw [List.getElem?_eq_some_iff] at hy'; exact hy'.1
                      rw [hr.cs_length, AV.fszs_uniform hs]
                      exact Nat.mul_le_mul_right _ (Nat.le_of_lt hlt)
                    exact ⟨.ref (rest := r1 ++ rest) (EnvLend.own hh hown hw) (RR.cs_one g1) (by rw [Nat.add_zero, ← List.drop_drop, hc, List.drop_append_of_le_length hk, h5, List.append_assoc]), rfl⟩
                · cases h
              · cases h
            · cases h
          · cases h
        · cases h
      · cases h
    · rename_i l i off len
      split at h
      · cases h
        refine ⟨?_, rfl⟩
        rcases slc_inv hx with ⟨_, ⟨a, rfl⟩, _⟩ | ⟨b, base, sz, cap, c, rfl, _⟩
        · exact .lstE _ a (fun h => by cases h)
        · exact .lstE _ _ (fun h => by cases h)
      · rename_i m
        split at h
        · rename_i e he
          split at h
          · rename_i hid
            have hid := of_decide_eq_true hid
            split at h
            · rename_i pu sz xs hobj
              split at h
              · rename_i hle
                have hle := Nat.le_of_ble_eq_true hle
                split at h
                · rename_i ys hys; cases h
                  refine ⟨?_, rfl⟩
                  rcases slc_inv hx with ⟨h9, _⟩ | ⟨b, base, sz', cap, c', rfl, h1, h5, h6⟩
                  · cases h9
                  obtain ⟨L, h2, h3⟩ := hh.own l e he
                  rw [hid, h0.ρ _ _ h1] at h2; cases h2
                  rw [hobj] at h3
                  cases h3 with
                  | row hw hr hc hs hn hb hf ho hzz =>
                    rename_i c t fz cs rest
                    obtain ⟨d1, d2, d3, rfl, q1, q2, q3, q4, q5⟩ := cs_cut hr hs hle
                    obtain ⟨g1, g2, g3, g4⟩ := ih.cs (E.sel_le pu) (sel_m _ _) hys q4
                    have hown : Own E σ b := ⟨l, e, _, he, by rw [hid]; exact h0.ρ _ _ h1, rfl⟩
                    have hlen : ys.length = m + 1 := by rw [g2, List.length_take, List.length_drop]; omega
                    refine .lst (rest := d3 ++ rest) (EnvLend.own hh hown hw) g1 ?_ (g4 sz fun x hx => hs x (List.mem_of_mem_drop (List.mem_of_mem_take hx))) hlen h5 (fun h => by cases h) (fun u hu => ho u (by simp [hu]))
                    rw [← List.drop_drop, hc, ← q1]; simp [List.drop_append]
                · cases h
              · cases h
            · cases h
          · cases h
        · cases h
    · rename_i l i
      split at h
      · rename_i e he
        split at h
        · rename_i hid
          have hid := of_decide_eq_true hid
          split at h
          · rename_i pu bs ck ks vs hobj
            split at h
            · rename_i us hus; cases h
              cases hx with
              | mp _ h1 =>
                obtain ⟨L, h2, h3⟩ := hh.own l e he
                rw [hid, h0.ρ _ _ h1] at h2; cases h2
                rw [hobj] at h3
                cases h3 with
                | map hw hk hu hv hb hd hbs =>
                  rename_i b _ _ _ _ _
                  have hown : Own E σ b := ⟨l, e, _, he, by rw [hid]; exact h0.ρ _ _ h1, rfl⟩
                  exact ⟨.mpv (EnvLend.own hh hown hw) hk hu (ih.vs (E.sel_le pu) (sel_m _ _) hus hv), rfl⟩
            · cases h
          · cases h
        · cases h
      · cases h
    · split at h
      · rename_i z hz; cases h
        obtain ⟨u, rfl, hu⟩ := hx.iface_inv
        exact ⟨.iface _ (ih E0 h0 hm _ _ _ hz hu).1, by simp [AV.fsz]⟩
      · cases h
    · split at h
      · rename_i zs hzs; cases h
        obtain ⟨cs, rfl, hcs⟩ := hx.agg_inv
        obtain ⟨g1, _, g3, _⟩ := ih.cs h0 hm hzs hcs
        exact ⟨.agg g1, by rw [AV.fsz, AV.fsz, g3]⟩
      · cases h
    · split at h
      · rename_i zs hzs; cases h
        obtain ⟨vs, rfl, hvs⟩ := hx.tup_inv
        exact ⟨.tup (ih.vs h0 hm hzs hvs), by simp [AV.fsz]⟩
      · cases h
    · split at h
      · rename_i as bs has hbs; cases h
        obtain ⟨f', c', rfl, h1, h2⟩ := hx.fn_inv
        exact ⟨.fn _ (ih.vs h0 hm has h1) (ih.vs h0 hm hbs h2), by simp [AV.fsz]⟩
      · cases h
    · cases h
    · cases h
end
mutual
/-- No address stands in it. -/
def noMem : AV → Bool
  | .lit _ => true
  | .iface _ x => noMem x
  | .agg xs => noMems xs
  | .tup xs => noMems xs
  | _ => false
def noMems : List AV → Bool
  | [] => true
  | x :: xs => noMem x && noMems xs
end
theorem RR.noMem {E E' : Env} {md : Md} {xs : List AV} {vs : List Value} (h : RR E md xs vs) (hn : noMems xs = true) : RR E' md xs vs := by
  induction h with
  | lit v => exact .lit v
  | iface t _ ih => simp [noMems, AS.noMem] at hn; exact .iface t (ih (by simpa [noMems] using hn))
  | agg _ ih => simp [noMems, AS.noMem] at hn; exact .agg (ih hn)
  | tup _ ih => simp [noMems, AS.noMem] at hn; exact .tup (ih hn)
  | vnil => exact .vnil
  | vcons _ _ i1 i2 => simp [noMems] at hn; exact .vcons (i1 (by simpa [noMems] using hn.1)) (i2 hn.2)
  | cnil => exact .cnil
  | ccons _ _ i1 i2 => simp [noMems] at hn; exact .ccons (i1 (by simpa [noMems] using hn.1)) (i2 hn.2)
  | _ => simp [noMems, AS.noMem] at hn
/-- What a function answered at memory that nobody writes. -/
def lendT (tab : List (List AV × AV)) : Id → Nat → List AV → Hp → Option Res := fun _ _ xs σ => match lendAs (lendA σ 60) xs with
  | some zs => match memoGet tab zs with
    | some v => some ⟨v, [], true⟩
    | none => none
  | none => none
theorem lendT_ok {X : PX} (hX : X.Sound) {f : FuncId} {n : Nat} {tab : List (List AV × AV)} (h : ∀ e ∈ tab, noMem e.2 = true ∧ firstR (S X n f e.1 1 .nil []) = some e.2) : CtOk (cx X f fun _ _ _ _ _ => none) f (.det (lendT tab)) := by
  intro p d xs σ K hk E w vals hg hh hp hv
  simp only [Ct.asks] at hk
  split at hk
  · rename_i r hr
    unfold lendT at hr
    split at hr
    · rename_i zs hzs
      split at hr
      · rename_i v hfind; cases hr
        obtain ⟨hnm, hrun⟩ := h _ (memoGet_sound hfind)
        unfold firstR at hrun
        split at hrun
        · rename_i x c' σ1 ws hs
          obtain rfl := Option.some.inj hrun
          have hvz : RR (EnvLend E σ w) .vs zs vals := (lend_ok hh 60).vs E.le_refl rfl hzs hv
          have hno : ∀ b, ¬ Own (EnvLend E σ w) .nil b := fun b ⟨l, e, L, h, _⟩ => by rw [aget_nil] at h; cases h
          have := (S_ok hX n f _ _ _ _ _ _ _ _ hs).2 (EnvLend E σ w) w vals (fun g x hx => GV.cv EnvLend.moves (hg g x hx) (hX.gl g x hx _)) ⟨fun b o hb => EnvLend.imm hh hb, fun l e he => (by rw [aget_nil] at he; cases he), fun b hb => (hno b hb).elim,
            fun l l' e e' L L' b h1 => (by rw [aget_nil] at h1; cases h1)⟩ (fun k _ i _ => rfl) hvz
          refine Does.imp this ?_
          rintro v w' ⟨E1, k1, k2, k3, _⟩
          have hkept : ∀ b, b < w.heap.size → w'.heap[b]? = w.heap[b]? := fun b hb => k3.kept b hb (hno b)
          refine ⟨E, _, [], hk.2, ?_, ⟨fun b o hb => ?_, fun l e he => ?_, hh.apart, hh.inj⟩, ⟨E.le_refl, k3.os, k3.tape, k3.output, k3.size, fun b hb _ => hkept b hb, fun _ h => .inl h, fun _ h => .inl h⟩, .refl _ _⟩
          · exact RR.noMem k1 (by simp [noMems, hnm])
          · rw [hkept b (hh.m_lt hb)]; exact hh.imm b o hb
          · obtain ⟨L, h1, h2⟩ := hh.own l e he
            exact ⟨L, h1, h2.keep E.le_refl fun b hb => hkept b (h2.lt hb)⟩
        · cases hrun
      · cases hr
    · cases hr
  · exact hk.elim
end
end Go.AS
