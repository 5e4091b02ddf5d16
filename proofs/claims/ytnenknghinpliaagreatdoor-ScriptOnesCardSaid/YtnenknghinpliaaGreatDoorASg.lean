/- Slices: elements' addresses, reslicing, literals, appends. -/
import Derived.Test.YtnenknghinpliaaGreatDoorASf
namespace Go.AS
noncomputable section

def indexAddrE (B : Tb) (T : TI) (look : Nat → Option Ent) (x : AV) (n : Int) : Option AV :=
  match T.desc with
  | .slice e => match ti B e with
    | some U => match x with
      | .slc l i off len => if 0 ≤ n ∧ n < len then match look l with
          | some en => if en.id = i then match en.obj with
            | .row _ sz _ => if sz = U.size then some (.ptr l i (off + n.toNat) 0) else none
            | _ => none else none
          | none => none
        else none
      | .lst _ sz xs => if 0 ≤ n ∧ sz = U.size then match xs[n.toNat]? with
          | some y => if U.agg = true ∨ y.leaf = true then some (.ref y) else none
          | none => none
        else none
      | _ => none
    | none => none
  | .array len e => match ti B e with
    | some U => if 0 ≤ n ∧ n < len then match x with
        | .ptr l i k s => some (.ptr l i k (s + n.toNat * U.size))
        | .ref y => match y.getAt (n.toNat * U.size) U.size U.agg with
          | some z => if U.agg = true ∨ z.leaf = true then some (.ref z) else none
          | none => none
        | _ => none
      else none
    | none => none
  | _ => none
theorem indexAddr_sound {P : Program} {B : Tb} [TbOk B P] {t : TypeId} {T : TI} (hT : ti B t = some T) {E : Env} {τ : Hp} {w : World} (hh : Holds E τ w) {look : Nat → Option Ent} (hl : ∀ l e, look l = some e → aget τ l = some e)
    {k : IntKind} {n : Int} {x y : AV} {v : Value} (hx : VR E x v) (h : indexAddrE B T look x n = some y) : ∃ u, (Instr.indexAt t v (.int k n)).run P w = .ok u w ∧ VR E y u := by
  unfold indexAddrE at h
  split at h
  · rename_i e hd
    split at h
    · rename_i U hU
      have run : ∀ (b o len c : Nat), v = .slice (some ⟨b, o, none⟩) len c → 0 ≤ n ∧ n < len → (Instr.indexAt t v (.int k n)).run P w = .ok (.pointer (some ⟨b, o + n.toNat * U.size, none⟩)) w := fun b o len c hv hn => by
        subst hv
        simp only [Instr.indexAt, asIntOf, Sem.run_bind, Sem.run_pure, run_ti_underlying hT, Result.andThen_ok, hd, hn, and_self, if_true, run_ti_size hU, add_none]
      split at h
      · rename_i l i off len
        split at h
        · rename_i hn
          split at h
          · rename_i en hen
            split at h
            · rename_i hid
              split at h
              · rename_i pu sz xs hobj
                split at h
                · rename_i hsz; cases h
                  rcases slc_inv hx with ⟨rfl, _⟩ | ⟨b, base, sz', cap, c, rfl, h1, h5, h6⟩
                  · omega
                  · refine ⟨_, run _ _ _ _ rfl hn, ?_⟩
                    obtain ⟨L, h2, h3⟩ := hh.own l en (hl l en hen)
                    rw [hid, h1] at h2; cases h2
                    rw [hobj] at h3
                    cases h3 with
                    | row hw hr hc hs hn' hb hf ho hzz =>
                      have := RR.ptr (E := E) l (off + n.toNat) 0 h1
                      rw [← hsz]
                      have e1 : base + (off + n.toNat) * sz + 0 = base + off * sz + n.toNat * sz := by rw [Nat.add_mul]; omega
                      rw [e1] at this; exact this
                · cases h
              · cases h
            · cases h
          · cases h
        · cases h
      · rename_i ex sz xs
        split at h
        · rename_i hn; obtain ⟨hn0, hsz⟩ := hn
          split at h
          · rename_i y' hy
            split at h
            · rename_i hlf; cases h
              have hlt : n.toNat < xs.length := by rw [List.getElem?_eq_some_iff] at hy; exact hy.1
              rcases lst_invP hx with ⟨rfl, _⟩ | ⟨b, off, cp, c, t', fz, cs, rest, rfl, h1, h2, h3, h4, h5, h6, ho⟩
              · simp at hlt
              · refine ⟨_, run _ _ _ _ rfl ⟨hn0, by omega⟩, ?_⟩
                obtain ⟨u, g1, r, g2, g3⟩ := h2.cs_elem h4 hy
                have hr := RR.cs_one g1
                refine .ref (rest := r ++ rest) h1 hr ?_
                have hle : n.toNat * sz ≤ cs.length := by
                  rw [h2.cs_length, AV.fszs_uniform h4]; exact Nat.mul_le_mul_right _ (by omega)
                rw [← hsz, ← List.drop_drop, h3, List.drop_append_of_le_length hle, g2]; simp
            · cases h
          · cases h
        · cases h
      · cases h
    · cases h
  · rename_i len e hd
    split at h
    · rename_i U hU
      split at h
      · rename_i hn
        have run : ∀ (b o : Nat), v = .pointer (some ⟨b, o, none⟩) → (Instr.indexAt t v (.int k n)).run P w = .ok (.pointer (some ⟨b, o + n.toNat * U.size, none⟩)) w := fun b o hv => by
          subst hv
          simp only [Instr.indexAt, asIntOf, Sem.run_bind, Sem.run_pure, run_ti_underlying hT, Result.andThen_ok, hd, Instr.sureAddr, hn, and_self, if_true, run_ti_size hU, add_none]
        split at h
        · cases h
          obtain ⟨b, base, sz, cap, h1, hv⟩ := hx.ptr_inv
          refine ⟨_, run _ _ hv, ?_⟩
          rw [Nat.add_assoc]; exact .ptr _ _ _ h1
        · rename_i y'
          split at h
          · rename_i z hz
            split at h
            · rename_i hlf; cases h
              obtain ⟨b, off, c, t', fz, cs, rest, hv, h1, h2, h3⟩ := hx.ref_invP
              refine ⟨_, run _ _ hv, ?_⟩
              have hp := row_part (xs := [y']) (k := 0) (sz := y'.fsz) h2 (by simp) rfl hz
              rw [Nat.zero_mul, Nat.zero_add] at hp
              exact ref_part h1 h3 hp hlf
            · cases h
          · cases h
        · cases h
      · cases h
    · cases h
  · cases h

/-! Reslicing. -/
def normS (U : TI) : AV → AV
  | .lit (.slice _ 0 0) => .lst true U.size []
  | x => x
theorem normS_sound {E : Env} {U : TI} {x : AV} {v : Value} (hx : VR E x v) : VR E (normS U x) v := by
  unfold normS
  split
  · have := hx.lit_inv; subst this; exact .lstE _ _ fun _ => rfl
  · exact hx
def sliceE (B : Tb) (T : TI) (look : Nat → Option Ent) (x : AV) (lo hi mx : Option Int) : Option AV :=
  match T.desc with
  | .slice e => match ti B e with
    | some U => match normS U x with
      | .slc l i off len =>
        if 0 ≤ lo.getD 0 ∧ lo.getD 0 ≤ hi.getD len ∧ hi.getD len ≤ mx.getD (hi.getD len) ∧ mx.getD (hi.getD len) ≤ len ∧ (mx.isSome = true → hi.isSome = true) then
          if lo.getD 0 = 0 then some (.slc l i off (hi.getD len).toNat) else match look l with
            | some en => if en.id = i then match en.obj with
              | .row _ sz _ => if sz = U.size then some (.slc l i (off + (lo.getD 0).toNat) (hi.getD len - lo.getD 0).toNat) else none
              | _ => none else none
            | none => none
        else none
      | .lst ex sz xs =>
        if 0 ≤ lo.getD 0 ∧ lo.getD 0 ≤ hi.getD xs.length ∧ hi.getD xs.length ≤ mx.getD (hi.getD xs.length) ∧ mx.getD (hi.getD xs.length) ≤ xs.length ∧ sz = U.size ∧ (mx.isSome = true → hi.isSome = true) then
          some (.lst ((mx.isSome && mx.getD 0 == hi.getD xs.length) || (mx.isNone && ex && hi.getD xs.length == xs.length)) sz ((xs.drop (lo.getD 0).toNat).take (hi.getD xs.length - lo.getD 0).toNat)) else none
      | _ => none
    | none => none
  | .string => match x with
    | .lit (.string s) =>
      if 0 ≤ lo.getD 0 ∧ lo.getD 0 ≤ hi.getD s.size ∧ hi.getD s.size ≤ s.size ∧ mx.isSome = false then some (.lit (.string (s.extract (lo.getD 0).toNat (hi.getD s.size).toNat))) else none
    | _ => none
  | _ => none
/-- A bound as the model has it. -/
def bndR (o : Option Int) (v : Option Value) : Prop := match o, v with
  | none, none => True
  | some n, some v => ∃ k, v = .int k n
  | _, _ => False
theorem run_sliceBound {P : Program} {w : World} {k : IntKind} {n : Int} {y : Nat} {code : BoundsCode} (h0 : 0 ≤ n) (h1 : n ≤ y) : (Instr.sliceBound (.int k n) y code).run P w = .ok n.toNat w := by
  simp [Instr.sliceBound, asIntOf, h0, h1]
theorem run_sliceBounds {P : Program} {w : World} {isS : Bool} {len cap : Nat} {lo hi mx : Option Int} {vlo vhi vmx : Option Value} (rl : bndR lo vlo) (rh : bndR hi vhi) (rm : bndR mx vmx)
    (h0 : 0 ≤ lo.getD 0) (h1 : lo.getD 0 ≤ hi.getD len) (h2 : hi.getD len ≤ mx.getD cap) (h3 : mx.getD cap ≤ cap) (_hlc : len ≤ cap) (h4 : mx.isSome = true → hi.isSome = true) :
    (Instr.sliceBounds isS len cap vlo vhi vmx).run P w = .ok ((lo.getD 0).toNat, (hi.getD len).toNat, (mx.getD cap).toNat) w := by
  cases mx <;> cases vmx <;> simp only [bndR] at rm <;> cases hi <;> cases vhi <;> simp only [bndR] at rh <;> cases lo <;> cases vlo <;> simp only [bndR] at rl <;>
    (try obtain ⟨k1, rfl⟩ := rm) <;> (try obtain ⟨k2, rfl⟩ := rh) <;> (try obtain ⟨k3, rfl⟩ := rl) <;>
    simp only [Option.getD_some, Option.getD_none, Option.isSome_some, Option.isSome_none, Bool.false_eq_true, forall_const, false_implies] at h0 h1 h2 h3 h4 ⊢ <;>
    simp only [Instr.sliceBounds, Sem.run_bind, Sem.run_pure, Result.andThen_ok, Int.toNat_natCast, Int.toNat_zero] <;>
    (repeat (rw [run_sliceBound (by omega) (by omega)]; simp only [Result.andThen_ok]))
theorem slice_sound {P : Program} {B : Tb} [TbOk B P] {t : TypeId} {T : TI} (hT : ti B t = some T) {E : Env} {τ : Hp} {w : World} (hh : Holds E τ w) {look : Nat → Option Ent} (hl : ∀ l e, look l = some e → aget τ l = some e)
    {x y : AV} {v : Value} {lo hi mx : Option Int} {vlo vhi vmx : Option Value} (rl : bndR lo vlo) (rh : bndR hi vhi) (rm : bndR mx vmx) (hx : VR E x v) (h : sliceE B T look x lo hi mx = some y) :
    ∃ u, (Instr.sliceAt t v vlo vhi vmx).run P w = .ok u w ∧ VR E y u := by
  unfold sliceE at h
  split at h
  · rename_i e hd
    split at h
    · rename_i U hU
      have run : ∀ (a : Option Addr) (len c : Nat), v = .slice a len c → 0 ≤ lo.getD 0 → lo.getD 0 ≤ hi.getD len → hi.getD len ≤ mx.getD c → mx.getD c ≤ c → len ≤ c → (mx.isSome = true → hi.isSome = true) →
          (Instr.sliceAt t v vlo vhi vmx).run P w = .ok (.slice (if (mx.getD c).toNat = (lo.getD 0).toNat then a else a.map (·.add ((lo.getD 0).toNat * U.size))) ((hi.getD len).toNat - (lo.getD 0).toNat) ((mx.getD c).toNat - (lo.getD 0).toNat)) w :=
        fun a len c hv a0 a1 a2 a3 a4 a5 => by
          subst hv
          simp only [Instr.sliceAt, Sem.run_bind, run_ti_underlying hT, Result.andThen_ok, hd]
          simp only [Instr.slice, Sem.run_bind, run_ti_underlying hT, Result.andThen_ok, hd, run_sliceBounds rl rh rm a0 a1 a2 a3 a4 a5, run_ti_size hU, Sem.run_pure]
      have hx' := normS_sound (U := U) hx
      generalize normS U x = x' at hx' h
      split at h
      · rename_i l i off len
        split at h
        · rename_i hc; obtain ⟨c0, c1, c2, c3, c4⟩ := hc
          have hmx : ∀ c : Nat, len ≤ c → hi.getD len ≤ mx.getD c ∧ mx.getD c ≤ c := fun c hc => by
            cases mx <;> simp at c2 c3 ⊢ <;> omega
          rcases slc_inv hx' with ⟨rfl, ⟨a, rfl⟩, L, hL⟩ | ⟨b, base, sz, cap, c, rfl, h1, h5, h6⟩
          · have hlo : lo.getD 0 = 0 := by omega
            have hhi : hi.getD ((0 : Nat) : Int) = 0 := by omega
            rw [if_pos hlo] at h; cases h
            refine ⟨_, run a 0 0 rfl c0 c1 (hmx 0 (by omega)).1 (hmx 0 (by omega)).2 (by omega) c4, ?_⟩
            have hm := hmx 0 (by omega)
            have hm0 : mx.getD ((0 : Nat) : Int) = 0 := by omega
            simp only [hlo, hhi, hm0, Int.toNat_zero, if_true, Nat.sub_self]
            exact .slcZ _ _ _ hL
          · have hm := hmx c h5
            have hrun := run _ len c rfl c0 c1 hm.1 hm.2 h5 c4
            split at h
            · rename_i hlo; cases h
              refine ⟨_, hrun, ?_⟩
              simp only [hlo, Int.toNat_zero, Nat.sub_zero, Nat.zero_mul]
              have hn : (hi.getD (len : Int)).toNat ≤ (mx.getD (c : Int)).toNat := by omega
              have e0 : (if (mx.getD (c : Int)).toNat = 0 then (some (⟨b, base + off * sz, none⟩ : Addr)) else Option.map (fun x : Addr => x.add 0) (some (⟨b, base + off * sz, none⟩ : Addr))) = some ⟨b, base + off * sz, none⟩ := by
                split <;> simp [Addr.add]
              rw [e0]
              exact .slc l h1 hn (by omega)
            · rename_i hlo
              split at h
              · rename_i en hen
                split at h
                · rename_i hid
                  split at h
                  · rename_i pu sz' xs hobj
                    split at h
                    · rename_i hsz; cases h
                      obtain ⟨L, h2, h3⟩ := hh.own l en (hl l en hen)
                      rw [hid, h1] at h2; cases h2
                      rw [hobj] at h3
                      cases h3 with
                      | row hw hr hcs hs hn' hb hf ho hzz =>
                        refine ⟨_, hrun, ?_⟩
                        have e1 : (hi.getD (len : Int)).toNat - (lo.getD 0).toNat = (hi.getD (len : Int) - lo.getD 0).toNat := by omega
                        rw [e1]
                        split
                        · rename_i hz
                          have e2 : (hi.getD (len : Int) - lo.getD 0).toNat = 0 := by omega
                          rw [e2, hz, Nat.sub_self]
                          exact .slcZ _ _ _ h1
                        · simp only [Option.map_some, add_none, ← hsz]
                          have := RR.slc (E := E) l (off := off + (lo.getD 0).toNat) (len := (hi.getD (len : Int) - lo.getD 0).toNat) (c := (mx.getD (c : Int)).toNat - (lo.getD 0).toNat) h1 (by omega) (by omega)
                          rw [Nat.add_mul, ← Nat.add_assoc] at this
                          exact this
                    · cases h
                  · cases h
                · cases h
              · cases h
        · cases h
      · rename_i ex sz xs
        split at h
        · rename_i hc; obtain ⟨c0, c1, c2, c3, c5, c4⟩ := hc
          cases h
          have hmx : ∀ c : Nat, xs.length ≤ c → hi.getD xs.length ≤ mx.getD c ∧ mx.getD c ≤ c := fun c hc => by
            cases mx <;> simp at c2 c3 ⊢ <;> omega
          have hylen : ((xs.drop (lo.getD 0).toNat).take (hi.getD (xs.length : Int) - lo.getD 0).toNat).length = (hi.getD (xs.length : Int)).toNat - (lo.getD 0).toNat := by
            have : hi.getD (xs.length : Int) ≤ xs.length := by have := (hmx xs.length (Nat.le_refl _)); omega
            simp; omega
          have hex : ∀ c : Nat, (ex = true → c = xs.length) → ((mx.isSome && mx.getD 0 == hi.getD (xs.length : Int)) || (mx.isNone && ex && hi.getD (xs.length : Int) == xs.length)) = true →
              (mx.getD (c : Int)).toNat = (hi.getD (xs.length : Int)).toNat := fun c hc he => by
            cases mx with
            | none =>
              simp at he
              obtain ⟨h1, h2⟩ := he
              simp [h2, hc h1]
            | some m => simp at he ⊢; rw [he]
          rcases lst_invP hx' with ⟨rfl, a, c, rfl, h6⟩ | ⟨b, off, cp, c, t', fz, cs, rest, rfl, h1, h2, h3, h4, h5, h6, ho⟩
          · have hm := hmx c (by simp)
            refine ⟨_, run a 0 c rfl c0 (by simpa using c1) (by simpa using hm.1) hm.2 (by omega) c4, ?_⟩
            simp only [List.drop_nil, List.take_nil, List.length_nil] at *
            have hz : lo.getD 0 = 0 ∧ hi.getD ((0 : Nat) : Int) = 0 := by
              have := (hmx 0 (by omega)); omega
            have e1 : (hi.getD ((0 : Nat) : Int)).toNat - (lo.getD 0).toNat = 0 := by omega
            rw [e1]
            refine .lstE _ _ fun he => ?_
            have := hex c h6 he
            omega
          · have hm := hmx cp h5
            refine ⟨_, run _ xs.length cp rfl c0 c1 hm.1 hm.2 h5 c4, ?_⟩
            by_cases hemp : (xs.drop (lo.getD 0).toNat).take (hi.getD (xs.length : Int) - lo.getD 0).toNat = []
            · rw [hemp] at hylen ⊢
              rw [show (hi.getD (xs.length : Int)).toNat - (lo.getD 0).toNat = 0 by simpa using hylen.symm]
              refine .lstE _ _ fun he => ?_
              have := hex cp h6 he
              simp at hylen
              omega
            · have hpos : 0 < (hi.getD (xs.length : Int)).toNat - (lo.getD 0).toNat := by
                rw [← hylen]; exact List.length_pos_iff.2 hemp
              rw [if_neg (by omega)]
              simp only [Option.map_some, add_none]
              have e1 : xs = xs.take (lo.getD 0).toNat ++ ((xs.drop (lo.getD 0).toNat).take (hi.getD (xs.length : Int) - lo.getD 0).toNat ++ (xs.drop (lo.getD 0).toNat).drop (hi.getD (xs.length : Int) - lo.getD 0).toNat) := by
                rw [List.take_append_drop, List.take_append_drop]
              have h2' := h2
              rw [e1] at h2'
              obtain ⟨d1, d23, rfl, h7, h8⟩ := h2'.cs_append_inv
              obtain ⟨d2, d3, rfl, h9, h10⟩ := h8.cs_append_inv
              have hl1 : d1.length = (lo.getD 0).toNat * sz := by
                rw [h7.cs_length, AV.fszs_uniform fun y hy => h4 y (List.mem_of_mem_take hy), List.length_take, Nat.min_eq_left (by omega)]
              refine .lst (rest := d3 ++ rest) h1 h9 ?_ (fun y hy => h4 y (List.mem_of_mem_drop (List.mem_of_mem_take hy))) hylen (by omega) (fun he => ?_) (fun u hu => ho u (by simp [hu]))
              · rw [← c5, ← List.drop_drop, h3, ← hl1, List.append_assoc, List.drop_left]; simp
              · have := hex cp h6 he
                omega
        · cases h
      · cases h
    · cases h
  · rename_i hd
    split at h
    · rename_i s
      split at h
      · rename_i hc; obtain ⟨c0, c1, c2, c3⟩ := hc
        cases h
        have := hx.lit_inv; subst this
        cases mx with
        | some m => simp at c3
        | none =>
          cases vmx with
          | some _ => simp only [bndR] at rm
          | none =>
            refine ⟨_, ?_, .lit _⟩
            simp only [Instr.sliceAt, Sem.run_bind, run_ti_underlying hT, Result.andThen_ok, hd]
            simp only [Instr.slice, Sem.run_bind, run_ti_underlying hT, Result.andThen_ok, hd, Option.isSome_none, Bool.false_eq_true, if_false]
            rw [run_sliceBounds (mx := none) (vmx := none) rl rh trivial c0 c1 (by simpa using c2) (by simp) (Nat.le_refl _) (by simp)]
            simp
      · cases h
    · cases h
  · cases h
end
end Go.AS
