/- Functions without a body that read memory: bytes compared; a map's clone. -/
import Derived.Test.YtnenknghinpliaaGreatDoorASext
namespace Go.AS
noncomputable section

/-- A string's or a slice's bytes. -/
def bytesX (σ : Hp) (x : AV) : Option (List UInt8) := match x with
  | .lit (.string s) => some s.data.toList
  | x => match elemsP (aget σ) 1 x with
    | some q => bytesOf q.2
    | none => none
theorem run_loadBytes {P : Program} {w : World} {b : Nat} {c : Array Value} {t : TypeId} {fz : Nat × Nat} (h : w.heap[b]? = some (.cells c t fz)) : ∀ (ns : List Int) (o : Nat) (rest : List Value) (acc : ByteArray), c.toList.drop o = ns.map (Value.int .u8) ++ rest →
    (Extern.Bytes.loadBytes ⟨b, o, none⟩ ns.length acc).run P w = .ok ⟨(acc.data.toList ++ ns.map (fun n => n.toNat.toUInt8)).toArray⟩ w
  | [], o, rest, acc, _ => by simp [Extern.Bytes.loadBytes]
  | n :: ns, o, rest, acc, hd => by
    have h0 : c[o]? = some (.int .u8 n) := by
      have := congrArg (·[0]?) hd
      simpa using this
    have h1 : c.toList.drop (o + 1) = ns.map (Value.int .u8) ++ rest := by
      have := congrArg (List.drop 1) hd
      simpa [Nat.add_comm] using this
    have ih := run_loadBytes (P := P) h ns (o + 1) rest (acc.push n.toNat.toUInt8) h1
    rw [List.length_cons, Extern.Bytes.loadBytes]
    simp only [Sem.run_bind, run_load_cell h h0, Result.andThen_ok, add_none, ih]
    congr 2
    simp
theorem bytesX_sound {P : Program} {E : Env} {σ : Hp} {w : World} (hh : Holds E σ w) {x : AV} {v : Value} {l : List UInt8} (hx : VR E x v) (h : bytesX σ x = some l) : (Extern.Bytes.bytesOf v).run P w = .ok ⟨l.toArray⟩ w := by
  unfold bytesX at h
  split at h
  · cases h
    have := hx.lit_inv; subst this
    simp [Extern.Bytes.bytesOf]
  · split at h
    · rename_i q hq
      obtain ⟨h1, a, c, rfl, h2, h3⟩ := elemsP_sound hh (fun _ _ h => h) (pu := q.1) (xs := q.2) hx hq
      rcases h3 with h3 | ⟨b, o, cells, t, fz, cs, rest, rfl, g1, g2, g3, g4⟩
      · rw [h3] at h; cases h
        rw [h3]
        cases a <;> simp [Extern.Bytes.bytesOf, Extern.Bytes.loadBytes] <;> rfl
      · obtain ⟨ns, rfl, hl⟩ := bytesOf_sound g2 h
        have hlen : q.2.length = ns.length := by
          have := g2.cs_length
          rw [AV.fszs_uniform h1] at this
          simpa using this.symm
        rw [hlen]
        simp only [Extern.Bytes.bytesOf]
        rw [run_loadBytes g1 ns o rest .empty g3]
        rw [← hl]
        congr 2
    · cases h
def compareX : Id → Nat → List AV → Hp → Option Res := fun _ _ xs σ => match xs with
  | [x, y] => match bytesX σ x, bytesX σ y with
    | some a, some b => some ⟨.lit (.int .i64 (Extern.BytealgCompare.cmp ⟨a.toArray⟩ ⟨b.toArray⟩)), [], true⟩
    | _, _ => none
  | _ => none
theorem compareX_ok {C : Cx} {f : FuncId} {fn : Func} (h : IsExt C.P f fn Extern.BytealgCompare.compare) : CtOk C f (.det compareX) := by
  intro p d xs σ K hk E w vals hg hh hp hv
  simp only [Ct.asks] at hk
  split at hk
  · rename_i r hr
    unfold compareX at hr
    split at hr
    · rename_i x y
      split at hr
      · rename_i a b ha hb; cases hr
        obtain ⟨v, vs, h1, h2, rfl⟩ := hv.vs_cons_inv
        obtain ⟨u, us, h3, h4, rfl⟩ := h2.vs_cons_inv
        obtain rfl := h4.vs_nil_inv
        refine .inr ⟨_, w, ?_, E, _, [], hk.2, .lit _, hh, .refl _ _ _, .refl _ _⟩
        rw [h.run]
        show ((Extern.BytealgCompare.compare #[v, u]).run C.P w).andThen _ = _
        have ec : Extern.BytealgCompare.compare #[v, u] = (do pure (goInt (Extern.BytealgCompare.cmp (← Extern.Bytes.bytesOf v) (← Extern.Bytes.bytesOf u)))) := rfl
        simp only [ec, Sem.run_bind, bytesX_sound hh h1 ha, bytesX_sound hh h3 hb, Result.andThen_ok, Sem.run_pure]
        rfl
      · cases hr
    · cases hr
  · exact hk.elim
/-- A map's clone: its entries, with their stamps. -/
def cloneX : Id → Nat → List AV → Hp → Option Res := fun p _ xs σ => match xs with
  | [.iface t (.mp l i)] => match aget σ l with
    | some e => match decide (e.id = i) with
      | true => match e.obj with
        | .map pu bs ck ks vs => some ⟨.iface t (.mp (enc p) p), [(enc p, ⟨p, .map pu bs ck ks vs⟩)], true⟩
        | _ => none
      | false => none
    | none => none
  | _ => none
theorem cloneX_ok {C : Cx} {f : FuncId} {fn : Func} (h : IsExt C.P f fn Extern.MapsClone.clone) : CtOk C f (.det cloneX) := by
  intro p d xs σ K hk E w vals hg hh hp hv
  simp only [Ct.asks] at hk
  split at hk
  · rename_i r hr
    unfold cloneX at hr
    split at hr
    · rename_i t l i
      split at hr
      · rename_i e he
        split at hr
        · rename_i hid
          have hid := of_decide_eq_true hid
          split at hr
          · rename_i pu bs ck ks vs hobj; cases hr
            obtain ⟨v, vs', h1, h2, rfl⟩ := hv.vs_cons_inv
            obtain rfl := h2.vs_nil_inv
            obtain ⟨u, rfl, h3⟩ := h1.iface_inv
            cases h3 with
            | mp _ hρ =>
              obtain ⟨L, k1, k2⟩ := hh.own l e he
              rw [hid, hρ] at k1; cases k1
              rw [hobj] at k2
              cases k2 with
              | map hw hks hus hvs hb hnd hbs =>
                rename_i b base sz cap es us
                have hle : E.le (E.name p (.at w.heap.size 0 0 0)) := Env.name_le (hp p (List.suffix_refl _))
                obtain ⟨q1, q2⟩ := hh.new hp (.map es ck) 0 0 0 (enc p) (.map pu bs ck ks vs) (.map (by show (w.heap.push _)[w.heap.size]? = _; simp) hks hus (hvs.mono (hle.sel _)) hb hnd hbs)
                refine .inr ⟨_, _, ?_, _, _, _, hk.2, .iface _ (.mp _ (Env.name_self ..)), q1, q2, Env.name_newIn⟩
                rw [h.run]
                have hg' : (getObj b).run C.P w = .ok (.map es ck) w := by simp only [getObj, Sem.run, hw]
                show ((Extern.MapsClone.clone #[.iface t (.map (some b))]).run C.P w).andThen _ = _
                have ec : Extern.MapsClone.clone #[.iface t (.map (some b))] = (do
                  let .map entries clock ← getObj b | stuck "maps.clone: a map expected"
                  pure (.iface t (.map (some (← newObj (.map entries clock)))))) := rfl
                simp only [ec, Sem.run_bind, hg', Result.andThen_ok, Sem.run_pure, newObj, Sem.run]
                rfl
          · cases hr
        · cases hr
      · cases hr
    · cases hr
  · exact hk.elim
end
end Go.AS
