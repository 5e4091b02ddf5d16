/- A function proved elsewhere that turns an array of bytes to a text. -/
import Derived.Test.YtnenknghinpliaaGreatDoorASext
import Derived.Below
namespace Go.AS
open Go.RowKit
noncomputable section

theorem Holds.below {E : Env} {σ : Hp} {w w' : World} (hh : Holds E σ w) (h : Below w.heap.size w w') : Holds E σ w' ∧ Adv E σ w E σ w' := by
  refine ⟨⟨fun b o hb => (h.block b (hh.m_lt hb)).trans (hh.imm b o hb), fun l e he => ?_, hh.apart, hh.inj⟩, ⟨E.le_refl, h.os, h.tape, h.output, h.size, fun b hb _ => h.block b hb, fun b hb => .inl hb, fun b hb => .inl hb⟩⟩
  obtain ⟨L, h1, h2⟩ := hh.own l e he
  exact ⟨L, h1, h2.keep E.le_refl fun b hb => h.block b (hh.own_lt ⟨l, e, L, he, h1, hb⟩)⟩
def byteV : Value → Option Nat
  | .int k n => match k with
    | .u8 => match n with
      | .ofNat m => bsel (Nat.blt m 256) (some m) none
      | _ => none
    | _ => none
  | _ => none
theorem byteV_sound {v : Value} {n : Nat} (h : byteV v = some n) : v = .int .u8 n ∧ n < 256 := by
  unfold byteV at h
  split at h
  · split at h
    · split at h
      · obtain ⟨h1, h2⟩ := bsel_some h
        cases h2
        exact ⟨rfl, Nat.lt_of_lt_of_le (Nat.lt_succ_of_le (Nat.le_refl _)) (Nat.le_of_ble_eq_true h1)⟩
      · cases h
    · cases h
  · cases h
def byteVs : List Value → Option (List Nat)
  | [] => some []
  | v :: r => match byteV v with
    | some n => match byteVs r with
      | some l => some (n :: l)
      | none => none
    | none => none
theorem byteVs_sound : ∀ {vs : List Value} {l : List Nat}, byteVs vs = some l → vs = l.map (fun (n : Nat) => Value.int .u8 n) ∧ ∀ n ∈ l, n < 256
  | [], l, h => by cases h; exact ⟨rfl, fun n hn => (by cases hn)⟩
  | v :: r, l, h => by
    unfold byteVs at h
    split at h
    · rename_i n hn
      split at h
      · rename_i l' hl'; cases h
        obtain ⟨h1, h2⟩ := byteV_sound hn
        obtain ⟨h3, h4⟩ := byteVs_sound hl'
        exact ⟨by rw [h1, h3]; rfl, fun m hm => by rcases List.mem_cons.1 hm with rfl | hm; exact h2; exact h4 m hm⟩
      · cases h
    · cases h
def textX (ln : Nat) (g : List Nat → List UInt8) : Id → Nat → List AV → Hp → Option Res := fun _ _ xs _ => match xs with
  | [x] => match valN 6 x with
    | some v => match v with
      | .agg cs => match byteVs cs.toList with
        | some l => bsel (Nat.beq l.length ln) (some ⟨.lit (.string ⟨(g l).toArray⟩), [], true⟩) none
        | none => none
      | _ => none
    | none => none
  | _ => none
theorem textX_ok {C : Cx} {f : FuncId} {ln : Nat} {g : List Nat → List UInt8} (hent : ∀ args w, (callFunc f args).run C.P w = .ok (.enter f args) w)
    (hc : ∀ (cells : Array Value) (l : List Nat) (w : World), cells.toList = l.map (fun (n : Nat) => Value.int .u8 n) → l.length = ln → (∀ n ∈ l, n < 256) → Calls C.P f #[.agg cells] w fun e w' => e = .returned (.string ⟨(g l).toArray⟩) ∧ Below w.heap.size w w') : CtOk C f (.det (textX ln g)) := by
  intro p d xs σ K hk E w vals hg hh hp hv
  simp only [Ct.asks] at hk
  split at hk
  · rename_i r hr
    unfold textX at hr
    split at hr
    · rename_i x
      split at hr
      · rename_i v hx
        split at hr
        · rename_i cs
          split at hr
          · rename_i l hl
            obtain ⟨h1, hr⟩ := bsel_some hr
            cases hr
            obtain ⟨v', vs, h2, h3, rfl⟩ := hv.vs_cons_inv
            obtain rfl := h3.vs_nil_inv
            obtain rfl := valN_sound h2 hx
            obtain ⟨h4, h5⟩ := byteVs_sound hl
            refine .inl ⟨hent _ _, (hc cs l w h4 (by simpa using h1) h5).mono ?_⟩
            rintro e w' ⟨rfl, hb⟩
            obtain ⟨k1, k2⟩ := hh.below hb
            exact ⟨_, rfl, E, _, [], hk.2, .lit _, k1, k2, .refl _ _⟩
          · cases hr
        · cases hr
      · cases hr
    · cases hr
  · exact hk.elim
end
end Go.AS
