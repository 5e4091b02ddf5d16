/- A strings.Builder's WriteString and String, and strings.Join, proved elsewhere: what they do to pieces of memory. -/
import Derived.Test.YtnenknghinpliaaGreatDoorASsu
import Derived.Lib.AppendStr
import Derived.Lib.Join
namespace Go.AS
open Go.RowKit
noncomputable section

def isNilS : AV → Bool
  | .lit v => match v with
    | .slice a n c => match a, n, c with
      | none, 0, 0 => true
      | _, _, _ => false
    | _ => false
  | _ => false
theorem isNilS_sound {x : AV} (h : isNilS x = true) : x = .lit (.slice none 0 0) := by
  unfold isNilS at h
  split at h
  · split at h
    · split at h
      · rfl
      · cases h
    · cases h
  · cases h
theorem byteVals_length (l : List UInt8) : (l.map fun x => Value.int .u8 x.toNat).length = l.length := by simp
/-- A builder and its bytes in a world. -/
structure BldW (T te b : Nat) (v : Value) (bs : List UInt8) (w : World) : Prop where
  cell : ∃ u, w.heap[b]? = some (.cells #[u, v] T (0, 0)) ∧ (u = .pointer none ∨ u = .pointer (some ⟨b, 0, none⟩))
  row : w.ownsRow 0 te 1 v bs.length (Lib.strCells ⟨bs.toArray⟩)
  ne : v.ownBlock ≠ some b
/-- From a world to a later one: two blocks may be others, what is new lies behind. -/
structure BldN (b : Nat) (v : Value) (w w' : World) : Prop where
  os : w'.os = w.os
  tape : w'.tape = w.tape
  output : w'.output = w.output
  size : w.heap.size ≤ w'.heap.size
  block : ∀ k, k < w.heap.size → k ≠ b → some k ≠ v.ownBlock → w'.heap[k]? = w.heap[k]?

/-- Two pieces are written anew: the one under its old name, the other one under a new one. -/
theorem Holds.two {E : Env} {σ : Hp} {w w' : World} (hh : Holds E σ w) {p : Id} (hp : Fresh E p) {l m : Nat} (hlm : m ≠ l) {i : Id} {o o1 o2 : AObj} {b base sz cap : Nat} (hl : aget σ l = some ⟨i, o⟩) (hi : E.ρ i = some (.at b base sz cap))
    {v : Value} (hv : ∀ k, v.ownBlock = some k → Own E σ k ∧ ∃ e, aget σ m = some e ∧ ∃ L, E.ρ e.id = some L ∧ L.blk? = some k)
    (hn : BldN b v w w') {L : Loc} {g : Nat} (hg : L.blk? = some g) (hgb : g ≠ b) (hgn : v.ownBlock = some g ∨ w.heap.size ≤ g)
    (h1 : ObjR (E.name p L) w' o1 (.at b base sz cap)) (h2 : ObjR (E.name p L) w' o2 L) :
    Holds (E.name p L) (aset (aset σ m ⟨p, o2⟩) l ⟨i, o1⟩) w' ∧ Adv E σ w (E.name p L) (aset (aset σ m ⟨p, o2⟩) l ⟨i, o1⟩) w' := by
  have hle : E.le (E.name p L) := Env.name_le (hp p (List.suffix_refl _))
  have hip : i ≠ p := by rintro rfl; rw [hp _ (List.suffix_refl _)] at hi; cases hi
  have hib : (E.name p L).ρ i = some (.at b base sz cap) := hle.ρ _ _ hi
  have hob : Own E σ b := ⟨l, _, _, hl, hi, rfl⟩
  have hget : ∀ l' e', aget (aset (aset σ m ⟨p, o2⟩) l ⟨i, o1⟩) l' = some e' → (l' = l ∧ e' = ⟨i, o1⟩) ∨ (l' ≠ l ∧ l' = m ∧ e' = ⟨p, o2⟩) ∨ (l' ≠ l ∧ l' ≠ m ∧ aget σ l' = some e') := fun l' e' h => by
    rw [aget_aset] at h
    split at h
    · rename_i hq; cases h; exact .inl ⟨hq.symm ▸ rfl, rfl⟩
    · rename_i hq
      rw [aget_aset] at h
      split at h
      · rename_i hq2; cases h; exact .inr (.inl ⟨fun e => hq (e ▸ rfl), hq2.symm ▸ rfl, rfl⟩)
      · rename_i hq2; exact .inr (.inr ⟨fun e => hq (e ▸ rfl), fun e => hq2 (e ▸ rfl), h⟩)
  -- another piece's block
  have oth : ∀ l' e' L' k, l' ≠ l → l' ≠ m → aget σ l' = some e' → E.ρ e'.id = some L' → L'.blk? = some k → k ≠ b ∧ some k ≠ v.ownBlock ∧ k < w.heap.size := fun l' e' L' k q1 q2 q3 q4 q5 => by
    refine ⟨?_, ?_, hh.own_lt ⟨l', e', L', q3, q4, q5⟩⟩
    · rintro rfl; exact q1 (hh.inj _ _ _ _ _ _ _ q3 hl q4 hi q5 rfl)
    · intro hq
      obtain ⟨_, e2, r1, L2, r2, r3⟩ := hv k hq.symm
      exact q2 (hh.inj _ _ _ _ _ _ _ q3 r1 q4 r2 q5 r3)
  have hown : ∀ k, Own (E.name p L) (aset (aset σ m ⟨p, o2⟩) l ⟨i, o1⟩) k → Own E σ k ∨ k = g := fun k hk => by
    obtain ⟨l', e', L', q1, q2, q3⟩ := hk
    rcases hget l' e' q1 with ⟨_, rfl⟩ | ⟨_, _, rfl⟩ | ⟨_, _, q4⟩
    · rw [hib] at q2; cases q2; cases q3; exact .inl hob
    · rw [Env.name_self] at q2; cases q2; rw [hg] at q3; cases q3; exact .inr rfl
    · obtain ⟨L2, r1, r2⟩ := hh.own l' e' q4
      have := hle.ρ _ _ r1
      rw [q2] at this; cases this
      exact .inl ⟨l', e', _, q4, r1, q3⟩
  have hgm : E.m g = none := by
    rcases hgn with h | h
    · exact hh.apart g (hv g h).1
    · cases hm : E.m g with
      | none => rfl
      | some o' => have := hh.m_lt hm; omega
  refine ⟨⟨fun k o' h => ?_, fun l' e' h => ?_, fun k hk => ?_, ?_⟩, ⟨hle, hn.os, hn.tape, hn.output, hn.size, fun k hk ho => ?_, fun k hk => ?_, fun k hk => .inl hk⟩⟩
  · have hm : E.m k = some o' := h
    rw [hn.block k (hh.m_lt hm) (fun e => by have := hh.apart b hob; rw [← e, hm] at this; cases this) (fun e => by have := hh.apart k (hv k e.symm).1; rw [hm] at this; cases this)]
    exact hh.imm k o' hm
  · rcases hget l' e' h with ⟨_, rfl⟩ | ⟨_, _, rfl⟩ | ⟨q1, q2, q4⟩
    · exact ⟨_, hib, h1⟩
    · exact ⟨_, Env.name_self .., h2⟩
    · obtain ⟨L2, r1, r2⟩ := hh.own l' e' q4
      refine ⟨L2, hle.ρ _ _ r1, r2.keep hle fun k hk => ?_⟩
      obtain ⟨s1, s2, s3⟩ := oth l' e' L2 k q1 q2 q4 r1 hk
      exact hn.block k s3 s1 s2
  · rcases hown k hk with h | rfl
    · exact hh.apart k h
    · exact hgm
  · intro l1 l2 e1 e2 L1 L2 k q1 q2 q3 q4 q5 q6
    have old : ∀ l' e' L', aget σ l' = some e' → (E.name p L).ρ e'.id = some L' → E.ρ e'.id = some L' := fun l' e' L' r1 r2 => by
      obtain ⟨L3, r3, _⟩ := hh.own l' e' r1
      have := hle.ρ _ _ r3
      rw [r2] at this; cases this; exact r3
    have nog : ∀ l' e' L', l' ≠ l → l' ≠ m → aget σ l' = some e' → (E.name p L).ρ e'.id = some L' → L'.blk? ≠ some g := fun l' e' L' r1 r2 r3 r4 r5 => by
      obtain ⟨s1, s2, s3⟩ := oth l' e' L' g r1 r2 r3 (old _ _ _ r3 r4) r5
      rcases hgn with h | h
      · exact s2 h.symm
      · omega
    rcases hget l1 e1 q1 with ⟨rfl, rfl⟩ | ⟨t1, rfl, rfl⟩ | ⟨t1, t2, t3⟩ <;> rcases hget l2 e2 q2 with ⟨rfl, rfl⟩ | ⟨u1, rfl, rfl⟩ | ⟨u1, u2, u3⟩
    · rfl
    · rw [hib] at q3; cases q3; cases q5; rw [Env.name_self] at q4; cases q4; rw [hg] at q6; cases q6; exact absurd rfl hgb
    · rw [hib] at q3; cases q3; cases q5
      exact absurd rfl (oth l2 e2 L2 b u1 u2 u3 (old _ _ _ u3 q4) q6).1
    · rw [hib] at q4; cases q4; cases q6; rw [Env.name_self] at q3; cases q3; rw [hg] at q5; cases q5; exact absurd rfl hgb
    · rfl
    · rw [Env.name_self] at q3; cases q3; rw [hg] at q5; cases q5
      exact absurd q6 (nog l2 e2 L2 u1 u2 u3 q4)
    · rw [hib] at q4; cases q4; cases q6
      exact absurd rfl (oth l1 e1 L1 b t1 t2 t3 (old _ _ _ t3 q3) q5).1
    · rw [Env.name_self] at q4; cases q4; rw [hg] at q6; cases q6
      exact absurd q5 (nog l1 e1 L1 t1 t2 t3 q3)
    · exact hh.inj _ _ _ _ _ _ _ t3 u3 (old _ _ _ t3 q3) (old _ _ _ u3 q4) q5 q6
  · exact hn.block k hk (fun e => ho (e ▸ hob)) (fun e => ho (hv k e.symm).1)
  · rcases hown k hk with h | rfl
    · exact .inl h
    · rcases hgn with h | h
      · exact .inl (hv _ h).1
      · exact .inr h

/-! WriteString. -/
def wsD (T te : TypeId) : Id → Nat → List AV → Hp → Option Res := fun p d xs σ => match xs with
  | [x, y] => match x, y with
    | .ptr l i 0 0, .lit (.string s) => match aget σ l with
      | some e => match decide (e.id = i), e.obj with
        | true, .bld t z => match Nat.beq t T, Nat.beq s.size 0 with
          | true, false => match isNilS z with
            | true => match Nat.beq d l, Nat.ble s.size 140737488355328 with
              | false, true => some ⟨.lit (.tuple #[.int .i64 s.size, .nilIface]), [(d, ⟨p, .buf te s.data.toList⟩), (l, ⟨i, .bld t (.slc d p 0 s.size)⟩)], true⟩
              | _, _ => none
            | false => match z with
              | .slc m j 0 n => match Nat.beq m l, aget σ m with
                | false, some f => match decide (f.id = j), f.obj with
                  | true, .buf t2 bs => match Nat.beq t2 te, Nat.beq n bs.length, Nat.ble (bs.length + s.size) 140737488355328 with
                    | true, true, true => some ⟨.lit (.tuple #[.int .i64 s.size, .nilIface]), [(m, ⟨p, .buf te (bs ++ s.data.toList)⟩), (l, ⟨i, .bld t (.slc m p 0 (bs.length + s.size))⟩)], true⟩
                    | _, _, _ => none
                  | _, _ => none
                | _, _ => none
              | _ => none
          | _, _ => none
        | _, _ => none
      | none => none
    | _, _ => none
  | _ => none
def WsOk (P : Program) (f T te : Nat) : Prop := ∀ (b : Nat) (v : Value) (bs : List UInt8) (s : ByteArray) (w : World), BldW T te b v bs w → bs.length + s.size ≤ 140737488355328 → s.size ≠ 0 →
  Calls P f #[.pointer (some ⟨b, 0, none⟩), .string s] w fun e w' => e = .returned (.tuple #[.int .i64 s.size, .nilIface]) ∧ ∃ v', BldW T te b v' (bs ++ s.data.toList) w' ∧ BldN b v w w' ∧ ∀ g, v'.ownBlock = some g → v.ownBlock = some g ∨ w.heap.size ≤ g
theorem ws_fin {T te : Nat} {E : Env} {σ : Hp} {w w' : World} (hh : Holds E σ w) {p : Id} (hp : Fresh E p) {l m : Nat} (hlm : m ≠ l) {i : Id} {o : AObj} {b : Nat} (hl : aget σ l = some ⟨i, o⟩) (hi : E.ρ i = some (.at b 0 2 1))
    {v : Value} (hv : ∀ k, v.ownBlock = some k → Own E σ k ∧ ∃ e, aget σ m = some e ∧ ∃ L, E.ρ e.id = some L ∧ L.blk? = some k) {v' : Value} {bs : List UInt8} (hb0 : bs.length ≠ 0) (h1 : BldW T te b v' bs w') (h2 : BldN b v w w')
    (h3 : ∀ g, v'.ownBlock = some g → v.ownBlock = some g ∨ w.heap.size ≤ g) :
    ∃ E', Holds E' (aset (aset σ m ⟨p, .buf te bs⟩) l ⟨i, .bld T (.slc m p 0 bs.length)⟩) w' ∧ Adv E σ w E' (aset (aset σ m ⟨p, .buf te bs⟩) l ⟨i, .bld T (.slc m p 0 bs.length)⟩) w' ∧ NewIn E E' p := by
  obtain ⟨⟨u, hc, hu⟩, ⟨hrl, hr⟩, hne⟩ := h1
  rcases hr with ⟨_, h0⟩ | ⟨g, cap, cur, rfl, _, hg, hn, hm, hcs, ht⟩
  · exact absurd h0 hb0
  · have hgb : g ≠ b := fun e => hne (by rw [e]; rfl)
    rw [Nat.mul_one] at hcs ht
    have := hh.two hp (m := m) hlm hl hi hv h2 (L := .at g 0 1 cap) (g := g) rfl hgb (h3 g rfl) (o1 := .bld T (.slc m p 0 bs.length)) (o2 := .buf te bs)
      (.bld hc hu (.inr ⟨_, _, _, _, _, rfl, Env.name_self .., rfl⟩))
      (.buf hg hcs hn hm (by rw [ht]; simp [Lib.strCells]))
    exact ⟨_, this.1, this.2, Env.name_newIn⟩
theorem wsD_ok {C : Cx} {f : FuncId} {T te : Nat} (hent : ∀ args w, (callFunc f args).run C.P w = .ok (.enter f args) w) (hws : WsOk C.P f T te) : CtOk C f (.det (wsD T te)) := by
  intro p d xs σ K hk E w vals hg hh hp hv
  simp only [Ct.asks] at hk
  split at hk
  · rename_i r hr
    unfold wsD at hr
    split at hr
    · rename_i x y
      split at hr
      · rename_i l i s
        obtain ⟨v1, vs, h1, h2, rfl⟩ := hv.vs_cons_inv
        obtain ⟨v2, vs2, h3, h4, rfl⟩ := h2.vs_cons_inv
        obtain rfl := h4.vs_nil_inv
        obtain rfl := h3.lit_inv
        obtain ⟨b, base, sz, cap, h5, rfl⟩ := h1.ptr_inv
        split at hr
        · rename_i e he
          split at hr
          · rename_i t z hid hobj
            have hid := of_decide_eq_true hid
            have hel : aget σ l = some ⟨i, .bld t z⟩ := by rw [he]; cases e; simp only at hid hobj; rw [hid, hobj]
            split at hr
            · rename_i ht hs0
              obtain rfl := Nat.eq_of_beq_eq_true ht
              have hs0 : s.size ≠ 0 := fun h => by rw [h] at hs0; cases hs0
              obtain ⟨L, h6, h7⟩ := hh.own l _ hel
              rw [h5] at h6; cases h6
              cases h7 with
              | bld hc hu hz =>
              rename_i u0 v0
              simp only [Nat.zero_mul, Nat.zero_add]
              have hsl : s.data.toList.length = s.size := by rw [Array.length_toList]; rfl
              split at hr
              · rename_i hnil
                obtain rfl := isNilS_sound hnil
                have hzv : v0 = Value.slice none 0 0 := by
                  rcases hz with ⟨_, h⟩ | ⟨_, _, _, _, _, h, _⟩
                  · exact h
                  · cases h
                subst hzv
                split at hr
                · rename_i hdl hsz; cases hr
                  have hdl : d ≠ l := fun h => by rw [h, Nat.beq_refl] at hdl; cases hdl
                  refine .inl ⟨hent _ _, (hws b (.slice none 0 0) [] s w ⟨⟨_, hc, hu⟩, World.ownsRow_nil _ _ _ _, by simp [Value.ownBlock]⟩ (by simpa using Nat.le_of_ble_eq_true hsz) hs0).mono ?_⟩
                  rintro e w' ⟨rfl, v', g1, g2, g3⟩
                  obtain ⟨E', k1, k2, k3⟩ := ws_fin hh hp hdl hel h5 (v := .slice none 0 0) (fun k hk => by simp [Value.ownBlock] at hk) (by rw [List.nil_append, hsl]; exact hs0) g1 g2 g3
                  rw [List.nil_append, hsl] at k1 k2
                  exact ⟨_, rfl, E', _, _, hk.2, .lit _, k1, k2, k3⟩
                · cases hr
              · split at hr
                · rename_i m j n _
                  split at hr
                  · rename_i fe hml hf
                    have hml : m ≠ l := fun h => by rw [h, Nat.beq_refl] at hml; cases hml
                    split at hr
                    · rename_i t2 bs hfid hfobj
                      have hfid := of_decide_eq_true hfid
                      have hfl : aget σ m = some ⟨j, .buf t2 bs⟩ := by rw [hf]; cases fe; simp only at hfid hfobj; rw [hfid, hfobj]
                      split at hr
                      · rename_i ht2 hn hsz; cases hr
                        obtain rfl := Nat.eq_of_beq_eq_true ht2
                        obtain rfl := Nat.eq_of_beq_eq_true hn
                        obtain ⟨L2, q1, q2⟩ := hh.own m _ hfl
                        cases q2 with
                        | buf gc gs gn gm gb =>
                        rename_i g gcap cc
                        rcases hz with ⟨h, _⟩ | ⟨m', j', n', g', cap', h, r1, rfl⟩
                        · cases h
                        cases h
                        rw [r1] at q1; cases q1
                        have hrow : w.ownsRow 0 t2 1 (.slice (some ⟨g, 0, none⟩) bs.length gcap) bs.length (Lib.strCells ⟨bs.toArray⟩) :=
                          ⟨by simp [Lib.strCells], .inr ⟨g, gcap, cc, rfl, Nat.zero_le _, gc, gn, gm, by rw [gs, Nat.mul_one], by rw [Nat.mul_one, gb]; simp [Lib.strCells]⟩⟩
                        have hgb : g ≠ b := fun e => hml (hh.inj _ _ _ _ _ _ _ hfl hel r1 h5 rfl (by rw [e]; rfl))
                        refine .inl ⟨hent _ _, (hws b _ bs s w ⟨⟨_, hc, hu⟩, hrow, fun e => hgb (by cases e; rfl)⟩ (Nat.le_of_ble_eq_true hsz) hs0).mono ?_⟩
                        rintro e w' ⟨rfl, v', g1, g2, g3⟩
                        obtain ⟨E', k1, k2, k3⟩ := ws_fin hh hp hml hel h5 (fun k hk => by
                          cases hk
                          exact ⟨⟨m, _, _, hfl, r1, rfl⟩, _, hfl, _, r1, rfl⟩) (by rw [List.length_append, hsl]; omega) g1 g2 g3
                        rw [List.length_append, hsl] at k1 k2
                        exact ⟨_, rfl, E', _, _, hk.2, .lit _, k1, k2, k3⟩
                      · cases hr
                    · cases hr
                  · cases hr
                · cases hr
            · cases hr
          · cases hr
        · cases hr
      · cases hr
    · cases hr
  · exact hk.elim
def wsX (T te : TypeId) : Id → Nat → List AV → Hp → Option Res := fun p _ xs σ => wsD T te p (enc p) xs σ
theorem wsX_ok {C : Cx} {f : FuncId} {T te : Nat} (hent : ∀ args w, (callFunc f args).run C.P w = .ok (.enter f args) w) (hws : WsOk C.P f T te) : CtOk C f (.det (wsX T te)) :=
  fun p _ xs σ K hk => wsD_ok hent hws p (enc p) xs σ K hk

/-! String: the builder's pieces are let go. -/
theorem Holds.gone {E E' : Env} {σ σ' : Hp} {w w' : World} (hh : Holds E' σ' w) (ha : Adv E σ w E' σ' w) (hm : ∀ k, E'.m k = E.m k) {b : Nat} {v : Value} (hb : Own E σ b) (hv : ∀ k, v.ownBlock = some k → Own E σ k) (hap : ∀ k, Own E σ k → E.m k = none)
    (hno : ∀ k, Own E' σ' k → k ≠ b ∧ some k ≠ v.ownBlock) (hn : BldN b v w w') : Holds E' σ' w' ∧ Adv E σ w E' σ' w' := by
  refine ⟨⟨fun k o h => ?_, fun l e he => ?_, hh.apart, hh.inj⟩, ⟨ha.le, hn.os, hn.tape, hn.output, hn.size, fun k hk ho => ?_, ha.ownNew, ha.mNew⟩⟩
  · rw [hn.block k (hh.m_lt h) (fun e => by rw [hm, e, hap b hb] at h; cases h) (fun e => by rw [hm, hap k (hv k e.symm)] at h; cases h)]
    exact hh.imm k o h
  · obtain ⟨L, h1, h2⟩ := hh.own l e he
    refine ⟨L, h1, h2.keep E'.le_refl fun k hk => ?_⟩
    obtain ⟨h3, h4⟩ := hno k ⟨l, e, L, he, h1, hk⟩
    exact hn.block k (h2.lt hk) h3 h4
  · exact hn.block k hk (fun e => ho (e ▸ hb)) (fun e => ho (hv k e.symm))
def stX (T te : TypeId) : Id → Nat → List AV → Hp → Option Res := fun p _ xs σ => match xs with
  | [x] => match x with
    | .ptr l i 0 0 => match aget σ l with
      | some e => match decide (e.id = i), e.obj with
        | true, .bld t z => match Nat.beq t T with
          | true => match z with
            | .slc m j 0 n => match Nat.beq m l, aget σ m with
              | false, some f => match decide (f.id = j), f.obj with
                | true, .buf t2 bs => match Nat.beq t2 te, Nat.beq n bs.length, Nat.beq n 0 with
                  | true, true, false => some ⟨.lit (.string ⟨bs.toArray⟩), [(m, ⟨0 :: p, .row true 1 []⟩), (l, ⟨1 :: p, .row true 1 []⟩)], true⟩
                  | _, _, _ => none
                | _, _ => none
              | _, _ => none
            | _ => match isNilS z with
              | true => some ⟨.lit (.string ⟨#[]⟩), [(l, ⟨1 :: p, .row true 1 []⟩)], true⟩
              | false => none
          | false => none
        | _, _ => none
      | none => none
    | _ => none
  | _ => none
def StOk (P : Program) (f T te : Nat) : Prop := ∀ (b : Nat) (v : Value) (bs : List UInt8) (w : World), BldW T te b v bs w → bs.length ≠ 0 ∨ v = .slice none 0 0 →
  Calls P f #[.pointer (some ⟨b, 0, none⟩)] w fun e w' => e = .returned (.string ⟨bs.toArray⟩) ∧ BldN b v w w'
theorem stX_ok {C : Cx} {f : FuncId} {T te : Nat} (hent : ∀ args w, (callFunc f args).run C.P w = .ok (.enter f args) w) (hst : StOk C.P f T te) : CtOk C f (.det (stX T te)) := by
  intro p d xs σ K hk E w vals hg hh hp hv
  simp only [Ct.asks] at hk
  split at hk
  · rename_i r hr
    unfold stX at hr
    split at hr
    · rename_i x
      split at hr
      · rename_i l i
        obtain ⟨v1, vs, h1, h2, rfl⟩ := hv.vs_cons_inv
        obtain rfl := h2.vs_nil_inv
        obtain ⟨b, base, sz, cap, h5, rfl⟩ := h1.ptr_inv
        split at hr
        · rename_i e he
          split at hr
          · rename_i t z hid hobj
            have hid := of_decide_eq_true hid
            have hel : aget σ l = some ⟨i, .bld t z⟩ := by rw [he]; cases e; simp only at hid hobj; rw [hid, hobj]
            split at hr
            · rename_i ht
              obtain rfl := Nat.eq_of_beq_eq_true ht
              obtain ⟨L, h6, h7⟩ := hh.own l _ hel
              rw [h5] at h6; cases h6
              cases h7 with
              | bld hc hu hz =>
              rename_i u0 v0
              simp only [Nat.zero_mul, Nat.zero_add]
              have hob : Own E σ b := ⟨l, _, _, hel, h5, rfl⟩
              split at hr
              · rename_i m j n
                split at hr
                · rename_i fe hml hf
                  have hml : m ≠ l := fun h => by rw [h, Nat.beq_refl] at hml; cases hml
                  split at hr
                  · rename_i t2 bs hfid hfobj
                    have hfid := of_decide_eq_true hfid
                    have hfl : aget σ m = some ⟨j, .buf t2 bs⟩ := by rw [hf]; cases fe; simp only at hfid hfobj; rw [hfid, hfobj]
                    split at hr
                    · rename_i ht2 hn hn0; cases hr
                      obtain rfl := Nat.eq_of_beq_eq_true ht2
                      obtain rfl := Nat.eq_of_beq_eq_true hn
                      have hn0 : bs.length ≠ 0 := fun h => by rw [h] at hn0; cases hn0
                      obtain ⟨L2, q1, q2⟩ := hh.own m _ hfl
                      cases q2 with
                      | buf gc gs gn gm gb =>
                      rename_i g gcap cc
                      rcases hz with ⟨h, _⟩ | ⟨m', j', n', g', cap', h, r1, rfl⟩
                      · cases h
                      cases h
                      rw [r1] at q1; cases q1
                      have hrow : w.ownsRow 0 t2 1 (.slice (some ⟨g, 0, none⟩) bs.length gcap) bs.length (Lib.strCells ⟨bs.toArray⟩) :=
                        ⟨by simp [Lib.strCells], .inr ⟨g, gcap, cc, rfl, Nat.zero_le _, gc, gn, gm, by rw [gs, Nat.mul_one], by rw [Nat.mul_one, gb]; simp [Lib.strCells]⟩⟩
                      have hgb : g ≠ b := fun e => hml (hh.inj _ _ _ _ _ _ _ hfl hel r1 h5 rfl (by rw [e]; rfl))
                      have hog : Own E σ g := ⟨m, _, _, hfl, r1, rfl⟩
                      obtain ⟨a1, a2⟩ := hh.ghost (hp.sub (List.suffix_cons 0 p)) m true 1
                      have hp1 : Fresh (E.name (0 :: p) .ghost) (1 :: p) := hp.sub (List.suffix_cons 1 p) |>.other (a := 0) (E' := E.name (0 :: p) .ghost) Env.name_newIn (by decide)
                      obtain ⟨b1, b2⟩ := a1.ghost hp1 l true 1
                      refine .inl ⟨hent _ _, (hst b _ bs w ⟨⟨_, hc, hu⟩, hrow, fun e => hgb (by cases e; rfl)⟩ (.inl hn0)).mono ?_⟩
                      rintro e w' ⟨rfl, g2⟩
                      have := Holds.gone b1 (a2.trans b2) (fun _ => rfl) hob (v := .slice (some ⟨g, 0, none⟩) bs.length gcap) (fun k hk => by cases hk; exact hog) hh.apart (fun k hk => ?_) g2
                      · exact ⟨_, rfl, _, _, _, hk.2, .lit _, this.1, this.2, (Env.name_newIn.up (List.suffix_cons 0 p)).trans (Env.name_newIn.up (List.suffix_cons 1 p))⟩
                      · obtain ⟨l', e', L', s1, s2, s3⟩ := hk
                        rw [aget_aset] at s1
                        split at s1
                        · cases s1; rw [Env.name_self] at s2; cases s2; cases s3
                        · rename_i hl'
                          rw [aget_aset] at s1
                          split at s1
                          · cases s1
                            rw [(Env.name_le (hp1 _ (List.suffix_refl _))).ρ _ _ (Env.name_self ..)] at s2; cases s2; cases s3
                          · rename_i hm'
                            obtain ⟨L3, s4, s5⟩ := hh.own l' e' s1
                            have := b2.le.ρ _ _ (a2.le.ρ _ _ s4)
                            rw [s2] at this; cases this
                            refine ⟨?_, ?_⟩
                            · rintro rfl; exact hl' (hh.inj _ _ _ _ _ _ _ s1 hel s4 h5 s3 rfl ▸ rfl)
                            · intro hq; cases hq; exact hm' (hh.inj _ _ _ _ _ _ _ s1 hfl s4 r1 s3 rfl ▸ rfl)
                    · cases hr
                  · cases hr
                · cases hr
              · split at hr
                · rename_i hnil; cases hr
                  obtain rfl := isNilS_sound hnil
                  have hzv : v0 = Value.slice none 0 0 := by
                    rcases hz with ⟨_, h⟩ | ⟨_, _, _, _, _, h, _⟩
                    · exact h
                    · cases h
                  subst hzv
                  obtain ⟨b1, b2⟩ := hh.ghost (hp.sub (List.suffix_cons 1 p)) l true 1
                  refine .inl ⟨hent _ _, (hst b (.slice none 0 0) [] w ⟨⟨_, hc, hu⟩, World.ownsRow_nil _ _ _ _, by simp [Value.ownBlock]⟩ (.inr rfl)).mono ?_⟩
                  rintro e w' ⟨rfl, g2⟩
                  have := Holds.gone b1 b2 (fun _ => rfl) hob (v := .slice none 0 0) (fun k hk => by simp [Value.ownBlock] at hk) hh.apart (fun k hk => ?_) g2
                  · exact ⟨_, rfl, _, _, _, hk.2, .lit _, this.1, this.2, Env.name_newIn.up (List.suffix_cons 1 p)⟩
                  · obtain ⟨l', e', L', s1, s2, s3⟩ := hk
                    rw [aget_aset] at s1
                    split at s1
                    · cases s1; rw [Env.name_self] at s2; cases s2; cases s3
                    · rename_i hl'
                      obtain ⟨L3, s4, s5⟩ := hh.own l' e' s1
                      have := b2.le.ρ _ _ s4
                      rw [s2] at this; cases this
                      refine ⟨?_, by simp [Value.ownBlock]⟩
                      rintro rfl; exact hl' (hh.inj _ _ _ _ _ _ _ s1 hel s4 h5 s3 rfl ▸ rfl)
                · cases hr
            · cases hr
          · cases hr
        · cases hr
      · cases hr
    · cases hr
  · exact hk.elim

/-! strings.Join. -/
def strsOf : List AV → Option (List ByteArray)
  | [] => some []
  | x :: r => match x with
    | .lit v => match v with
      | .string s => match strsOf r with
        | some l => some (s :: l)
        | none => none
      | _ => none
    | _ => none
theorem strsOf_sound {E : Env} : ∀ {xs : List AV} {l : List ByteArray} {cs : List Value}, strsOf xs = some l → RR E .cs xs cs → cs = l.map Value.string ∧ xs.length = l.length
  | [], l, cs, h, hr => by cases h; rw [hr.cs_nil_inv]; exact ⟨rfl, rfl⟩
  | x :: r, l, cs, h, hr => by
    unfold strsOf at h
    split at h
    · split at h
      · split at h
        · rename_i s _ l' hl'; cases h
          obtain ⟨v, cs', h1, h2, rfl⟩ := hr.cs_cons_inv
          obtain rfl := VR.lit_inv h1
          obtain ⟨h3, h4⟩ := strsOf_sound hl' h2
          exact ⟨by rw [h3]; rfl, by simp [h4]⟩
        · cases h
      · cases h
    · cases h
def joinX : Id → Nat → List AV → Hp → Option Res := fun _ _ xs σ => match xs with
  | [x, y] => match y with
    | .lit (.string sep) => match elemsP (aget σ) 1 x with
      | some q => match strsOf q.2 with
        | some l => match Nat.ble (Lib.join (l.map (·.data.toList)) sep.data.toList).length 140737488355328, Nat.ble l.length 140737488355328 with
          | true, true => some ⟨.lit (.string ⟨(Lib.join (l.map (·.data.toList)) sep.data.toList).toArray⟩), [], true⟩
          | _, _ => none
        | none => none
      | none => none
    | _ => none
  | _ => none
theorem joinX_ok {C : Cx} {f : FuncId} (hent : ∀ args w, (callFunc f args).run C.P w = .ok (.enter f args) w)
    (h0 : ∀ (a : Option Addr) (c : Nat) (sep : ByteArray) (w : World), Calls C.P f #[.slice a 0 c, .string sep] w fun e w' => e = .returned (.string ⟨#[]⟩) ∧ w' = w)
    (h1 : ∀ (bk o c : Nat) (xs : List ByteArray) (sep : ByteArray) (w : World), (∀ (j : Nat) x, xs[j]? = some x → w.cell? ⟨bk, o + j, none⟩ = some (.string x)) → bk < w.heap.size → xs.length ≤ 140737488355328 → xs.length ≤ c →
      (Lib.join (xs.map (·.data.toList)) sep.data.toList).length ≤ 140737488355328 →
      Calls C.P f #[.slice (some ⟨bk, o, none⟩) xs.length c, .string sep] w fun e w' => e = .returned (.string ⟨(Lib.join (xs.map (·.data.toList)) sep.data.toList).toArray⟩) ∧ Below w.heap.size w w') : CtOk C f (.det joinX) := by
  intro p d xs σ K hk E w vals hg hh hp hv
  simp only [Ct.asks] at hk
  split at hk
  · rename_i r hr
    unfold joinX at hr
    split at hr
    · rename_i x y
      split at hr
      · rename_i sep
        split at hr
        · rename_i q hq
          split at hr
          · rename_i l hl
            split at hr
            · rename_i hb1 hb2; cases hr
              obtain ⟨v', vs, h2, h3, rfl⟩ := hv.vs_cons_inv
              obtain ⟨v2, vs2, h4, h5, rfl⟩ := h3.vs_cons_inv
              obtain rfl := h5.vs_nil_inv
              obtain rfl := VR.lit_inv h4
              obtain ⟨k1, a, c, rfl, k2, k3⟩ := elemsP_sound hh (fun _ _ h => h) (pu := q.1) (xs := q.2) h2 hq
              rcases k3 with k3 | ⟨b, o, cells, t, fz, cs, rest, rfl, g1, g2, g3, g4⟩
              · have hl0 : l = [] := by rw [k3] at hl; cases hl; rfl
                subst hl0
                rw [k3]
                refine .inl ⟨hent _ _, (h0 a c sep w).mono fun e w' h => ?_⟩
                obtain ⟨rfl, rfl⟩ := h
                exact ⟨_, rfl, E, _, [], hk.2, .lit _, hh, .refl _ _ _, .refl _ _⟩
              · obtain ⟨hcs, hlen⟩ := strsOf_sound hl g2
                rw [hlen] at k2 ⊢
                refine .inl ⟨hent _ _, (h1 b o c l sep w (fun j x hj => ?_) ?_ (Nat.le_of_ble_eq_true hb2) k2 (Nat.le_of_ble_eq_true hb1)).mono fun e w' h => ?_⟩
                · have : cells[o + j]? = some (.string x) := by
                    have h6 := congrArg (·[j]?) g3
                    simp only [List.getElem?_drop, hcs] at h6
                    rw [List.getElem?_append_left (by rw [List.length_map]; exact (List.getElem?_eq_some_iff.1 hj).1), List.getElem?_map, hj] at h6
                    simpa using h6
                  simp [World.cell?, g1, this]
                · rw [Array.getElem?_eq_some_iff] at g1; exact g1.1
                · obtain ⟨rfl, hb⟩ := h
                  obtain ⟨k4, k5⟩ := hh.below hb
                  exact ⟨_, rfl, E, _, [], hk.2, .lit _, k4, k5, .refl _ _⟩
            · cases hr
          · cases hr
        · cases hr
      · cases hr
    · cases hr
  · exact hk.elim
end
end Go.AS
