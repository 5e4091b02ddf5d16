/- A new row that a function proved elsewhere has made: it becomes a piece of memory. -/
import Derived.Test.YtfiiemjbbmdlnaaGreatDoorASst
import Derived.Below
import Derived.Laws.AppendOwn
import Derived.Lib.Bytealg
namespace Go.AS
open Go.RowKit
noncomputable section

theorem Holds.newAt {E : Env} {σ : Hp} {w w' : World} (hh : Holds E σ w) (hb : Below w.heap.size w w') {p : Id} (hp : Fresh E p) {g : Nat} (hge : w.heap.size ≤ g) (base sz cap : Nat) (l : Nat) (ob : AObj)
    (hob : ObjR (E.name p (.at g base sz cap)) w' ob (.at g base sz cap)) :
    Holds (E.name p (.at g base sz cap)) (aset σ l ⟨p, ob⟩) w' ∧ Adv E σ w (E.name p (.at g base sz cap)) (aset σ l ⟨p, ob⟩) w' := by
  have hnone : E.ρ p = none := hp p (List.suffix_refl _)
  have hle : E.le (E.name p (.at g base sz cap)) := Env.name_le hnone
  have hold : ∀ b, b < w.heap.size → w'.heap[b]? = w.heap[b]? := fun b h => hb.block b h
  have hown : ∀ b, Own (E.name p (.at g base sz cap)) (aset σ l ⟨p, ob⟩) b → Own E σ b ∨ b = g := fun b hb => by
    rcases own_aset hb with ⟨L, h1, h2⟩ | h1
    · rw [Env.name_self] at h1; cases h1; cases h2; exact .inr rfl
    · exact .inl (h1.le hh hle)
  refine ⟨⟨fun b o' h => ?_, fun l' e' h => ?_, fun b h => ?_, ?_⟩, ⟨hle, hb.os, hb.tape, hb.output, hb.size, fun b hb _ => hold b hb, fun b hb => ?_, fun b hb => .inl hb⟩⟩
  · have := hh.imm b o' h
    rw [hold b (by rw [Array.getElem?_eq_some_iff] at this; exact this.1)]; exact this
  · rw [aget_aset] at h
    split at h
    · cases h; exact ⟨_, Env.name_self .., hob⟩
    · obtain ⟨L, h1, h2⟩ := hh.own l' e' h
      exact ⟨L, hle.ρ _ _ h1, h2.keep hle fun b hb => hold b (h2.lt hb)⟩
  · rcases hown b h with h1 | rfl
    · exact hh.apart b h1
    · show E.m _ = none
      cases hm : E.m b with
      | none => rfl
      | some o' => have := hh.m_lt hm; omega
  · intro l1 l2 e1 e2 L1 L2 b h1 h2 h3 h4 h5 h6
    rw [aget_aset] at h1 h2
    have key : ∀ l' e' L', aget σ l' = some e' → (E.name p (.at g base sz cap)).ρ e'.id = some L' → L'.blk? ≠ some g := fun l' e' L' ha hb hc => by
      obtain ⟨L, h7, h8⟩ := hh.own l' e' ha
      have := hle.ρ _ _ h7
      rw [hb] at this; cases this
      have := h8.lt hc
      omega
    split at h1 <;> split at h2
    · subst_vars; rfl
    · cases h1; rw [Env.name_self] at h3; cases h3; cases h5
      exact absurd h6 (key _ _ _ h2 h4)
    · cases h2; rw [Env.name_self] at h4; cases h4; cases h6
      exact absurd h5 (key _ _ _ h1 h3)
    · obtain ⟨M1, h7, _⟩ := hh.own _ _ h1
      obtain ⟨M2, h8, _⟩ := hh.own _ _ h2
      have e1 := hle.ρ _ _ h7
      have e2 := hle.ρ _ _ h8
      rw [h3] at e1; rw [h4] at e2
      cases e1; cases e2
      exact hh.inj _ _ _ _ _ _ _ h1 h2 h7 h8 h5 h6
  · rcases hown b hb with h1 | rfl
    · exact .inl h1
    · exact .inr hge
/-- The keys of a map, each an array of 32 bytes. -/
def keysU : List Value → Option (List (List Nat))
  | [] => some []
  | k :: r => match k with
    | .agg cs => match byteVs cs.toList with
      | some l => match Nat.beq l.length 32 with
        | true => match keysU r with
          | some ls => some (l :: ls)
          | none => none
        | false => none
      | none => none
    | _ => none
def bV (b : UInt8) : Value := .int .u8 (b.toNat : Int)
/-- What is wanted of the function that lists a map's keys (arrays of 32 bytes, one to twelve) in their order: a new row. -/
def HashOk (P : Program) (f : FuncId) (te : TypeId) : Prop :=
  ∀ (gb go b clock : Nat) (es : Array MapEntry) (ls : List (List UInt8)) (w : World), w.cell? ⟨gb, go, none⟩ = some (.map (some b)) → w.heap[b]? = some (.map es clock) →
    es.toList.map (·.key) = ls.map (fun l => Value.agg (l.map bV).toArray) → (∀ l ∈ ls, l.length = 32) → (∀ x ∈ es.toList, x.born < clock) → (es.toList.map (·.born)).Nodup → ls.Nodup → 0 < ls.length → ls.length ≤ 12 →
    Calls P f #[.pointer (some ⟨gb, go, none⟩)] w fun e w' => ∃ (v : Value) (ds : List (List UInt8)), e = .returned v ∧ ds.Perm ls ∧ ds.Pairwise (fun a b => 0 ≤ Lib.compareBytes b a) ∧
      w'.ownsRow w.heap.size te 32 v ls.length (ds.flatMap fun l => l.map bV) ∧ v ≠ .slice none 0 0 ∧ Below w.heap.size w w'
theorem cb_refl : ∀ l : List UInt8, Lib.compareBytes l l = 0
  | [] => rfl
  | a :: l => by simp [Lib.compareBytes, UInt8.lt_irrefl, cb_refl l]
theorem cb_cons (a b : UInt8) (l m : List UInt8) : Lib.compareBytes (a :: l) (b :: m) = if a.toNat < b.toNat then -1 else if b.toNat < a.toNat then 1 else Lib.compareBytes l m := by
  simp [Lib.compareBytes, UInt8.lt_iff_toNat_lt]
theorem cb_trans : ∀ l m n : List UInt8, Lib.compareBytes l m < 0 → Lib.compareBytes m n < 0 → Lib.compareBytes l n < 0
  | [], [], _, h, _ => by simp [Lib.compareBytes] at h
  | _ :: _, [], _, h, _ => by simp [Lib.compareBytes] at h
  | [], _ :: _, [], _, h => by simp [Lib.compareBytes] at h
  | [], _ :: _, _ :: _, _, _ => by simp [Lib.compareBytes]
  | _ :: _, _ :: _, [], _, h => by simp [Lib.compareBytes] at h
  | a :: l, b :: m, c :: n, h, h' => by
    rw [cb_cons] at h h' ⊢
    have ih := cb_trans l m n
    split at h <;> split at h' <;> (try split at h) <;> (try split at h') <;> (try split) <;> (try split) <;> first | omega | exact ih h h'
theorem cb_ntrans : ∀ l m n : List UInt8, 0 ≤ Lib.compareBytes l m → 0 ≤ Lib.compareBytes m n → 0 ≤ Lib.compareBytes l n
  | [], [], _, _, h => h
  | [], _ :: _, _, h, _ => by simp [Lib.compareBytes] at h
  | _ :: _, [], [], _, _ => by simp [Lib.compareBytes]
  | _ :: _, [], _ :: _, _, h => by simp [Lib.compareBytes] at h
  | _ :: _, _ :: _, [], _, _ => by simp [Lib.compareBytes]
  | a :: l, b :: m, c :: n, h, h' => by
    rw [cb_cons] at h h' ⊢
    have ih := cb_ntrans l m n
    split at h <;> split at h' <;> (try split at h) <;> (try split at h') <;> (try split) <;> (try split) <;> first | omega | exact ih h h'
theorem cb_anti : ∀ l m : List UInt8, 0 ≤ Lib.compareBytes l m → 0 ≤ Lib.compareBytes m l → l = m
  | [], [], _, _ => rfl
  | [], _ :: _, h, _ => by simp [Lib.compareBytes] at h
  | _ :: _, [], _, h => by simp [Lib.compareBytes] at h
  | a :: l, b :: m, h, h' => by
    rw [cb_cons] at h h'
    have e : a.toNat = b.toNat := by
      split at h <;> split at h' <;> omega
    have ih := cb_anti l m
    rw [e] at h h'
    simp only [Nat.lt_irrefl, if_false] at h h'
    rw [ih h h', UInt8.toNat_inj.1 e]
def insB (x : List UInt8) : List (List UInt8) → List (List UInt8)
  | [] => [x]
  | y :: r => match decide (Lib.compareBytes x y < 0) with
    | true => x :: y :: r
    | false => y :: insB x r
def sortB : List (List UInt8) → List (List UInt8)
  | [] => []
  | x :: r => insB x (sortB r)
def ascB : List (List UInt8) → Bool
  | [] => true
  | x :: r => match r with
    | [] => true
    | y :: _ => match decide (Lib.compareBytes x y < 0) with
      | true => ascB r
      | false => false
theorem insB_perm (x : List UInt8) : ∀ l, (insB x l).Perm (x :: l)
  | [] => .refl _
  | y :: r => by
    rw [insB]
    split
    · exact .refl _
    · exact ((insB_perm x r).cons y).trans (.swap x y r)
theorem sortB_perm : ∀ l, (sortB l).Perm l
  | [] => .refl _
  | x :: r => (insB_perm x _).trans ((sortB_perm r).cons x)
theorem ascB_pair : ∀ l, ascB l = true → l.Pairwise fun a b => Lib.compareBytes a b < 0
  | [], _ => .nil
  | [x], _ => List.pairwise_singleton ..
  | x :: y :: r, h => by
    rw [ascB] at h
    split at h
    · rename_i hxy
      have hxy := of_decide_eq_true hxy
      have ih := ascB_pair (y :: r) h
      refine .cons (fun z hz => ?_) ih
      rcases List.mem_cons.1 hz with rfl | hz
      · exact hxy
      · exact cb_trans _ _ _ hxy ((List.pairwise_cons.1 ih).1 z hz)
    · cases h
theorem asc_unique {ds s : List (List UInt8)} (hp : ds.Perm s) (hd : ds.Pairwise fun a b => 0 ≤ Lib.compareBytes b a) (hs : s.Pairwise fun a b => Lib.compareBytes a b < 0) : ds = s := by
  refine hp.eq_of_pairwise (le := fun a b => 0 ≤ Lib.compareBytes b a) (fun a b _ _ h1 h2 => cb_anti _ _ h2 h1) hd (hs.imp fun {a b} h => ?_)
  rcases Int.lt_or_le (Lib.compareBytes b a) 0 with h' | h'
  · have := cb_trans _ _ _ h h'
    rw [cb_refl] at this
    omega
  · exact h'
theorem asc_nodup {s : List (List UInt8)} (hs : s.Pairwise fun a b => Lib.compareBytes a b < 0) : s.Nodup := hs.imp fun {a b} h e => by
  subst e
  rw [cb_refl] at h
  omega
def rowAV (l : List UInt8) : AV := .agg (l.map fun b => .lit (bV b))
def toB (l : List Nat) : List UInt8 := l.map fun n => n.toUInt8
def hashX : Id → Nat → List AV → Hp → Option Res := fun p _ xs σ => match xs with
  | [x] => match x with
    | .ptr l i 0 0 => match aget σ l with
      | some e => match decide (e.id = i), e.obj with
        | true, .row _ _ [a] => match a with
          | .agg [m] => match m with
            | .mp l2 i2 => match aget σ l2 with
              | some e2 => match decide (e2.id = i2), e2.obj with
                | true, .map _ _ _ ks _ => match keysU ks with
                  | some us => match ascB (sortB (us.map toB)), Nat.blt 0 us.length, Nat.ble us.length 12 with
                    | true, true, true => some ⟨.slc (enc p) p 0 us.length, [(enc p, ⟨p, .row true 32 ((sortB (us.map toB)).map rowAV)⟩)], true⟩
                    | _, _, _ => none
                  | none => none
                | _, _ => none
              | none => none
            | _ => none
          | _ => none
        | _, _ => none
      | none => none
    | _ => none
  | _ => none
theorem keysU_sound : ∀ {ks : List Value} {us : List (List Nat)}, keysU ks = some us → ks = (us.map toB).map (fun l => Value.agg (l.map bV).toArray) ∧ ∀ l ∈ us.map toB, l.length = 32
  | [], us, h => by cases h; exact ⟨rfl, fun l hl => by cases hl⟩
  | k :: r, us, h => by
    unfold keysU at h
    split at h
    · rename_i cs
      split at h
      · rename_i l hl
        split at h
        · rename_i hlen
          split at h
          · rename_i ls hls; cases h
            obtain ⟨h1, h2⟩ := keysU_sound hls
            obtain ⟨h3, h4⟩ := byteVs_sound hl
            have hb : (toB l).map bV = cs.toList := by
              rw [h3, toB, List.map_map]
              refine List.map_congr_left fun n hn => ?_
              have := h4 n hn
              simp [bV, Nat.mod_eq_of_lt this]
            refine ⟨?_, fun q hq => ?_⟩
            · rw [List.map_cons, List.map_cons, ← h1, hb]
            · rw [List.map_cons] at hq
              rcases List.mem_cons.1 hq with rfl | hq
              · rw [toB, List.length_map]; exact Nat.eq_of_beq_eq_true hlen
              · exact h2 q hq
          · cases h
        · cases h
      · cases h
    · cases h
theorem row_cs {E : Env} : ∀ l : List UInt8, RR E .cs (l.map fun b => AV.lit (bV b)) (l.map bV)
  | [] => .cnil
  | _ :: r => .ccons (.lit _) (row_cs r)
theorem rows_cs {E : Env} : ∀ ds : List (List UInt8), RR E .cs (ds.map rowAV) (ds.flatMap fun l => l.map bV)
  | [] => .cnil
  | l :: r => by
    rw [List.map_cons, List.flatMap_cons]
    have := RR.ccons (E := E) (.agg (row_cs l)) (rows_cs r)
    simpa [Value.cells, rowAV] using this
theorem rowAV_fsz (l : List UInt8) : (rowAV l).fsz = l.length := by
  unfold rowAV
  rw [AV.fsz]
  have := AV.fszs_uniform (sz := 1) (xs := l.map fun b => AV.lit (bV b)) (fun x hx => by obtain ⟨b, _, rfl⟩ := List.mem_map.1 hx; rfl)
  rw [this, List.length_map, Nat.mul_one]
theorem hashX_ok {C : Cx} {f : FuncId} {te : TypeId} (hent : ∀ args w, (callFunc f args).run C.P w = .ok (.enter f args) w) (hc : HashOk C.P f te) : CtOk C f (.det hashX) := by
  intro p d xs σ K hk E w vals hg hh hp hv
  simp only [Ct.asks] at hk
  split at hk
  · rename_i r hr
    unfold hashX at hr
    split at hr
    · rename_i x
      split at hr
      · rename_i l i
        split at hr
        · rename_i e he
          split at hr
          · rename_i pu sz a hid hobj
            have hid := of_decide_eq_true hid
            split at hr
            · rename_i m
              split at hr
              · rename_i l2 i2
                split at hr
                · rename_i e2 he2
                  split at hr
                  · rename_i pu2 bs ck ks vs hid2 hobj2
                    have hid2 := of_decide_eq_true hid2
                    split at hr
                    · rename_i us hus
                      split at hr
                      · rename_i hasc h0 h12; cases hr
                        obtain ⟨v1, vs1, h1, h2, rfl⟩ := hv.vs_cons_inv
                        obtain rfl := h2.vs_nil_inv
                        obtain ⟨b, base, size, cap, q1, rfl⟩ := h1.ptr_inv
                        obtain ⟨L, q2, q3⟩ := hh.own l e he
                        rw [hid, q1] at q2; cases q2
                        rw [hobj] at q3
                        obtain ⟨L2, r1, r2⟩ := hh.own l2 e2 he2
                        rw [hid2] at r1
                        rw [hobj2] at r2
                        cases q3 with
                        | row hrow hx hcd hs hn hbnd hf ho =>
                        rename_i c t fz cs rest
                        obtain ⟨u, cs2, hu1, hu2, rfl⟩ := hx.cs_cons_inv
                        obtain ⟨us2, rfl, hu3⟩ := hu1.agg_inv
                        obtain ⟨u4, cs4, hu5, hu6, rfl⟩ := hu3.cs_cons_inv
                        cases hu6
                        cases hu2
                        cases hu5.mono (E.sel_le _) with
                        | mp _ hρ =>
                        rw [hρ] at r1; cases r1
                        cases r2 with
                        | map g1 g2 g3 g4 g5 g6 g7 =>
                        rename_i b2 _ _ _ es _
                        obtain ⟨w1, w2⟩ := keysU_sound hus
                        have hasc' := ascB_pair _ hasc
                        have hsp := sortB_perm (us.map toB)
                        have hcell : ∀ s, w.cell? ⟨b, base + 0 * s + 0, none⟩ = some (.map (some b2)) := fun s => by
                          have h0 := congrArg (·[0]?) hcd
                          simp [Value.cells] at h0
                          simp [World.cell?, hrow, h0]
                        have hl0 : 0 < (us.map toB).length := by rw [List.length_map]; exact Nat.lt_of_succ_le (Nat.le_of_ble_eq_true h0)
                        have hl12 : (us.map toB).length ≤ 12 := by rw [List.length_map]; exact Nat.le_of_ble_eq_true h12
                        have hls : (sortB (us.map toB)).length = us.length := by rw [hsp.length_eq, List.length_map]
                        refine .inl ⟨hent _ _, (hc b _ b2 ck es (us.map toB) w (hcell _) g1 (g2.trans w1) w2 g5 g6 (hsp.nodup_iff.1 (asc_nodup hasc')) hl0 hl12).mono ?_⟩
                        rintro e' w' ⟨v, ds, rfl, hp', hpw, hown, hne, hb⟩
                        obtain rfl := asc_unique (hp'.trans hsp.symm) hpw hasc'
                        rw [List.length_map] at hown
                        obtain ⟨hl, (⟨e1, _⟩ | ⟨g, gcap, cur, rfl, hg1, hh1, hn1, hm1, hs1, ht1⟩)⟩ := hown
                        · exact absurd e1 hne
                        have hsz : ∀ x ∈ (sortB (us.map toB)).map rowAV, x.fsz = 32 := fun x hx => by
                          obtain ⟨q, hq, rfl⟩ := List.mem_map.1 hx
                          rw [rowAV_fsz]
                          exact w2 q (hsp.mem_iff.1 hq)
                        obtain ⟨k1, k2⟩ := hh.newAt hb hp hg1 0 32 gcap (enc p) (.row true 32 ((sortB (us.map toB)).map rowAV))
                          (.row (cs := (sortB (us.map toB)).flatMap fun l => l.map bV) (rest := cur.toList.drop (us.length * 32)) (c := cur) (t := te) (fz := (0, 0)) hh1 (rows_cs _)
                            (by rw [List.drop_zero, ← ht1, List.take_append_drop]) hsz (by rw [List.length_map, hls]; exact hn1) (by omega) (free_zero _ _)
                            (fun u hu => by obtain ⟨q, _, hq⟩ := List.mem_flatMap.1 hu; obtain ⟨b, _, rfl⟩ := List.mem_map.1 hq; rfl))
                        refine ⟨_, rfl, _, _, _, hk.2, ?_, k1, k2, Env.name_newIn⟩
                        have := RR.slc (E := E.name p (.at g 0 32 gcap)) (enc p) (i := p) (off := 0) (len := us.length) (c := gcap) (Env.name_self ..) hn1 (by omega)
                        simpa using this
                      · cases hr
                    · cases hr
                  · cases hr
                · cases hr
              · cases hr
            · cases hr
          · cases hr
        · cases hr
      · cases hr
    · cases hr
  · exact hk.elim
/-- One ext, and where it is silent another one. -/
def orX (a b : Id → Nat → List AV → Hp → Option Res) : Id → Nat → List AV → Hp → Option Res := fun p d xs σ => match a p d xs σ with
  | some r => some r
  | none => b p d xs σ
theorem orX_ok {C : Cx} {f : FuncId} {a b : Id → Nat → List AV → Hp → Option Res} (ha : CtOk C f (.det a)) (hb : CtOk C f (.det b)) : CtOk C f (.det (orX a b)) := by
  intro p d xs σ K hk
  simp only [Ct.asks] at hk
  cases h : a p d xs σ with
  | some r =>
    refine ha p d xs σ K ?_
    simpa [Ct.asks, orX, h] using hk
  | none =>
    refine hb p d xs σ K ?_
    simpa [Ct.asks, orX, h] using hk
end
end Go.AS
