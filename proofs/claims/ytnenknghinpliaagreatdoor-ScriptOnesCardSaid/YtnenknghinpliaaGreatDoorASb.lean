/- Abstract memory, and how it stands to a world. -/
import Derived.Test.YtnenknghinpliaaGreatDoorASa
import Derived.Test.YtnenknghinpliaaGreatDoorAS0
import Derived.RowKit3
namespace Go.AS
noncomputable section

abbrev Hp := Tr Ent
abbrev Fr := Tr AV

/-- Changes of memory: each label with what it holds from now on. -/
abbrev Upd := List (Nat × Ent)
def Hp.app (σ : Hp) : Upd → Hp
  | [] => σ
  | (l, e) :: r => Hp.app (aset σ l e) r

/-- A row's cells are not frozen. -/
def free (fz : Nat × Nat) (lo hi : Nat) : Prop := ∀ j, lo ≤ j → j < hi → (fz.1 ≤ j && j < fz.2) = false

/-- A builder's slice: nil, or the whole of a piece. -/
def BufR (E : Env) (x : AV) (v : Value) : Prop := (x = .lit (.slice none 0 0) ∧ v = .slice none 0 0) ∨ ∃ m j n g cap, x = .slc m j 0 n ∧ E.ρ j = some (.at g 0 1 cap) ∧ v = .slice (some ⟨g, 0, none⟩) n cap
theorem BufR.mono {E E' : Env} (hE : E.le E') {x : AV} {v : Value} (h : BufR E x v) : BufR E' x v := by
  rcases h with h | ⟨m, j, n, g, cap, h1, h2, h3⟩
  · exact .inl h
  · exact .inr ⟨m, j, n, g, cap, h1, hE.ρ _ _ h2, h3⟩
/-- A piece of memory as the world has it. -/
inductive ObjR (E : Env) (w : World) : AObj → Loc → Prop
  | row {pu : Bool} {xs : List AV} {b base sz cap : Nat} {c : Array Value} {t : TypeId} {fz : Nat × Nat} {cs rest : List Value} (h : w.heap[b]? = some (.cells c t fz)) (hx : RR (E.sel pu) .cs xs cs)
      (hc : c.toList.drop base = cs ++ rest) (hs : ∀ x ∈ xs, x.fsz = sz) (hn : xs.length ≤ cap) (hb : base + cap * sz ≤ c.size) (hf : free fz base (base + cap * sz))
      (ho : ∀ u ∈ cs, u.oneCell' = true) (hz : sz ≠ 1 → fz = (0, 0) := by first | assumption | exact fun _ => rfl | exact fun h => absurd rfl h) : ObjR E w (.row pu sz xs) (.at b base sz cap)
  | ghost (pu : Bool) (sz : Nat) : ObjR E w (.row pu sz []) .ghost
  | map {pu : Bool} {bs : List Nat} {ks : List Value} {vs : List AV} {b base sz cap : Nat} {es : Array MapEntry} {clock : Nat} {us : List Value} (h : w.heap[b]? = some (.map es clock)) (hk : es.toList.map (·.key) = ks)
      (hu : es.toList.map (·.val) = us) (hv : RR (E.sel pu) .vs vs us) (hb : ∀ e ∈ es.toList, e.born < clock) (hd : (es.toList.map (·.born)).Nodup) (hbs : es.toList.map (·.born) = bs) : ObjR E w (.map pu bs clock ks vs) (.at b base sz cap)
  | sit {s : ByteArray} {pos b base sz cap : Nat} (h : w.heap[b]? = some (.stringIter s pos)) : ObjR E w (.sit s pos) (.at b base sz cap)
  | mit {l : Nat} {i : Id} {since last : Nat} {seen : List Nat} {b bm base' sz' cap' : Nat} (h : w.heap[b]? = some (.mapIter (some bm) since seen.toArray last)) (hm : E.ρ i = some (.at bm base' sz' cap')) : ObjR E w (.mit l i since seen last) (.at b 0 0 0)
  | bld {t : TypeId} {x : AV} {u v : Value} {b : Nat} (h : w.heap[b]? = some (.cells #[u, v] t (0, 0))) (hu : u = .pointer none ∨ u = .pointer (some ⟨b, 0, none⟩)) (hv : BufR E x v) : ObjR E w (.bld t x) (.at b 0 2 1)
  | buf {t : TypeId} {bs : List UInt8} {b cap : Nat} {c : Array Value} (h : w.heap[b]? = some (.cells c t (0, 0))) (hc : c.size = cap) (hn : bs.length ≤ cap) (hm : cap ≤ maxLen) (hb : c.toList.take bs.length = bs.map fun x => Value.int .u8 x.toNat) : ObjR E w (.buf t bs) (.at b 0 1 cap)

def Own (E : Env) (σ : Hp) (b : Nat) : Prop := ∃ l e L, aget σ l = some e ∧ E.ρ e.id = some L ∧ L.blk? = some b

structure Holds (E : Env) (σ : Hp) (w : World) : Prop where
  imm : ∀ b o, E.m b = some o → w.heap[b]? = some o
  own : ∀ l e, aget σ l = some e → ∃ L, E.ρ e.id = some L ∧ ObjR E w e.obj L
  apart : ∀ b, Own E σ b → E.m b = none
  inj : ∀ l l' e e' L L' b, aget σ l = some e → aget σ l' = some e' → E.ρ e.id = some L → E.ρ e'.id = some L' → L.blk? = some b → L'.blk? = some b → l = l'

/-- From one state of memory to a later one: what nobody owned is as it was. -/
structure Adv (E : Env) (σ : Hp) (w : World) (E' : Env) (σ' : Hp) (w' : World) : Prop where
  le : E.le E'
  os : w'.os = w.os
  tape : w'.tape = w.tape
  output : w'.output = w.output
  size : w.heap.size ≤ w'.heap.size
  kept : ∀ b, b < w.heap.size → ¬ Own E σ b → w'.heap[b]? = w.heap[b]?
  ownNew : ∀ b, Own E' σ' b → Own E σ b ∨ w.heap.size ≤ b
  mNew : ∀ b, E'.m b ≠ none → E.m b ≠ none ∨ Own E σ b ∨ w.heap.size ≤ b

theorem Adv.refl (E : Env) (σ : Hp) (w : World) : Adv E σ w E σ w :=
  ⟨E.le_refl, rfl, rfl, rfl, Nat.le_refl _, fun _ _ _ => rfl, fun _ h => .inl h, fun _ h => .inl h⟩
theorem Adv.trans {E E' E'' : Env} {σ σ' σ'' : Hp} {w w' w'' : World} (h : Adv E σ w E' σ' w') (k : Adv E' σ' w' E'' σ'' w'') : Adv E σ w E'' σ'' w'' := by
  refine ⟨Env.le_trans h.le k.le, k.os.trans h.os, k.tape.trans h.tape, k.output.trans h.output, Nat.le_trans h.size k.size, fun b hb ho => ?_, fun b hb => ?_, fun b hb => ?_⟩
  · rw [k.kept b (Nat.lt_of_lt_of_le hb h.size) fun ho' => ?_]
    · exact h.kept b hb ho
    · rcases h.ownNew b ho' with h1 | h1
      · exact ho h1
      · omega
  · rcases k.ownNew b hb with h1 | h1
    · exact h.ownNew b h1
    · exact .inr (Nat.le_trans h.size h1)
  · rcases k.mNew b hb with h1 | h1 | h1
    · exact h.mNew b h1
    · rcases h.ownNew b h1 with h2 | h2
      · exact .inr (.inl h2)
      · exact .inr (.inr h2)
    · exact .inr (.inr (Nat.le_trans h.size h1))

/-- No name that ends in 'p' is taken. -/
def Fresh (E : Env) (p : Id) : Prop := ∀ i, p <:+ i → E.ρ i = none
/-- Whatever is new is named by names that end in 'p'. -/
def NewIn (E E' : Env) (p : Id) : Prop := ∀ i, ¬ p <:+ i → E'.ρ i = E.ρ i
theorem NewIn.refl (E : Env) (p : Id) : NewIn E E p := fun _ _ => rfl
theorem NewIn.trans {A B C : Env} {p : Id} (h : NewIn A B p) (k : NewIn B C p) : NewIn A C p := fun i hi => (k i hi).trans (h i hi)
theorem NewIn.up {A B : Env} {p q : Id} (h : NewIn A B q) (hq : p <:+ q) : NewIn A B p := fun i hi => h i fun hq' => hi (hq.trans hq')
theorem Fresh.sub {E : Env} {p q : Id} (h : Fresh E p) (hq : p <:+ q) : Fresh E q := fun i hi => h i (hq.trans hi)
theorem suffix_cons_ne {a b : Nat} {p i : Id} (h : (a :: p) <:+ i) (k : (b :: p) <:+ i) : a = b := by
  obtain ⟨x, rfl⟩ := h
  obtain ⟨y, hy⟩ := k
  have := congrArg List.reverse hy
  simp at this
  exact this.1.symm
theorem Fresh.other {E E' : Env} {p : Id} {a b : Nat} (h : Fresh E (b :: p)) (hn : NewIn E E' (a :: p)) (hab : a ≠ b) : Fresh E' (b :: p) := fun i hi => by
  rw [hn i fun h' => hab (suffix_cons_ne h' hi)]; exact h i hi

/-- Memory with some pieces let go. -/
theorem Own.sub {E : Env} {σ τ : Hp} (h : ∀ l e, aget τ l = some e → aget σ l = some e) {b : Nat} (ho : Own E τ b) : Own E σ b := by
  obtain ⟨l, e, L, h1, h2, h3⟩ := ho; exact ⟨l, e, L, h _ _ h1, h2, h3⟩
theorem Holds.sub {E : Env} {σ τ : Hp} {w : World} (hh : Holds E σ w) (h : ∀ l e, aget τ l = some e → aget σ l = some e) : Holds E τ w :=
  ⟨hh.imm, fun l e he => hh.own l e (h l e he), fun b hb => hh.apart b (hb.sub h), fun l l' e e' L L' b h1 h2 => hh.inj l l' e e' L L' b (h _ _ h1) (h _ _ h2)⟩
theorem Adv.sub {E E' : Env} {σ σ' τ : Hp} {w w' : World} (ha : Adv E σ w E' σ' w') (h : ∀ l e, aget τ l = some e → aget σ' l = some e) : Adv E σ w E' τ w' :=
  ⟨ha.le, ha.os, ha.tape, ha.output, ha.size, ha.kept, fun b hb => ha.ownNew b (hb.sub h), ha.mNew⟩

/-- What is not written stays as it is. -/
theorem ObjR.keep {E E' : Env} {w w' : World} {o : AObj} {L : Loc} (h : ObjR E w o L) (hE : E.le E') (hw : ∀ b, L.blk? = some b → w'.heap[b]? = w.heap[b]?) : ObjR E' w' o L := by
  cases h with
  | row h hx hc hs hn hb hf ho hzz => exact .row ((hw _ rfl).trans h) (hx.mono (hE.sel _)) hc hs hn hb hf ho
  | ghost pu sz => exact .ghost pu sz
  | map h hk hu hv hb hd hbs => exact .map ((hw _ rfl).trans h) hk hu (hv.mono (hE.sel _)) hb hd hbs
  | sit h => exact .sit ((hw _ rfl).trans h)
  | mit h hm => exact .mit ((hw _ rfl).trans h) (hE.ρ _ _ hm)
  | bld h hu hv => exact .bld ((hw _ rfl).trans h) hu (hv.mono hE)
  | buf h hc hn hm hb => exact .buf ((hw _ rfl).trans h) hc hn hm hb
theorem ObjR.lt {E : Env} {w : World} {o : AObj} {L : Loc} (h : ObjR E w o L) {b : Nat} (hb : L.blk? = some b) : b < w.heap.size := by
  cases h with
  | ghost => cases hb
  | row h => cases hb; rw [Array.getElem?_eq_some_iff] at h; exact h.1
  | map h => cases hb; rw [Array.getElem?_eq_some_iff] at h; exact h.1
  | sit h => cases hb; rw [Array.getElem?_eq_some_iff] at h; exact h.1
  | mit h => cases hb; rw [Array.getElem?_eq_some_iff] at h; exact h.1
  | bld h => cases hb; rw [Array.getElem?_eq_some_iff] at h; exact h.1
  | buf h => cases hb; rw [Array.getElem?_eq_some_iff] at h; exact h.1
theorem Holds.own_lt {E : Env} {σ : Hp} {w : World} (hh : Holds E σ w) {b : Nat} (h : Own E σ b) : b < w.heap.size := by
  obtain ⟨l, e, L, h1, h2, h3⟩ := h
  obtain ⟨L', h4, h5⟩ := hh.own l e h1
  rw [h2] at h4; cases h4
  exact h5.lt h3
theorem Holds.m_lt {E : Env} {σ : Hp} {w : World} (hh : Holds E σ w) {b : Nat} {o : Obj} (h : E.m b = some o) : b < w.heap.size := by
  have := hh.imm b o h
  rw [Array.getElem?_eq_some_iff] at this; exact this.1

/-- A world in which the same blocks stand, whatever was drawn. -/
theorem Holds.world {E : Env} {σ : Hp} {w w' : World} (hh : Holds E σ w) (hw : w'.heap = w.heap) : Holds E σ w' :=
  ⟨fun b o h => by rw [hw]; exact hh.imm b o h, fun l e he => by obtain ⟨L, h1, h2⟩ := hh.own l e he; exact ⟨L, h1, h2.keep E.le_refl fun b _ => by rw [hw]⟩, hh.apart, hh.inj⟩
theorem Adv.drew (E : Env) (σ : Hp) (w : World) (n : Nat) : Adv E σ w E σ { w with drawn := n } :=
  ⟨E.le_refl, rfl, rfl, rfl, Nat.le_refl _, fun _ _ _ => rfl, fun _ h => .inl h, fun _ h => .inl h⟩

def Env.name (E : Env) (i : Id) (L : Loc) : Env := ⟨fun j => if j = i then some L else E.ρ j, E.m⟩
theorem Env.name_le {E : Env} {i : Id} {L : Loc} (h : E.ρ i = none) : E.le (E.name i L) := by
  refine ⟨fun j L' hj => ?_, fun _ _ h => h⟩
  have : j ≠ i := by rintro rfl; rw [h] at hj; cases hj
  simp only [Env.name, this, if_false]
  exact hj
theorem Env.name_self (E : Env) (i : Id) (L : Loc) : (E.name i L).ρ i = some L := by simp [Env.name]
theorem Env.name_newIn {E : Env} {p : Id} {L : Loc} : NewIn E (E.name p L) p := fun i hi => by
  simp only [Env.name]; rw [if_neg]; rintro rfl; exact hi (List.suffix_refl _)
def Env.mem (E : Env) (b : Nat) (o : Obj) : Env := ⟨E.ρ, fun c => if c = b then some o else E.m c⟩
theorem Env.mem_le {E : Env} {b : Nat} {o : Obj} (h : ∀ o', E.m b = some o' → o' = o) : E.le (E.mem b o) :=
  ⟨fun _ _ h => h, fun c o' hc => by
    simp only [Env.mem]
    split
    · rename_i e; subst e; rw [h o' hc]
    · exact hc⟩
theorem Env.mem_newIn {E : Env} {b : Nat} {o : Obj} {p : Id} : NewIn E (E.mem b o) p := fun _ _ => rfl

theorem Own.le {E E' : Env} {σ : Hp} {w : World} (hh : Holds E σ w) (hE : E.le E') {b : Nat} (h : Own E' σ b) : Own E σ b := by
  obtain ⟨l, e, L, h1, h2, h3⟩ := h
  obtain ⟨L', h4, _⟩ := hh.own l e h1
  have := hE.ρ _ _ h4
  rw [h2] at this; cases this
  exact ⟨l, e, L, h1, h4, h3⟩

/-- A new piece, or another one in an old one's place. -/
theorem own_aset {E : Env} {σ : Hp} {l : Nat} {e : Ent} {b : Nat} (h : Own E (aset σ l e) b) : (∃ L, E.ρ e.id = some L ∧ L.blk? = some b) ∨ Own E σ b := by
  obtain ⟨l', e', L, h1, h2, h3⟩ := h
  rw [aget_aset] at h1
  split at h1
  · cases h1; exact .inl ⟨L, h2, h3⟩
  · exact .inr ⟨l', e', L, h1, h2, h3⟩

/-- A new block of the world's becomes a piece of memory. -/
theorem Holds.new {E : Env} {σ : Hp} {w : World} (hh : Holds E σ w) {p : Id} (hp : Fresh E p) (o : Obj) (base sz cap : Nat) (l : Nat) (ob : AObj)
    (hob : ObjR (E.name p (.at w.heap.size base sz cap)) (w.alloc o) ob (.at w.heap.size base sz cap)) :
    Holds (E.name p (.at w.heap.size base sz cap)) (aset σ l ⟨p, ob⟩) (w.alloc o) ∧ Adv E σ w (E.name p (.at w.heap.size base sz cap)) (aset σ l ⟨p, ob⟩) (w.alloc o) := by
  have hnone : E.ρ p = none := hp p (List.suffix_refl _)
  have hle : E.le (E.name p (.at w.heap.size base sz cap)) := Env.name_le hnone
  have hold : ∀ b, b < w.heap.size → (w.alloc o).heap[b]? = w.heap[b]? := fun b hb => by
    show (w.heap.push o)[b]? = _
    rw [Array.getElem?_push, if_neg (by omega)]
  have hown : ∀ b, Own (E.name p (.at w.heap.size base sz cap)) (aset σ l ⟨p, ob⟩) b → Own E σ b ∨ b = w.heap.size := fun b hb => by
    rcases own_aset hb with ⟨L, h1, h2⟩ | h1
    · rw [Env.name_self] at h1; cases h1; cases h2; exact .inr rfl
    · exact .inl (h1.le hh hle)
  refine ⟨⟨fun b o' h => ?_, fun l' e' h => ?_, fun b h => ?_, ?_⟩, ⟨hle, rfl, rfl, rfl, ?_, fun b hb _ => hold b hb, fun b hb => ?_, fun b hb => .inl hb⟩⟩
  · have := hh.imm b o' h
    rw [hold b (by rw [Array.getElem?_eq_some_iff] at this; exact this.1)]; exact this
  · rw [aget_aset] at h
    split at h
    · cases h; exact ⟨_, Env.name_self .., hob⟩
    · obtain ⟨L, h1, h2⟩ := hh.own l' e' h
      exact ⟨L, hle.ρ _ _ h1, h2.keep hle fun b hb => hold b (h2.lt hb)⟩
  · rcases hown b h with h1 | rfl
    · exact hh.apart b h1
    · show E.m _ = none
      cases hm : E.m w.heap.size with
      | none => rfl
      | some o' => have := hh.m_lt hm; omega
  · intro l1 l2 e1 e2 L1 L2 b h1 h2 h3 h4 h5 h6
    rw [aget_aset] at h1 h2
    have key : ∀ l' e' L', aget σ l' = some e' → (E.name p (.at w.heap.size base sz cap)).ρ e'.id = some L' → L'.blk? ≠ some w.heap.size := fun l' e' L' ha hb hc => by
      obtain ⟨L, h7, h8⟩ := hh.own l' e' ha
      have := hle.ρ _ _ h7
      rw [hb] at this; cases this
      have := h8.lt hc
      omega
    split at h1 <;> split at h2
    · subst_vars; rfl
    · cases h1; rw [Env.name_self] at h3; cases h3; cases h5
      exact absurd h6 (key _ _ _ h2 h4)
    · cases h2; rw [Env.name_self] at h4; cases h4; cases h6
      exact absurd h5 (key _ _ _ h1 h3)
    · obtain ⟨M1, h7, _⟩ := hh.own _ _ h1
      obtain ⟨M2, h8, _⟩ := hh.own _ _ h2
      have e1 := hle.ρ _ _ h7
      have e2 := hle.ρ _ _ h8
      rw [h3] at e1; rw [h4] at e2
      cases e1; cases e2
      exact hh.inj _ _ _ _ _ _ _ h1 h2 h7 h8 h5 h6
  · show w.heap.size ≤ (w.heap.push o).size; simp
  · rcases hown b hb with h1 | rfl
    · exact .inl h1
    · exact .inr (Nat.le_refl _)

/-- A ghost row. -/
theorem Holds.ghost {E : Env} {σ : Hp} {w : World} (hh : Holds E σ w) {p : Id} (hp : Fresh E p) (l : Nat) (pu : Bool) (sz : Nat) :
    Holds (E.name p .ghost) (aset σ l ⟨p, .row pu sz []⟩) w ∧ Adv E σ w (E.name p .ghost) (aset σ l ⟨p, .row pu sz []⟩) w := by
  have hle : E.le (E.name p .ghost) := Env.name_le (hp p (List.suffix_refl _))
  have hown : ∀ b, Own (E.name p .ghost) (aset σ l ⟨p, .row pu sz []⟩) b → Own E σ b := fun b hb => by
    rcases own_aset hb with ⟨L, h1, h2⟩ | h1
    · rw [Env.name_self] at h1; cases h1; cases h2
    · exact h1.le hh hle
  refine ⟨⟨hh.imm, fun l' e' h => ?_, fun b h => hh.apart b (hown b h), ?_⟩, ⟨hle, rfl, rfl, rfl, Nat.le_refl _, fun _ _ _ => rfl, fun b hb => .inl (hown b hb), fun b hb => .inl hb⟩⟩
  · rw [aget_aset] at h
    split at h
    · cases h; exact ⟨_, Env.name_self .., .ghost pu sz⟩
    · obtain ⟨L, h1, h2⟩ := hh.own l' e' h
      exact ⟨L, hle.ρ _ _ h1, h2.keep hle fun b _ => rfl⟩
  · intro l1 l2 e1 e2 L1 L2 b h1 h2 h3 h4 h5 h6
    rw [aget_aset] at h1 h2
    split at h1
    · cases h1; rw [Env.name_self] at h3; cases h3; cases h5
    · split at h2
      · cases h2; rw [Env.name_self] at h4; cases h4; cases h6
      · obtain ⟨M1, h7, _⟩ := hh.own _ _ h1
        obtain ⟨M2, h8, _⟩ := hh.own _ _ h2
        have e1 := hle.ρ _ _ h7
        have e2 := hle.ρ _ _ h8
        rw [h3] at e1; rw [h4] at e2
        cases e1; cases e2
        exact hh.inj _ _ _ _ _ _ _ h1 h2 h7 h8 h5 h6

/-- A piece that the call owns is written: its block turns, nothing else. -/
theorem Holds.write {E : Env} {σ : Hp} {w w' : World} (hh : Holds E σ w) {l : Nat} {e : Ent} {L : Loc} {b : Nat} (he : aget σ l = some e) (hL : E.ρ e.id = some L) (hb : L.blk? = some b)
    (ob : AObj) (hob : ObjR E w' ob L) (hs : w'.heap.size = w.heap.size) (hk : ∀ c, c ≠ b → w'.heap[c]? = w.heap[c]?) (ho : w'.os = w.os) (ht : w'.tape = w.tape) (hp : w'.output = w.output) :
    Holds E (aset σ l ⟨e.id, ob⟩) w' ∧ Adv E σ w E (aset σ l ⟨e.id, ob⟩) w' := by
  have hob' : Own E σ b := ⟨l, e, L, he, hL, hb⟩
  have hown : ∀ c, Own E (aset σ l ⟨e.id, ob⟩) c → Own E σ c := fun c hc => by
    rcases own_aset hc with ⟨L', h1, h2⟩ | h1
    · exact ⟨l, e, L', he, h1, h2⟩
    · exact h1
  refine ⟨⟨fun c o h => ?_, fun l' e' h => ?_, fun c hc => hh.apart c (hown c hc), ?_⟩, ⟨E.le_refl, ho, ht, hp, by omega, fun c _ hc => hk c (fun e => hc (e ▸ hob')), fun c hc => .inl (hown c hc), fun c hc => .inl hc⟩⟩
  · rw [hk c (fun e => by have := hh.apart b hob'; rw [← e, h] at this; cases this)]; exact hh.imm c o h
  · rw [aget_aset] at h
    split at h
    · cases h; exact ⟨L, hL, hob⟩
    · rename_i hne
      obtain ⟨L', h1, h2⟩ := hh.own l' e' h
      exact ⟨L', h1, h2.keep E.le_refl fun c hc => hk c fun ec => hne (hh.inj l' l e' e L' L b h he h1 hL (ec ▸ hc) hb)⟩
  · intro l1 l2 e1 e2 L1 L2 c h1 h2 h3 h4 h5 h6
    rw [aget_aset] at h1 h2
    split at h1 <;> split at h2
    · subst_vars; rfl
    · rename_i e1 _; cases h1; subst e1; exact hh.inj _ _ _ _ _ _ _ he h2 h3 h4 h5 h6
    · rename_i e2; cases h2; subst e2; exact hh.inj _ _ _ _ _ _ _ h1 he h3 h4 h5 h6
    · exact hh.inj _ _ _ _ _ _ _ h1 h2 h3 h4 h5 h6

/-- A piece that the call owns is owned no more: it stands as it is from now on. -/
theorem Holds.freeze {E : Env} {σ : Hp} {w : World} (hh : Holds E σ w) {l : Nat} {e : Ent} {b : Nat} {L : Loc} (he : aget σ l = some e) (hL : E.ρ e.id = some L) (hb : L.blk? = some b) {o : Obj}
    (ho : w.heap[b]? = some o) : Holds (E.mem b o) (adel σ l) w ∧ Adv E σ w (E.mem b o) (adel σ l) w := by
  have hob : Own E σ b := ⟨l, e, L, he, hL, hb⟩
  have hle : E.le (E.mem b o) := Env.mem_le fun o' h => by rw [hh.apart b hob] at h; cases h
  have hsub : ∀ l' e', aget (adel σ l) l' = some e' → aget σ l' = some e' ∧ l' ≠ l := fun l' e' h => by
    rw [aget_adel] at h; split at h
    · cases h
    · rename_i hne; exact ⟨h, hne⟩
  refine ⟨⟨fun c o' h => ?_, fun l' e' h => ?_, fun c hc => ?_, ?_⟩, ⟨hle, rfl, rfl, rfl, Nat.le_refl _, fun _ _ _ => rfl, fun c hc => .inl ?_, fun c hc => ?_⟩⟩
  · simp only [Env.mem] at h
    split at h
    · rename_i ec; cases h; subst ec; exact ho
    · exact hh.imm c o' h
  · obtain ⟨L', h1, h2⟩ := hh.own l' e' (hsub l' e' h).1
    exact ⟨L', h1, h2.keep hle fun _ _ => rfl⟩
  · obtain ⟨l', e', L', h1, h2, h3⟩ := hc
    obtain ⟨h4, h5⟩ := hsub l' e' h1
    have hcb : c ≠ b := fun ec => h5 (hh.inj l' l e' e L' L b h4 he h2 hL (ec ▸ h3) hb)
    simp only [Env.mem, hcb, if_false]
    exact hh.apart c ⟨l', e', L', h4, h2, h3⟩
  · intro l1 l2 e1 e2 L1 L2 c h1 h2
    exact hh.inj l1 l2 e1 e2 L1 L2 c (hsub _ _ h1).1 (hsub _ _ h2).1
  · exact Own.sub (fun l' e' h => (hsub l' e' h).1) hc
  · simp only [Env.mem] at hc
    split at hc
    · rename_i ec; subst ec; exact .inr (.inl hob)
    · exact .inl hc

/-- A new block that nobody will write. -/
theorem Holds.newMem {E : Env} {σ : Hp} {w : World} (hh : Holds E σ w) (o : Obj) :
    Holds (E.mem w.heap.size o) σ (w.alloc o) ∧ Adv E σ w (E.mem w.heap.size o) σ (w.alloc o) := by
  have hm : E.m w.heap.size = none := by
    cases hm : E.m w.heap.size with
    | none => rfl
    | some o' => have := hh.m_lt hm; omega
  have hle : E.le (E.mem w.heap.size o) := Env.mem_le fun o' h => by rw [hm] at h; cases h
  have hold : ∀ b, b < w.heap.size → (w.alloc o).heap[b]? = w.heap[b]? := fun b hb => by
    show (w.heap.push o)[b]? = _
    rw [Array.getElem?_push, if_neg (by omega)]
  refine ⟨⟨fun c o' h => ?_, fun l' e' h => ?_, fun c hc => ?_, hh.inj⟩, ⟨hle, rfl, rfl, rfl, by show _ ≤ (w.heap.push o).size; simp, fun b hb _ => hold b hb, fun c hc => .inl hc, fun c hc => ?_⟩⟩
  · simp only [Env.mem] at h
    split at h
    · rename_i ec; cases h; subst ec; show (w.heap.push o)[w.heap.size]? = _; simp
    · have := hh.imm c o' h
      rw [hold c (by rw [Array.getElem?_eq_some_iff] at this; exact this.1)]; exact this
  · obtain ⟨L', h1, h2⟩ := hh.own l' e' h
    exact ⟨L', h1, h2.keep hle fun b hb => hold b (h2.lt hb)⟩
  · have := hh.own_lt (b := c) hc
    simp only [Env.mem]
    rw [if_neg (by omega)]; exact hh.apart c hc
  · simp only [Env.mem] at hc
    split at hc
    · rename_i ec; subst ec; exact .inr (.inr (Nat.le_refl _))
    · exact .inl hc
end
end Go.AS
