/- Finite maps from numbers; recursion as the kernel does it. -/
namespace Go.AS
noncomputable section

inductive Tr (α : Type) where
  | nil
  | node (x : Option α) (l r : Tr α)
  deriving Inhabited

def half (k : Nat) : Nat := Nat.div k 2
def isOdd (k : Nat) : Bool := Nat.beq (Nat.mod k 2) 1
def tget {α : Type} (t : Tr α) : Nat → Option α :=
  Tr.rec (motive := fun _ => Nat → Option α) (fun _ => none) (fun x _ _ gl gr k => Nat.rec (motive := fun _ => Option α) x
    (fun k' _ => Bool.rec (motive := fun _ => Option α) (gl (half k')) (gr (half k')) (isOdd k')) k) t
/-- A tree with one number. -/
def tone {α : Type} (o : Option α) (f : Nat) : Nat → Tr α :=
  Nat.rec (motive := fun _ => Nat → Tr α) (fun _ => .node o .nil .nil)
    (fun _ ih k => Nat.rec (motive := fun _ => Tr α) (.node o .nil .nil) (fun k' _ => Bool.rec (motive := fun _ => Tr α) (.node none (ih (half k')) .nil) (.node none .nil (ih (half k'))) (isOdd k')) k) f
def tput {α : Type} (o : Option α) (t : Tr α) : Nat → Tr α :=
  Tr.rec (motive := fun _ => Nat → Tr α) (fun k => tone o k k)
    (fun x l r il ir k => Nat.rec (motive := fun _ => Tr α) (.node o l r) (fun k' _ => Bool.rec (motive := fun _ => Tr α) (.node x (il (half k')) r) (.node x l (ir (half k'))) (isOdd k')) k) t
def lrec {α β : Type} (z : β) (s : α → List α → β → β) (l : List α) : β := List.rec (motive := fun _ => β) z s l
theorem tget_nil {α : Type} (k : Nat) : tget (.nil : Tr α) k = none := rfl
theorem tget_zero {α : Type} (x : Option α) (l r : Tr α) : tget (.node x l r) 0 = x := rfl
theorem tget_left {α : Type} (x : Option α) (l r : Tr α) (k : Nat) (h : isOdd k = false) : tget (.node x l r) (k + 1) = tget l (half k) := by
  show Bool.rec (motive := fun _ => Option α) _ _ (isOdd k) = _
  rw [h]; rfl
theorem tget_right {α : Type} (x : Option α) (l r : Tr α) (k : Nat) (h : isOdd k = true) : tget (.node x l r) (k + 1) = tget r (half k) := by
  show Bool.rec (motive := fun _ => Option α) _ _ (isOdd k) = _
  rw [h]; rfl
theorem tone_zero {α : Type} (o : Option α) (f : Nat) : tone o f 0 = .node o .nil .nil := by cases f <;> rfl
theorem tone_left {α : Type} (o : Option α) (f k : Nat) (h : isOdd k = false) : tone o (f + 1) (k + 1) = .node none (tone o f (half k)) .nil := by
  show Bool.rec (motive := fun _ => Tr α) _ _ (isOdd k) = _
  rw [h]; rfl
theorem tone_right {α : Type} (o : Option α) (f k : Nat) (h : isOdd k = true) : tone o (f + 1) (k + 1) = .node none .nil (tone o f (half k)) := by
  show Bool.rec (motive := fun _ => Tr α) _ _ (isOdd k) = _
  rw [h]; rfl
theorem tput_nil {α : Type} (o : Option α) (k : Nat) : tput o .nil k = tone o k k := rfl
theorem tput_zero {α : Type} (o : Option α) (x : Option α) (l r : Tr α) : tput o (.node x l r) 0 = .node o l r := rfl
theorem tput_left {α : Type} (o : Option α) (k : Nat) (x : Option α) (l r : Tr α) (h : isOdd k = false) : tput o (.node x l r) (k + 1) = .node x (tput o l (half k)) r := by
  show Bool.rec (motive := fun _ => Tr α) _ _ (isOdd k) = _
  rw [h]; rfl
theorem tput_right {α : Type} (o : Option α) (k : Nat) (x : Option α) (l r : Tr α) (h : isOdd k = true) : tput o (.node x l r) (k + 1) = .node x l (tput o r (half k)) := by
  show Bool.rec (motive := fun _ => Tr α) _ _ (isOdd k) = _
  rw [h]; rfl
def obind {α β : Type} (o : Option α) (f : α → Option β) : Option β := Option.rec (motive := fun _ => Option β) none f o
def bsel {β : Type} (b : Bool) (x y : β) : β := Bool.rec (motive := fun _ => β) y x b
def nsel {β : Type} (x : β) (f : Nat → β) (k : Nat) : β := Nat.rec (motive := fun _ => β) x (fun k' _ => f k') k
theorem nsel_zero {β : Type} (x : β) (f : Nat → β) : nsel x f 0 = x := rfl
theorem nsel_succ {β : Type} (x : β) (f : Nat → β) (k : Nat) : nsel x f (k + 1) = f k := rfl
theorem obind_none {α β : Type} (f : α → Option β) : obind none f = none := rfl
theorem obind_some {α β : Type} (a : α) (f : α → Option β) : obind (some a) f = f a := rfl
theorem bsel_true {β : Type} (x y : β) : bsel true x y = x := rfl
theorem bsel_false {β : Type} (x y : β) : bsel false x y = y := rfl
theorem lrec_nil {α β : Type} (z : β) (s : α → List α → β → β) : lrec z s [] = z := rfl
theorem lrec_cons {α β : Type} (z : β) (s : α → List α → β → β) (x : α) (l : List α) : lrec z s (x :: l) = s x l (lrec z s l) := rfl

theorem obind_eq {α β : Type} {o : Option α} {f : α → Option β} {r : β} (h : obind o f = some r) : ∃ a, o = some a ∧ f a = some r := by
  cases o with
  | none => rw [obind_none] at h; cases h
  | some a => exact ⟨a, rfl, by rw [obind_some] at h; exact h⟩
theorem bsel_some {β : Type} {b : Bool} {x : Option β} {r : β} (h : bsel b x none = some r) : b = true ∧ x = some r := by
  cases b with
  | false => rw [bsel_false] at h; cases h
  | true => exact ⟨rfl, by rw [bsel_true] at h; exact h⟩
theorem half_le {k f : Nat} (h : k ≤ f) : half k ≤ f := Nat.le_trans (Nat.div_le_self k 2) h
theorem half_eq {j k : Nat} (h : isOdd j = isOdd k) (hd : half j = half k) : j = k := by
  have e1 : j / 2 = k / 2 := hd
  have e2 : ((j % 2).beq 1) = ((k % 2).beq 1) := h
  have hj : j % 2 = 0 ∨ j % 2 = 1 := by omega
  have hk : k % 2 = 0 ∨ k % 2 = 1 := by omega
  rcases hj with hj | hj <;> rcases hk with hk | hk <;> simp [hj, hk] at e2 <;> omega
theorem odd_ne {j k : Nat} (h : isOdd j = true) (hb : isOdd k = false) : ¬ j + 1 = k + 1 := fun e => by
  have : j = k := by omega
  subst this; rw [h] at hb; cases hb
theorem half_ne {j k : Nat} (hd : ¬ half j = half k) : ¬ j + 1 = k + 1 := fun e => hd (by
  have : j = k := by omega
  rw [this])
theorem tget_tone {α : Type} (o : Option α) : ∀ (f k : Nat) (j : Nat), k ≤ f → tget (tone o f k) j = if j = k then o else none := by
  intro f
  induction f with
  | zero =>
    intro k j hk
    obtain rfl : k = 0 := by omega
    rw [tone_zero]
    cases j with
    | zero => simp [tget_zero]
    | succ j => cases h : isOdd j
                · rw [tget_left _ _ _ _ h]; simp [tget_nil]
                · rw [tget_right _ _ _ _ h]; simp [tget_nil]
  | succ f ih =>
    intro k j hk
    cases k with
    | zero =>
      rw [tone_zero]
      cases j with
      | zero => simp [tget_zero]
      | succ j => cases h : isOdd j
                  · rw [tget_left _ _ _ _ h]; simp [tget_nil]
                  · rw [tget_right _ _ _ _ h]; simp [tget_nil]
    | succ k =>
      have hk' : half k ≤ f := half_le (by omega)
      cases hb : isOdd k
      · rw [tone_left _ _ _ hb]
        cases j with
        | zero => simp [tget_zero]
        | succ j =>
          cases h : isOdd j
          · rw [tget_left _ _ _ _ h, ih _ _ hk']
            by_cases hd : half j = half k
            · have := half_eq (h.trans hb.symm) hd; subst this; simp
            · rw [if_neg hd, if_neg (half_ne hd)]
          · rw [tget_right _ _ _ _ h, tget_nil, if_neg (odd_ne h hb)]
      · rw [tone_right _ _ _ hb]
        cases j with
        | zero => simp [tget_zero]
        | succ j =>
          cases h : isOdd j
          · rw [tget_left _ _ _ _ h, tget_nil, if_neg (fun e => odd_ne hb h e.symm)]
          · rw [tget_right _ _ _ _ h, ih _ _ hk']
            by_cases hd : half j = half k
            · have := half_eq (h.trans hb.symm) hd; subst this; simp
            · rw [if_neg hd, if_neg (half_ne hd)]
theorem tget_tput {α : Type} (o : Option α) : ∀ (t : Tr α) (k j : Nat), tget (tput o t k) j = if j = k then o else tget t j := by
  intro t
  induction t with
  | nil => intro k j; rw [tput_nil, tget_tone _ _ _ _ (Nat.le_refl _), tget_nil]
  | node x l r il ir =>
    intro k j
    cases k with
    | zero =>
      rw [tput_zero]
      cases j with
      | zero => simp [tget_zero]
      | succ j => cases h : isOdd j
                  · rw [tget_left _ _ _ _ h, tget_left _ _ _ _ h]; simp
                  · rw [tget_right _ _ _ _ h, tget_right _ _ _ _ h]; simp
    | succ k =>
      cases hb : isOdd k
      · rw [tput_left _ _ _ _ _ hb]
        cases j with
        | zero => simp [tget_zero]
        | succ j =>
          cases h : isOdd j
          · rw [tget_left _ _ _ _ h, tget_left _ _ _ _ h, il]
            by_cases hd : half j = half k
            · have := half_eq (h.trans hb.symm) hd; subst this; simp
            · rw [if_neg hd, if_neg (half_ne hd)]
          · rw [tget_right _ _ _ _ h, tget_right _ _ _ _ h, if_neg (odd_ne h hb)]
      · rw [tput_right _ _ _ _ _ hb]
        cases j with
        | zero => simp [tget_zero]
        | succ j =>
          cases h : isOdd j
          · rw [tget_left _ _ _ _ h, tget_left _ _ _ _ h, if_neg (fun e => odd_ne hb h e.symm)]
          · rw [tget_right _ _ _ _ h, tget_right _ _ _ _ h, ir]
            by_cases hd : half j = half k
            · have := half_eq (h.trans hb.symm) hd; subst this; simp
            · rw [if_neg hd, if_neg (half_ne hd)]
abbrev aget {α : Type} (t : Tr α) (k : Nat) : Option α := tget t k
abbrev aset {α : Type} (t : Tr α) (k : Nat) (e : α) : Tr α := tput (some e) t k
abbrev adel {α : Type} (t : Tr α) (k : Nat) : Tr α := tput none t k
theorem aget_nil {α : Type} (k : Nat) : aget (.nil : Tr α) k = none := tget_nil k
theorem aget_aset {α : Type} (t : Tr α) (i : Nat) (e : α) (j : Nat) : aget (aset t i e) j = if j = i then some e else aget t j := tget_tput _ _ _ _
theorem aget_adel {α : Type} (t : Tr α) (i j : Nat) : aget (adel t i) j = if j = i then none else aget t j := tget_tput _ _ _ _
/-- A map with chosen numbers alone. -/
def restr {α : Type} : List Nat → Tr α → Tr α
  | [], _ => .nil
  | l :: r, t => match aget t l with
    | some e => aset (restr r t) l e
    | none => restr r t
theorem restr_spec {α : Type} (t : Tr α) : ∀ (fp : List Nat) (l : Nat), aget (restr fp t) l = if l ∈ fp then aget t l else none
  | [], l => by simp [restr, tget_nil]
  | m :: r, l => by
    unfold restr
    have ih := restr_spec t r l
    by_cases hm : l = m
    · subst hm
      cases he : aget t l with
      | some e => simp only [aget_aset, if_true]; simp
      | none =>
        simp only
        rw [ih]
        split
        · rw [he]; simp
        · simp
    · cases he : aget t m with
      | some e => simp only [aget_aset, hm, if_false]; rw [ih]; simp [hm]
      | none => simp only; rw [ih]; simp [hm]
theorem restr_sub {α : Type} (fp : List Nat) (t : Tr α) (l : Nat) (e : α) (h : aget (restr fp t) l = some e) : l ∈ fp ∧ aget t l = some e := by
  rw [restr_spec] at h
  split at h
  · rename_i hl; exact ⟨hl, h⟩
  · cases h
theorem restr_get {α : Type} {fp : List Nat} {t : Tr α} {l : Nat} {e : α} (hl : l ∈ fp) (h : aget t l = some e) : aget (restr fp t) l = some e := by
  rw [restr_spec, if_pos hl]; exact h
end
end Go.AS
