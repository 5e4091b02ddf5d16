/- Values and memory, the same by reckoning. -/
import Derived.Test.YtnenknghinpliaaGreatDoorASmem
namespace Go.AS
noncomputable section

/-! Sameness that is reckoned. -/
def valEq : Nat → Value → Value → Bool
  | 0, _, _ => false
  | n + 1, u, v => match u with
    | .agg a => match v with
      | .agg b => valsEq (valEq n) a.toList b.toList
      | _ => false
    | .tuple a => match v with
      | .tuple b => valsEq (valEq n) a.toList b.toList
      | _ => false
    | .map none => match v with
      | .map none => true
      | _ => false
    | .nilFunc => match v with
      | .nilFunc => true
      | _ => false
    | .func (.func f) a b => match v with
      | .func (.func f') a' b' => Nat.beq f f' && (valsEq (valEq n) a.toList a'.toList && valsEq (valEq n) b.toList b'.toList)
      | _ => false
    | u => litEq2 u v
where valsEq (g : Value → Value → Bool) : List Value → List Value → Bool
  | [], ys => match ys with
    | [] => true
    | _ => false
  | x :: xs, ys => match ys with
    | y :: ys => match g x y with
      | true => valsEq g xs ys
      | false => false
    | [] => false
theorem valsEq_sound {g : Value → Value → Bool} (hg : ∀ x y, g x y = true → x = y) : ∀ {xs ys : List Value}, valEq.valsEq g xs ys = true → xs = ys
  | [], ys, h => by
    unfold valEq.valsEq at h
    split at h
    · rfl
    · cases h
  | x :: xs, ys, h => by
    unfold valEq.valsEq at h
    split at h
    · split at h
      · rename_i hxy; rw [hg _ _ hxy, valsEq_sound hg h]
      · cases h
    · cases h
theorem valEq_sound : ∀ (n : Nat) (u v : Value), valEq n u v = true → u = v
  | 0, _, _, h => by cases h
  | n + 1, u, v, h => by
    unfold valEq at h
    split at h
    · split at h
      · have := valsEq_sound (valEq_sound n) h
        rw [Array.toList_inj.1 this]
      · cases h
    · split at h
      · have := valsEq_sound (valEq_sound n) h
        rw [Array.toList_inj.1 this]
      · cases h
    · split at h
      · rfl
      · cases h
    · split at h
      · rfl
      · cases h
    · split at h
      · simp only [Bool.and_eq_true] at h
        rw [Nat.eq_of_beq_eq_true h.1, Array.toList_inj.1 (valsEq_sound (valEq_sound n) h.2.1), Array.toList_inj.1 (valsEq_sound (valEq_sound n) h.2.2)]
      · cases h
    · exact litEq2_sound h
def eqB : Nat → AV → AV → Bool
  | 0, _, _ => false
  | n + 1, x, y => match x with
    | .lit u => match y with
      | .lit v => valEq 9 u v
      | _ => false
    | .ptr l i k s => match y with
      | .ptr l' i' k' s' => Nat.beq l l' && (idEq i i' && (Nat.beq k k' && Nat.beq s s'))
      | _ => false
    | .slc l i k s => match y with
      | .slc l' i' k' s' => Nat.beq l l' && (idEq i i' && (Nat.beq k k' && Nat.beq s s'))
      | _ => false
    | .mp l i => match y with
      | .mp l' i' => Nat.beq l l' && idEq i i'
      | _ => false
    | .agg xs => match y with
      | .agg ys => eqAs (eqB n) xs ys
      | _ => false
    | .tup xs => match y with
      | .tup ys => eqAs (eqB n) xs ys
      | _ => false
    | .iface t x => match y with
      | .iface t' y => Nat.beq t t' && eqB n x y
      | _ => false
    | .sub l i k s m => match y with
      | .sub l' i' k' s' m' => Nat.beq l l' && (idEq i i' && (Nat.beq k k' && (Nat.beq s s' && Nat.beq m m')))
      | _ => false
    | .ref x => match y with
      | .ref y => eqB n x y
      | _ => false
    | .lst e s xs => match y with
      | .lst e' s' ys => (e == e') && (Nat.beq s s' && eqAs (eqB n) xs ys)
      | _ => false
    | .mpv ks vs => match y with
      | .mpv ks' vs' => valEq.valsEq (valEq 9) ks ks' && eqAs (eqB n) vs vs'
      | _ => false
    | .fn g xs cs => match g with
      | .func f => match y with
        | .fn g' xs' cs' => match g' with
          | .func f' => Nat.beq f f' && (eqAs (eqB n) xs xs' && eqAs (eqB n) cs cs')
          | _ => false
        | _ => false
      | _ => false
    | .yld _ => false
theorem eqB_sound : ∀ (n : Nat) (x y : AV), eqB n x y = true → x = y
  | 0, _, _, h => by cases h
  | n + 1, x, y, h => by
    unfold eqB at h
    split at h
    · split at h
      · rw [valEq_sound _ _ _ h]
      · cases h
    · split at h
      · simp only [Bool.and_eq_true] at h
        rw [Nat.eq_of_beq_eq_true h.1, idEq_sound h.2.1, Nat.eq_of_beq_eq_true h.2.2.1, Nat.eq_of_beq_eq_true h.2.2.2]
      · cases h
    · split at h
      · simp only [Bool.and_eq_true] at h
        rw [Nat.eq_of_beq_eq_true h.1, idEq_sound h.2.1, Nat.eq_of_beq_eq_true h.2.2.1, Nat.eq_of_beq_eq_true h.2.2.2]
      · cases h
    · split at h
      · simp only [Bool.and_eq_true] at h
        rw [Nat.eq_of_beq_eq_true h.1, idEq_sound h.2]
      · cases h
    · split at h
      · rw [eqAs_sound (eqB_sound n) h]
      · cases h
    · split at h
      · rw [eqAs_sound (eqB_sound n) h]
      · cases h
    · split at h
      · rw [Bool.and_eq_true] at h
        rw [Nat.eq_of_beq_eq_true h.1, eqB_sound n _ _ h.2]
      · cases h
    · split at h
      · simp only [Bool.and_eq_true] at h
        rw [Nat.eq_of_beq_eq_true h.1, idEq_sound h.2.1, Nat.eq_of_beq_eq_true h.2.2.1, Nat.eq_of_beq_eq_true h.2.2.2.1, Nat.eq_of_beq_eq_true h.2.2.2.2]
      · cases h
    · split at h
      · rw [eqB_sound n _ _ h]
      · cases h
    · split at h
      · simp only [Bool.and_eq_true, beq_iff_eq] at h
        rw [h.1, Nat.eq_of_beq_eq_true h.2.1, eqAs_sound (eqB_sound n) h.2.2]
      · cases h
    · split at h
      · simp only [Bool.and_eq_true] at h
        rw [valsEq_sound (valEq_sound 9) h.1, eqAs_sound (eqB_sound n) h.2]
      · cases h
    · split at h
      · split at h
        · split at h
          · simp only [Bool.and_eq_true] at h
            rw [Nat.eq_of_beq_eq_true h.1, eqAs_sound (eqB_sound n) h.2.1, eqAs_sound (eqB_sound n) h.2.2]
          · cases h
        · cases h
      · cases h
    · cases h
def natsEq : List Nat → List Nat → Bool
  | [], [] => true
  | a :: x, b :: y => Nat.beq a b && natsEq x y
  | _, _ => false
theorem natsEq_sound : ∀ {x y : List Nat}, natsEq x y = true → x = y
  | [], [], _ => rfl
  | [], _ :: _, h => by cases h
  | _ :: _, [], h => by cases h
  | a :: x, b :: y, h => by
    rw [natsEq, Bool.and_eq_true] at h
    rw [Nat.eq_of_beq_eq_true h.1, natsEq_sound h.2]
def objEq (a b : AObj) : Bool := match a with
  | .row p s xs => match b with
    | .row p' s' ys => (p == p') && (Nat.beq s s' && eqAs (eqB 30) xs ys)
    | _ => false
  | .map p bs c ks vs => match b with
    | .map p' bs' c' ks' vs' => (p == p') && (natsEq bs bs' && (Nat.beq c c' && (valEq.valsEq (valEq 9) ks ks' && eqAs (eqB 30) vs vs')))
    | _ => false
  | _ => false
theorem objEq_sound {a b : AObj} (h : objEq a b = true) : a = b := by
  unfold objEq at h
  split at h
  · split at h
    · simp only [Bool.and_eq_true, beq_iff_eq] at h
      rw [h.1, Nat.eq_of_beq_eq_true h.2.1, eqAs_sound (eqB_sound 30) h.2.2]
    · cases h
  · split at h
    · simp only [Bool.and_eq_true, beq_iff_eq] at h
      rw [h.1, natsEq_sound h.2.1, Nat.eq_of_beq_eq_true h.2.2.1, valsEq_sound (valEq_sound 9) h.2.2.2.1, eqAs_sound (eqB_sound 30) h.2.2.2.2]
    · cases h
  · cases h
def updEq : Upd → Upd → Bool
  | [], [] => true
  | (l, e) :: r, (l', e') :: r' => Nat.beq l l' && (idEq e.id e'.id && (objEq e.obj e'.obj && updEq r r'))
  | _, _ => false
theorem updEq_sound : ∀ {x y : Upd}, updEq x y = true → x = y
  | [], [], _ => rfl
  | [], _ :: _, h => by cases h
  | _ :: _, [], h => by cases h
  | (l, ⟨i, o⟩) :: r, (l', ⟨i', o'⟩) :: r', h => by
    rw [updEq] at h
    simp only [Bool.and_eq_true] at h
    rw [Nat.eq_of_beq_eq_true h.1, idEq_sound h.2.1, objEq_sound h.2.2.1, updEq_sound h.2.2.2]
def resEq (a b : Res) : Bool := (a.ok && b.ok) && (eqB 30 a.x b.x && updEq a.upd b.upd)
theorem resEq_sound {a b : Res} (h : resEq a b = true) : a = b := by
  unfold resEq at h
  simp only [Bool.and_eq_true] at h
  obtain ⟨⟨h1, h2⟩, h3, h4⟩ := h
  cases a; cases b
  simp only at *
  rw [h1, h2, eqB_sound _ _ _ h3, updEq_sound h4]
end
end Go.AS
