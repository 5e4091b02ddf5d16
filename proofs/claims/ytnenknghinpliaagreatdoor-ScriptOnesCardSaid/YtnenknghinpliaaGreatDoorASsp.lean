/- strings.Split at a separator of one byte, proved elsewhere: a new row of strings. -/
import Derived.Test.YtnenknghinpliaaGreatDoorASbl
import Derived.Lib.Split
import Derived.Lib.SplitLaws
namespace Go.AS
open Go.RowKit
noncomputable section

def spl1 (c : UInt8) : List UInt8 → List (List UInt8)
  | [] => [[]]
  | b :: l => match Nat.beq b.toNat c.toNat with
    | true => [] :: spl1 c l
    | false => match spl1 c l with
      | [] => [[b]]
      | x :: r => (b :: x) :: r
theorem beq_u8 (b c : UInt8) : Nat.beq b.toNat c.toNat = (b == c) := by
  by_cases h : b = c
  · subst h; simp
  · have h1 : (b == c) = false := by simpa using h
    have h2 : b.toNat ≠ c.toNat := fun e => h (UInt8.toNat_inj.1 e)
    rw [h1]
    cases hb : Nat.beq b.toNat c.toNat with
    | false => rfl
    | true => exact absurd (Nat.eq_of_beq_eq_true hb) h2
theorem spl1_none (c : UInt8) : ∀ l : List UInt8, l.count c = 0 → spl1 c l = [l]
  | [], _ => rfl
  | b :: l, h => by
    rw [List.count_cons] at h
    have hb : (b == c) = false := by
      cases hq : b == c with
      | false => rfl
      | true => rw [hq] at h; simp at h
    rw [spl1, beq_u8, hb]
    simp only
    rw [spl1_none c l (by omega)]
theorem splitK_one (c : UInt8) : ∀ (l : List UInt8) (k : Nat), l.count c = k → Lib.splitK [c] 0 k l = spl1 c l
  | [], k, h => by
    simp at h; subst h; rfl
  | b :: l, 0, h => by rw [spl1_none c (b :: l) h]; rfl
  | b :: l, k + 1, h => by
    rw [List.count_cons] at h
    rw [Lib.splitK, Lib.index, spl1, beq_u8]
    cases hq : b == c with
    | true =>
      have hp : [c].isPrefixOf (b :: l) = true := by simp [List.isPrefixOf]; simpa using (beq_iff_eq.1 hq).symm
      rw [if_pos hp]
      have hk : l.count c = k := by rw [hq] at h; simpa using h
      simp only [show ((0 : Int) == -1) = false by decide, Bool.false_eq_true, if_false, List.length_cons, List.length_nil]
      rw [← splitK_one c l k hk]
      simp
    | false =>
      have hp : ¬ [c].isPrefixOf (b :: l) = true := by
        simp [List.isPrefixOf]; intro e; rw [e] at hq; simp at hq
      rw [if_neg hp]
      have hk : l.count c = k + 1 := by rw [hq] at h; simpa using h
      have ih := splitK_one c l (k + 1) hk
      rw [Lib.splitK] at ih
      have hge := Lib.index_ge l [c]
      by_cases hm : (Lib.index l [c] == -1) = true
      · rw [if_pos hm] at ih
        rw [if_pos hm]
        simp only [beq_self_eq_true, if_true]
        rw [← ih]
      · rw [if_neg hm] at ih ⊢
        have hne : Lib.index l [c] ≠ -1 := fun e => hm (beq_iff_eq.2 e)
        have h2 : ¬ (Lib.index l [c] + 1 == -1) = true := fun e => by have := beq_iff_eq.1 e; omega
        rw [if_neg h2, ← ih]
        obtain ⟨i, hi⟩ : ∃ i : Nat, Lib.index l [c] = i := ⟨(Lib.index l [c]).toNat, by omega⟩
        rw [hi]
        have e1 : ((i : Int) + 1).toNat = i + 1 := by omega
        rw [e1]
        simp only [Int.toNat_natCast, Nat.add_zero, List.take_succ_cons, List.length_cons, List.length_nil]
        rw [show i + 1 + (0 + 1) = (i + (0 + 1)) + 1 by omega, List.drop_succ_cons]
theorem splitB_one (s : ByteArray) (c : UInt8) : Lib.splitB ⟨#[c]⟩ 0 (Lib.countB s ⟨#[c]⟩) s = (spl1 c s.data.toList).map fun l => ⟨l.toArray⟩ := by
  have h1 := Lib.splitB_data ⟨#[c]⟩ 0 (Lib.countB s ⟨#[c]⟩) s
  have h2 : Lib.countB s ⟨#[c]⟩ = s.data.toList.count c := Lib.count_one _ _
  rw [show (ByteArray.mk #[c]).data.toList = [c] from rfl, splitK_one c s.data.toList _ h2.symm] at h1
  rw [← h1, List.map_map]
  have : ∀ xs : List ByteArray, xs = xs.map ((fun l : List UInt8 => (⟨l.toArray⟩ : ByteArray)) ∘ fun x => x.data.toList) := fun xs => by
    induction xs with
    | nil => rfl
    | cons x r ih => rw [List.map_cons, ← ih]; simp
  exact this _
def splitD : Id → Nat → List AV → Hp → Option Res := fun p d xs _ => match xs with
  | [x, y] => match x, y with
    | .lit (.string s), .lit (.string sep) => match sep.data.toList with
      | [c] => match Nat.ble s.size 1000000 with
        | true => some ⟨.slc d p 0 (spl1 c s.data.toList).length, [(d, ⟨p, .row true 1 ((spl1 c s.data.toList).map fun l => .lit (.string ⟨l.toArray⟩))⟩)], true⟩
        | false => none
      | _ => none
    | _, _ => none
  | _ => none
theorem strs_cs {E : Env} : ∀ l : List (List UInt8), RR E .cs (l.map fun l => AV.lit (.string ⟨l.toArray⟩)) (l.map fun l => Value.string ⟨l.toArray⟩)
  | [] => .cnil
  | _ :: r => .ccons (.lit _) (strs_cs r)
theorem splitD_ok {C : Cx} {f : FuncId} {te : TypeId} (hent : ∀ args w, (callFunc f args).run C.P w = .ok (.enter f args) w)
    (hc : ∀ (s : ByteArray) (c : UInt8) (w : World), s.size ≤ 1000000 → Calls C.P f #[.string s, .string ⟨#[c]⟩] w fun e w' =>
      e = .returned (.slice (some ⟨w.heap.size, 0, none⟩) (Lib.countB s ⟨#[c]⟩ + 1) (Lib.countB s ⟨#[c]⟩ + 1)) ∧ w' = w.alloc (.cells ((Lib.splitB ⟨#[c]⟩ 0 (Lib.countB s ⟨#[c]⟩) s).map Value.string).toArray te)) : CtOk C f (.det splitD) := by
  intro p d xs σ K hk E w vals hg hh hp hv
  simp only [Ct.asks] at hk
  split at hk
  · rename_i r hr
    unfold splitD at hr
    split at hr
    · rename_i x y
      split at hr
      · rename_i s sep
        split at hr
        · rename_i c hsep
          split at hr
          · rename_i hle; cases hr
            obtain ⟨v1, vs, h1, h2, rfl⟩ := hv.vs_cons_inv
            obtain ⟨v2, vs2, h3, h4, rfl⟩ := h2.vs_cons_inv
            obtain rfl := h4.vs_nil_inv
            obtain rfl := VR.lit_inv h1
            obtain rfl := VR.lit_inv h3
            obtain rfl : sep = ⟨#[c]⟩ := by
              cases sep with | mk a => cases a with | mk l => simp only at hsep; rw [hsep]
            have hlen : (spl1 c s.data.toList).length = Lib.countB s ⟨#[c]⟩ + 1 := by
              have h5 := Lib.splitB_all ⟨#[c]⟩ (Nat.le_refl 1) 0 _ s rfl
              rw [splitB_one, List.length_map] at h5
              exact h5
            refine .inl ⟨hent _ _, (hc s c w (Nat.le_of_ble_eq_true hle)).mono ?_⟩
            rintro e w' ⟨rfl, rfl⟩
            rw [splitB_one, ← hlen, List.map_map]
            obtain ⟨k1, k2⟩ := hh.new hp (.cells ((spl1 c s.data.toList).map fun l => Value.string ⟨l.toArray⟩).toArray te) 0 1 (spl1 c s.data.toList).length d (.row true 1 ((spl1 c s.data.toList).map fun l => .lit (.string ⟨l.toArray⟩)))
              (.row (cs := (spl1 c s.data.toList).map fun l => Value.string ⟨l.toArray⟩) (rest := []) (c := ((spl1 c s.data.toList).map fun l => Value.string ⟨l.toArray⟩).toArray) (t := te) (fz := (0, 0)) (by show (w.heap.push _)[w.heap.size]? = _; simp) (strs_cs _) (by simp)
                (fun x hx => by obtain ⟨l, _, rfl⟩ := List.mem_map.1 hx; rfl) (by simp) (by simp) (free_zero _ _) (fun u hu => by obtain ⟨l, _, rfl⟩ := List.mem_map.1 hu; rfl))
            refine ⟨_, rfl, _, _, _, hk.2, ?_, k1, k2, Env.name_newIn⟩
            have := RR.slc (E := E.name p (.at w.heap.size 0 1 (spl1 c s.data.toList).length)) d (i := p) (off := 0) (len := (spl1 c s.data.toList).length) (c := (spl1 c s.data.toList).length) (Env.name_self ..) (Nat.le_refl _) (by omega)
            simpa using this
          · cases hr
        · cases hr
      · cases hr
    · cases hr
  · exact hk.elim
def splitX : Id → Nat → List AV → Hp → Option Res := fun p _ xs σ => splitD p (enc p) xs σ
theorem splitX_ok {C : Cx} {f : FuncId} {te : TypeId} (hent : ∀ args w, (callFunc f args).run C.P w = .ok (.enter f args) w)
    (hc : ∀ (s : ByteArray) (c : UInt8) (w : World), s.size ≤ 1000000 → Calls C.P f #[.string s, .string ⟨#[c]⟩] w fun e w' =>
      e = .returned (.slice (some ⟨w.heap.size, 0, none⟩) (Lib.countB s ⟨#[c]⟩ + 1) (Lib.countB s ⟨#[c]⟩ + 1)) ∧ w' = w.alloc (.cells ((Lib.splitB ⟨#[c]⟩ 0 (Lib.countB s ⟨#[c]⟩) s).map Value.string).toArray te)) : CtOk C f (.det splitX) :=
  fun p _ xs σ K hk => splitD_ok hent hc p (enc p) xs σ K hk
end
end Go.AS
