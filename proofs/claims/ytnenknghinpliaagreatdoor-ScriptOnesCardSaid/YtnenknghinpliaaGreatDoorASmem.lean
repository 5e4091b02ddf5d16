/- What a function answers at arguments that were tried, structs and lists too. -/
import Derived.Test.YtnenknghinpliaaGreatDoorASext
namespace Go.AS
noncomputable section

def litEq2 (u v : Value) : Bool := match u with
  | .slice none 0 0 => match v with
    | .slice none 0 0 => true
    | _ => false
  | .nilIface => match v with
    | .nilIface => true
    | _ => false
  | .pointer none => match v with
    | .pointer none => true
    | _ => false
  | u => litEq u v
theorem litEq2_sound {u v : Value} (h : litEq2 u v = true) : u = v := by
  unfold litEq2 at h
  split at h
  · split at h
    · rfl
    · cases h
  · split at h
    · rfl
    · cases h
  · split at h
    · rfl
    · cases h
  · exact litEq_sound h
def eqAs (g : AV → AV → Bool) : List AV → List AV → Bool
  | [], ys => match ys with
    | [] => true
    | _ => false
  | x :: xs, ys => match ys with
    | y :: ys => match g x y with
      | true => eqAs g xs ys
      | false => false
    | [] => false
def eqA : Nat → AV → AV → Bool
  | 0, _, _ => false
  | n + 1, x, y => match x with
    | .lit u => match y with
      | .lit v => litEq2 u v
      | _ => false
    | .agg xs => match y with
      | .agg ys => eqAs (eqA n) xs ys
      | _ => false
    | .lst e s xs => match y with
      | .lst e' s' ys => decide (e = e') && (Nat.beq s s' && eqAs (eqA n) xs ys)
      | _ => false
    | .iface t x => match y with
      | .iface t' y => Nat.beq t t' && eqA n x y
      | _ => false
    | .ref x => match y with
      | .ref y => eqA n x y
      | _ => false
    | _ => false
theorem eqAs_sound {g : AV → AV → Bool} (hg : ∀ x y, g x y = true → x = y) : ∀ {xs ys : List AV}, eqAs g xs ys = true → xs = ys
  | [], ys, h => by
    unfold eqAs at h
    split at h
    · rfl
    · cases h
  | x :: xs, ys, h => by
    unfold eqAs at h
    split at h
    · split at h
      · rename_i hxy; rw [hg _ _ hxy, eqAs_sound hg h]
      · cases h
    · cases h
theorem eqA_sound : ∀ (n : Nat) (x y : AV), eqA n x y = true → x = y
  | 0, _, _, h => by cases h
  | n + 1, x, y, h => by
    unfold eqA at h
    split at h
    · split at h
      · rw [litEq2_sound h]
      · cases h
    · split at h
      · rw [eqAs_sound (eqA_sound n) h]
      · cases h
    · split at h
      · simp only [Bool.and_eq_true] at h
        rw [of_decide_eq_true h.1, Nat.eq_of_beq_eq_true h.2.1, eqAs_sound (eqA_sound n) h.2.2]
      · cases h
    · split at h
      · rw [Bool.and_eq_true] at h
        rw [Nat.eq_of_beq_eq_true h.1, eqA_sound n _ _ h.2]
      · cases h
    · split at h
      · rw [eqA_sound n _ _ h]
      · cases h
    · cases h
def memoGet : List (List AV × AV) → List AV → Option AV
  | [], _ => none
  | e :: r, xs => match eqAs (eqA 20) xs e.1 with
    | true => some e.2
    | false => memoGet r xs
theorem memoGet_sound : ∀ {tab : List (List AV × AV)} {xs : List AV} {v : AV}, memoGet tab xs = some v → (xs, v) ∈ tab
  | [], _, _, h => by cases h
  | e :: r, xs, u, h => by
    unfold memoGet at h
    split at h
    · rename_i he; cases h
      rw [eqAs_sound (eqA_sound 20) he]; exact List.mem_cons_self ..
    · exact List.mem_cons_of_mem _ (memoGet_sound h)
def memoA (tab : List (List AV × AV)) : Id → Nat → List AV → Hp → Option Res := fun _ _ xs _ => match memoGet tab xs with
  | some v => some ⟨v, [], true⟩
  | none => none
/-- No label stands in what is handed in, nor in what is handed back. -/
structure Plain (e : List AV × AV) : Prop where
  labs : labsAs e.1 = []
  cvs : AV.cvs [] e.1 = some e.1
  lab : labsA e.2 = []
  cv : e.2.cv [] = some e.2
theorem memoA_ok {X : PX} (hX : X.Sound) {f : FuncId} {n : Nat} {tab : List (List AV × AV)} (h : ∀ e ∈ tab, Plain e ∧ firstR (S X n f e.1 1 .nil []) = some e.2) : CtOk (cx X f fun _ _ _ _ _ => none) f (.det (memoA tab)) := by
  intro p d xs σ K hk E w vals hg hh hp hv
  refine canF_ok (C := cx X f fun _ _ _ _ _ => none) hX.gl (S_ok hX n f) p d xs σ K ?_ E w vals hg hh hp hv
  simp only [Ct.asks] at hk ⊢
  split at hk
  · rename_i r hr
    unfold memoA at hr
    split at hr
    · rename_i v hfind; cases hr
      obtain ⟨hpl, hrun⟩ := h _ (memoGet_sound hfind)
      have : canF (S X n f) p xs σ = some ⟨v, [], true⟩ := by
        unfold canF
        have hr0 : reach σ 100000 (labsAs xs) [] = [] := by rw [hpl.labs]; rfl
        simp only [hr0, inM, chkM, List.all_nil, cvH, hpl.cvs]
        unfold firstR at hrun
        split at hrun
        · rename_i x c' σ' ws' hs; cases hrun
          rw [hs]
          have hr1 : reach σ' 100000 (labsA v ++ ([] : List Mv).map (·.l')) [] = [] := by rw [hpl.lab]; rfl
          simp only [retF, outM, hr1, notIn, outNew, List.append_nil, chkM, List.all_nil, outU, hpl.cv]
        · cases hrun
      rw [this]; exact hk
    · cases hr
  · exact hk.elim
end
end Go.AS
