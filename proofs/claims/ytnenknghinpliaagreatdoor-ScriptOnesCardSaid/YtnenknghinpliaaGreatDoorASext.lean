/- Functions without a body. -/
import Derived.Test.YtnenknghinpliaaGreatDoorASz
import Derived.Laws.Externs
namespace Go.AS
noncomputable section

def valsE : List AV → Option (List Value)
  | [] => some []
  | x :: xs => match x.val?, valsE xs with
    | some v, some vs => some (v :: vs)
    | _, _ => none
theorem valsE_sound {E : Env} : ∀ {xs : List AV} {us vs : List Value}, RR E .vs xs us → valsE xs = some vs → us = vs
  | [], us, vs, h, h2 => by cases h2; exact h.vs_nil_inv
  | x :: xs, us, vs, h, h2 => by
    obtain ⟨v, us', h3, h4, rfl⟩ := h.vs_cons_inv
    unfold valsE at h2
    split at h2
    · rename_i v' vs' h5 h6; cases h2
      rw [val_sound h3 h5, valsE_sound h4 h6]
    · cases h2
/-- A function without a body that asks the program alone. -/
def pureX (P : Program) (e : Array Value → Sem Value) : Id → Nat → List AV → Hp → Option Res := fun _ _ xs _ => match valsE xs with
  | some vs => match pureP P (e vs.toArray) with
    | some v => some ⟨.lit v, [], true⟩
    | none => none
  | none => none
structure IsExt (P : Program) (f : FuncId) (fn : Func) (e : Array Value → Sem Value) : Prop where
  at_ : P.funcs[f]? = some fn
  name : (fn.name == "runtime.NumGoroutine") = false
  body : fn.body.isNone = true
  next : (Extern.findNext fn).isNone = true
  is : Extern.find fn = some e
theorem IsExt.run {P : Program} {f : FuncId} {fn : Func} {e : Array Value → Sem Value} (h : IsExt P f fn e) (args : Array Value) (w : World) : (callFunc f args).run P w = ((e args).run P w).andThen fun v w' => .ok (.value v) w' :=
  run_callFunc_extern h.at_ h.name h.body (by simpa using h.next) h.is args w
theorem pureX_ok {C : Cx} {f : FuncId} {fn : Func} {e : Array Value → Sem Value} (h : IsExt C.P f fn e) : CtOk C f (.det (pureX C.P e)) := by
  intro p d xs σ K hk E w vals hg hh hp hv
  simp only [Ct.asks] at hk
  split at hk
  · rename_i r hr
    unfold pureX at hr
    split at hr
    · rename_i vs hvs
      split at hr
      · rename_i v hrun; cases hr
        have := valsE_sound hv hvs; subst this
        refine .inr ⟨v, w, ?_, E, .lit v, [], hk.2, .lit v, hh, .refl _ _ _, .refl _ _⟩
        rw [h.run, pureP_sound hrun w]; rfl
      · cases hr
    · cases hr
  · exact hk.elim

/-! What a function answers at arguments that were tried. -/
def litEq : Value → Value → Bool
  | .int k a, .int j b => decide (k = j ∧ a = b)
  | .string a, .string b => decide (a = b)
  | .bool a, .bool b => decide (a = b)
  | _, _ => false
theorem litEq_sound {u v : Value} (h : litEq u v = true) : u = v := by
  unfold litEq at h
  split at h
  · obtain ⟨rfl, rfl⟩ := of_decide_eq_true h; rfl
  · obtain rfl := of_decide_eq_true h; rfl
  · obtain rfl := of_decide_eq_true h; rfl
  · cases h
def litsEq : List AV → List Value → Bool
  | [], [] => true
  | .lit u :: xs, v :: vs => match litEq u v with
    | true => litsEq xs vs
    | false => false
  | _, _ => false
theorem litsEq_sound : ∀ {xs : List AV} {vs : List Value}, litsEq xs vs = true → xs = vs.map .lit
  | [], [], _ => rfl
  | .lit u :: xs, v :: vs, h => by
    unfold litsEq at h
    split at h
    · rename_i hu; rw [litEq_sound hu, litsEq_sound h]; rfl
    · cases h
  | [], _ :: _, h => by unfold litsEq at h; cases h
  | .lit _ :: _, [], h => by unfold litsEq at h; cases h
  | .ptr .. :: _, vs, h => by cases vs <;> (unfold litsEq at h; cases h)
  | .slc .. :: _, vs, h => by cases vs <;> (unfold litsEq at h; cases h)
  | .ref .. :: _, vs, h => by cases vs <;> (unfold litsEq at h; cases h)
  | .lst .. :: _, vs, h => by cases vs <;> (unfold litsEq at h; cases h)
  | .mp .. :: _, vs, h => by cases vs <;> (unfold litsEq at h; cases h)
  | .mpv .. :: _, vs, h => by cases vs <;> (unfold litsEq at h; cases h)
  | .fn .. :: _, vs, h => by cases vs <;> (unfold litsEq at h; cases h)
  | .iface .. :: _, vs, h => by cases vs <;> (unfold litsEq at h; cases h)
  | .agg .. :: _, vs, h => by cases vs <;> (unfold litsEq at h; cases h)
  | .tup .. :: _, vs, h => by cases vs <;> (unfold litsEq at h; cases h)
def memoFind : List (List Value × Value) → List AV → Option Value
  | [], _ => none
  | (vs, v) :: r, xs => match litsEq xs vs with
    | true => some v
    | false => memoFind r xs
theorem memoFind_sound : ∀ {tab : List (List Value × Value)} {xs : List AV} {v : Value}, memoFind tab xs = some v → ∃ vs, (vs, v) ∈ tab ∧ xs = vs.map .lit
  | [], _, _, h => by cases h
  | (vs, v) :: r, xs, u, h => by
    unfold memoFind at h
    split at h
    · rename_i he; cases h; exact ⟨vs, List.mem_cons_self .., litsEq_sound he⟩
    · obtain ⟨ws, h1, h2⟩ := memoFind_sound h; exact ⟨ws, List.mem_cons_of_mem _ h1, h2⟩
def memoT (tab : List (List Value × Value)) : Id → Nat → List AV → Hp → Option Res := fun _ _ xs _ => match memoFind tab xs with
  | some v => some ⟨.lit v, [], true⟩
  | none => none
theorem labs_lits : ∀ vs : List Value, labsAs (vs.map .lit) = []
  | [] => by simp [labsAs]
  | v :: vs => by simp [labsAs, labsA, labs_lits vs]
theorem cvs_lits : ∀ vs : List Value, AV.cvs [] (vs.map .lit) = some (vs.map .lit)
  | [] => by simp [AV.cvs]
  | v :: vs => by simp [AV.cvs, AV.cv, cvs_lits vs]
/-- The call's first result. -/
def firstR (r : CallR) : Option AV := match r with
  | some (x, _, _, _) => some x
  | none => none
theorem memo_ok {X : PX} (hX : X.Sound) {f : FuncId} {n : Nat} {tab : List (List Value × Value)} (h : ∀ e ∈ tab, firstR (S X n f (e.1.map .lit) 1 .nil []) = some (.lit e.2)) : CtOk (cx X f fun _ _ _ _ _ => none) f (.det (memoT tab)) := by
  intro p d xs σ K hk E w vals hg hh hp hv
  refine canF_ok (C := cx X f fun _ _ _ _ _ => none) hX.gl (S_ok hX n f) p d xs σ K ?_ E w vals hg hh hp hv
  simp only [Ct.asks] at hk ⊢
  split at hk
  · rename_i r hr
    unfold memoT at hr
    split at hr
    · rename_i v hfind; cases hr
      obtain ⟨vs, hmem, rfl⟩ := memoFind_sound hfind
      have hrun := h _ hmem
      have : canF (S X n f) p (vs.map .lit) σ = some ⟨.lit v, [], true⟩ := by
        unfold canF
        have hr0 : reach σ 100000 (labsAs (vs.map .lit)) [] = [] := by rw [labs_lits]; rfl
        simp only [hr0, inM, chkM, List.all_nil, cvH, cvs_lits]
        unfold firstR at hrun
        split at hrun
        · rename_i x c' σ' ws' hs; cases hrun
          rw [hs]
          have hr1 : reach σ' 100000 (labsA (.lit v) ++ ([] : List Mv).map (·.l')) [] = [] := by rw [labsA]; rfl
          simp only [retF, outM, hr1, notIn, outNew, List.append_nil, chkM, List.all_nil, outU, AV.cv]
        · cases hrun
      rw [this]; exact hk
    · cases hr
  · exact hk.elim
end
end Go.AS
