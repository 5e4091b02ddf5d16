/- The walk over code. -/
import Derived.Test.YtnenknghinpliaaGreatDoorASt
namespace Go.AS
noncomputable section

section
variable {C : Cx} {n : Nat} {p : Id}
/-- The walk over code; loops are left. -/
def runC (C : Cx) (n : Nat) (p : Id) : Code → Nat → Fr → Hp → PostK → Prop
  | .skip, c, fr, σ, Q => Q .normal c fr σ
  | .region i ops d, c, fr, σ, Q => match d with
    | false => opsR C n p ops.toList ops.toList c fr σ (Q .normal)
    | true => opsW C n p ops.toList c ops.toList 0 fr σ [] fun log fr σ => Holds1 (fun _ => planOk n ops.toList log) ∧ Q .normal (c + 1) fr σ
  | .seq x y, c, fr, σ, Q => runC C n p x c fr σ (seqK Q fun c fr σ => runC C n p y c fr σ Q)
  | .cond o x y, c, fr, σ, Q => match ev C fr o with
    | some (.lit (.bool t)) => match t with
      | true => runC C n p x c fr σ Q
      | false => runC C n p y c fr σ Q
    | _ => False
  | .block i x, c, fr, σ, Q => runC C n p x c fr σ (blockK i Q)
  | .loop x, c, fr, σ, Q => Left C n p (.loop x) c fr σ Q
  | .exit i, c, fr, σ, Q => Q (.exit i) c fr σ
  | .ret, c, fr, σ, Q => Q .ret c fr σ
  | _, _, _, _, _ => False
theorem runC_sound {C : Cx} (hC : C.Sound) {n : Nat} {p : Id} : ∀ (code : Code) (c : Nat) (fr : Fr) (σ : Hp) (Q : PostK), runC C n p code c fr σ Q → AX C n p code c fr σ Q := by
  intro code
  induction code with
  | skip => intro c fr σ Q h; exact .skip h
  | region i ops d =>
    intro c fr σ Q h
    cases d
    · exact .region hC h
    · exact .draw hC hC.mix h
  | seq x y hx hy =>
    intro c fr σ Q h
    refine .seq ((hx c fr σ (seqK Q fun c fr σ => runC C n p y c fr σ Q) h).mono ?_)
    · intro e c fr σ k
      cases e with
      | normal => exact hy c fr σ Q k
      | exit j => exact k
      | ret => exact k
  | cond o x y hx hy =>
    intro c fr σ Q h
    unfold runC at h
    split at h
    · rename_i t ht
      refine .cond ht ?_
      split at h
      · exact hx _ _ _ _ h
      · exact hy _ _ _ _ h
    · exact h.elim
  | block i x hx => intro c fr σ Q h; exact .block (hx c fr σ _ h)
  | loop x hx => intro c fr σ Q h; exact h.1
  | exit i => intro c fr σ Q h; exact .exit h
  | ret => intro c fr σ Q h; exact .ret h
  | _ => intro c fr σ Q h; exact h.elim
end
end
end Go.AS
