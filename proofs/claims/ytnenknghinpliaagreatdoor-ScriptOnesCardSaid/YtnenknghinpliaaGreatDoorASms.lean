/- What a function answered, and left in memory, at arguments and memory that were tried. -/
import Derived.Test.YtnenknghinpliaaGreatDoorASeq
namespace Go.AS
noncomputable section

def hpOf : List (Nat × Ent) → Hp
  | [] => .nil
  | q :: r => aset (hpOf r) q.1 q.2
def cvL (σ : Hp) (M : List Mv) : List Mv → Option (List (Nat × Ent))
  | [] => some []
  | m :: r => match aget σ m.l with
    | some e => match e.obj.cv M, cvL σ M r with
      | some o, some τ => some ((m.l', ⟨m.i', o⟩) :: τ)
      | _, _ => none
    | none => none
theorem cvL_hp {σ : Hp} {M : List Mv} : ∀ {N : List Mv} {h : List (Nat × Ent)}, cvL σ M N = some h → cvH σ M N = some (hpOf h) ∧ h.map (·.1) = N.map (·.l')
  | [], h, hc => by cases hc; exact ⟨rfl, rfl⟩
  | m :: r, h, hc => by
    unfold cvL at hc
    split at hc
    · rename_i e he
      split at hc
      · rename_i o τ ho hτ; cases hc
        obtain ⟨h1, h2⟩ := cvL_hp hτ
        refine ⟨?_, by rw [List.map_cons, List.map_cons, h2]⟩
        unfold cvH
        rw [he]; simp only [ho, h1]; rfl
      · cases hc
    · cases hc
/-- Arguments and memory, under a call's own names; what is handed back, and what is changed. -/
structure MsE where
  ys : List AV
  h : List (Nat × Ent)
  x : AV
  upd : Upd
def MsOk (X : PX) (n : Nat) (f : FuncId) (e : MsE) : Prop := canF (S X n f) [1] e.ys (hpOf e.h) = some ⟨e.x, e.upd, true⟩
def msGet : List MsE → List AV → List (Nat × Ent) → Option MsE
  | [], _, _ => none
  | e :: r, ys, h => match eqAs (eqB 30) ys e.ys && updEq h e.h with
    | true => some e
    | false => msGet r ys h
theorem msGet_sound : ∀ {tab : List MsE} {ys : List AV} {h : List (Nat × Ent)} {e : MsE}, msGet tab ys h = some e → e ∈ tab ∧ ys = e.ys ∧ h = e.h
  | [], _, _, _, h => by cases h
  | q :: r, ys, h, e, hg => by
    unfold msGet at hg
    split at hg
    · rename_i hc; cases hg
      rw [Bool.and_eq_true] at hc
      exact ⟨List.mem_cons_self .., eqAs_sound (eqB_sound 30) hc.1, updEq_sound hc.2⟩
    · obtain ⟨h1, h2⟩ := msGet_sound hg
      exact ⟨List.mem_cons_of_mem _ h1, h2⟩
def msX (tab : List MsE) : Id → Nat → List AV → Hp → Option Res := fun p _ xs σ =>
  let M := inM σ (reach σ 100000 (labsAs xs) []) 0
  match chkM M with
  | true => match cvL σ M M, AV.cvs M xs with
    | some h, some ys => match msGet tab ys h with
      | some e => retF [] p M e.x ((hpOf e.h).app e.upd) (addL e.upd [])
      | none => none
    | _, _ => none
  | false => none
theorem msX_ok {X : PX} (hX : X.Sound) {f : FuncId} {n : Nat} {tab : List MsE} (h : ∀ e ∈ tab, MsOk X n f e) : CtOk (cx X f fun _ _ _ _ _ => none) f (.det (msX tab)) := by
  intro p d xs σ K hk E w vals hg hh hp hv
  simp only [Ct.asks] at hk
  split at hk
  · rename_i r hr
    obtain ⟨hok, hK⟩ := hk
    unfold msX at hr
    generalize hls : reach σ 100000 (labsAs xs) [] = ls at hr
    simp only at hr
    split at hr
    · rename_i hchk
      have hsd := chkM_sound hchk
      split at hr
      · rename_i hl ys hhl hys
        obtain ⟨hσc, hlab⟩ := cvL_hp hhl
        split at hr
        · rename_i e he
          obtain ⟨hmem, rfl, rfl⟩ := msGet_sound he
          have hrun := h e hmem
          have hmv := in_moves (E := E) hsd
          have hvc : RR (EnvIn E (inM σ ls 0)) .vs e.ys vals := hv.cv hmv hys
          have := canF_ok (C := cx X f fun _ _ _ _ _ => none) hX.gl (S_ok hX n f) [1] d e.ys (hpOf e.h) (fun x u => x = e.x ∧ u = e.upd) (by
            simp only [Ct.asks]
            unfold MsOk at hrun
            rw [hrun]; exact ⟨rfl, rfl, rfl⟩) (EnvIn E (inM σ ls 0)) w vals (fun g x hx => GV.cv hmv (hg g x hx) (hX.gl g x hx _)) (in_holds hh hsd hσc) (in_fresh (Nat.le_refl _)) hvc
          refine Does.imp this ?_
          rintro v w' ⟨E1, x, upd, ⟨rfl, rfl⟩, k1, k2, k3, _⟩
          obtain ⟨news, u1, u2, r2, r3, r4, r5, r6⟩ := retF_some hr
          have hgr := Grows.app (hpOf e.h) [] e.upd
          obtain ⟨s1, s2, s3, s4⟩ := call_frame hh hp hsd hσc k2 k3 (ws := addL e.upd []) (fun l hl => (hgr.same l hl).2) (fun l hl => by cases hl) (chkM_sound r2) r3 r4 fun mm hm => by
            obtain ⟨e0, he0⟩ := cvH_get hσc hm
            exact hgr.keep _ _ he0
          exact ⟨_, r.x, r.upd, hK, k1.cv s4 r5, by rw [r6]; exact s1, by rw [r6]; exact s2, s3⟩
        · cases hr
      · cases hr
    · cases hr
  · exact hk.elim
end
end Go.AS
