/- A call that sees a part of its caller's memory, under labels and names of its own. -/
import Derived.Test.YtnenknghinpliaaGreatDoorASw
namespace Go.AS
noncomputable section

/-- What is handed in. -/
def inM (σ : Hp) : List Nat → Nat → List Mv
  | [], _ => []
  | l :: r, j => match aget σ l with
    | some e => ⟨l, e.id, enc [j, 0], [j, 0]⟩ :: inM σ r (j + 1)
    | none => inM σ r j
theorem inM_spec {σ : Hp} : ∀ {ls : List Nat} {j : Nat} {m : Mv}, m ∈ inM σ ls j → m.l ∈ ls ∧ (∃ e, aget σ m.l = some e ∧ e.id = m.i) ∧ ∃ t, m.i' = [t, 0]
  | [], _, _, h => by cases h
  | l :: r, j, m, h => by
    unfold inM at h
    split at h
    · rename_i e he
      rcases List.mem_cons.1 h with rfl | h
      · exact ⟨List.mem_cons_self .., ⟨e, he, rfl⟩, j, rfl⟩
      · obtain ⟨h1, h2⟩ := inM_spec h; exact ⟨List.mem_cons_of_mem _ h1, h2⟩
    · obtain ⟨h1, h2⟩ := inM_spec h; exact ⟨List.mem_cons_of_mem _ h1, h2⟩
theorem inM_all {σ : Hp} : ∀ {ls : List Nat} {j : Nat} {l : Nat} {e : Ent}, l ∈ ls → aget σ l = some e → ∃ m ∈ inM σ ls j, m.l = l
  | [], _, _, _, h, _ => by cases h
  | q :: r, j, l, e, h, he => by
    unfold inM
    by_cases hq : l = q
    · subst hq; rw [he]; exact ⟨_, List.mem_cons_self .., rfl⟩
    · rcases List.mem_cons.1 h with h | h
      · exact absurd h hq
      · cases hqe : aget σ q with
        | some e' => obtain ⟨m, h1, h2⟩ := inM_all (j := j + 1) h he; exact ⟨m, List.mem_cons_of_mem _ h1, h2⟩
        | none => obtain ⟨m, h1, h2⟩ := inM_all (j := j) h he; exact ⟨m, h1, h2⟩
def cvH (σ : Hp) (M : List Mv) : List Mv → Option Hp
  | [] => some .nil
  | m :: r => match aget σ m.l with
    | some e => match e.obj.cv M, cvH σ M r with
      | some o, some τ => some (aset τ m.l' ⟨m.i', o⟩)
      | _, _ => none
    | none => none
theorem cvH_spec {σ : Hp} {M : List Mv} : ∀ {N : List Mv} {τ : Hp} {l : Nat} {e' : Ent}, cvH σ M N = some τ → aget τ l = some e' → ∃ m ∈ N, m.l' = l ∧ e'.id = m.i' ∧ ∃ e, aget σ m.l = some e ∧ e.obj.cv M = some e'.obj
  | [], τ, l, e', h, h2 => by cases h; rw [aget_nil] at h2; cases h2
  | m :: r, τ, l, e', h, h2 => by
    unfold cvH at h
    split at h
    · rename_i e he
      split at h
      · rename_i o τ' ho hτ; cases h
        rw [aget_aset] at h2
        split at h2
        · rename_i hl; cases h2; exact ⟨m, List.mem_cons_self .., hl.symm, rfl, e, he, ho⟩
        · obtain ⟨q, h3, h4⟩ := cvH_spec hτ h2; exact ⟨q, List.mem_cons_of_mem _ h3, h4⟩
      · cases h
    · cases h
theorem cvH_get {σ : Hp} {M : List Mv} : ∀ {N : List Mv} {τ : Hp} {m : Mv}, cvH σ M N = some τ → m ∈ N → ∃ e, aget τ m.l' = some e
  | [], _, _, _, h => by cases h
  | q :: r, τ, m, h, hm => by
    unfold cvH at h
    split at h
    · split at h
      · rename_i o τ' ho hτ; cases h
        rw [aget_aset]
        split
        · exact ⟨_, rfl⟩
        · rename_i hne
          rcases List.mem_cons.1 hm with rfl | hm
          · exact absurd rfl hne
          · exact cvH_get hτ hm
      · cases h
    · cases h

/-- Labels and names are told apart. -/
def chkM (M : List Mv) : Bool := M.all fun m =>
  (match mvTo M m.i' with | some q => idEq q.i m.i | none => false) &&
  (match mvAt M m.l with | some q => Nat.beq q.l' m.l' | none => false) &&
  (match mvAt (M.map Mv.back) m.l' with | some q => Nat.beq q.l' m.l && idEq q.i' m.i && idEq q.i m.i' | none => false)
structure Sound (M : List Mv) : Prop where
  to : ∀ m ∈ M, ∃ q, mvTo M m.i' = some q ∧ q.i = m.i
  at_ : ∀ m ∈ M, ∃ q, mvAt M m.l = some q ∧ q.l' = m.l'
  back : Backs M
theorem chkM_sound {M : List Mv} (h : chkM M = true) : Sound M := by
  have h := fun m hm => List.all_eq_true.1 h m hm
  refine ⟨fun m hm => ?_, fun m hm => ?_, fun m hm => ?_⟩ <;>
  · have h := h m hm
    simp only [Bool.and_eq_true] at h
    obtain ⟨⟨h1, h2⟩, h3⟩ := h
    first
    | (split at h1
       · rename_i q hq; exact ⟨q, hq, idEq_sound h1⟩
       · cases h1)
    | (split at h2
       · rename_i q hq; exact ⟨q, hq, Nat.eq_of_beq_eq_true h2⟩
       · cases h2)
    | (split at h3
       · rename_i q hq
         simp only [Bool.and_eq_true] at h3
         obtain ⟨⟨k1, k2⟩, k3⟩ := h3
         obtain ⟨_, k4⟩ := mvAt_mem hq
         rw [hq]
         obtain ⟨a, b, c, d⟩ := q
         simp only at k1 k2 k3 k4
         simp only [Mv.back, k4, idEq_sound k3, Nat.eq_of_beq_eq_true k1, idEq_sound k2]
       · cases h3)

/-- What the called function knows. -/
theorem GV.cv {E E' : Env} {M : List Mv} (hM : Moves E E' M) {x : AV} {g : Nat} (h : GV E x g) (hy : x.cv M = some x) : GV E' x g := ⟨VR.cv hM h.vr hy, fun vs hv => let ⟨t, fz, k⟩ := h.tab vs hv; ⟨t, fz, hM.m _ _ k⟩⟩
def EnvIn (E : Env) (M : List Mv) : Env := ⟨fun i => match mvTo M i with | some m => E.ρ m.i | none => none, E.m⟩
section
variable {E : Env} {σ σc : Hp} {w : World} {ls : List Nat} {j : Nat}
theorem in_moves (hs : Sound (inM σ ls j)) : Moves E (EnvIn E (inM σ ls j)) (inM σ ls j) := by
  refine ⟨fun m hm L hL => ?_, fun _ _ h => h⟩
  obtain ⟨q, h1, h2⟩ := hs.to m hm
  simp only [EnvIn, h1, h2]; exact hL
theorem in_own (hs : Sound (inM σ ls j)) (hc : cvH σ (inM σ ls j) (inM σ ls j) = some σc) {b : Nat} (h : Own (EnvIn E (inM σ ls j)) σc b) : Own E (restr ls σ) b := by
  obtain ⟨l, e, L, h1, h2, h3⟩ := h
  obtain ⟨m, h4, rfl, h6, e0, h7, h8⟩ := cvH_spec hc h1
  obtain ⟨h9, ⟨e1, h10, h11⟩, _⟩ := inM_spec h4
  rw [h7] at h10; cases h10
  obtain ⟨q, k1, k2⟩ := hs.to m h4
  rw [h6] at h2
  simp only [EnvIn, k1, k2] at h2
  exact ⟨m.l, e0, L, restr_get h9 h7, by rw [h11]; exact h2, h3⟩
theorem in_holds (hh : Holds E σ w) (hs : Sound (inM σ ls j)) (hc : cvH σ (inM σ ls j) (inM σ ls j) = some σc) : Holds (EnvIn E (inM σ ls j)) σc w := by
  refine ⟨hh.imm, fun l e he => ?_, fun b hb => ?_, fun l1 l2 e1 e2 L1 L2 b h1 h2 h3 h4 h5 h6 => ?_⟩
  · obtain ⟨m, h4, rfl, h6, e0, h7, h8⟩ := cvH_spec hc he
    obtain ⟨h9, ⟨e1, h10, h11⟩, _⟩ := inM_spec h4
    rw [h7] at h10; cases h10
    obtain ⟨L, k1, k2⟩ := hh.own _ _ h7
    refine ⟨L, ?_, k2.cv (in_moves hs) h8⟩
    rw [h6]; exact (in_moves hs).ρ m h4 L (by rw [← h11]; exact k1)
  · obtain ⟨l, e, L, h1, h2, h3⟩ := in_own hs hc hb
    exact hh.apart b ⟨l, e, L, (restr_sub _ _ _ _ h1).2, h2, h3⟩
  · obtain ⟨m1, a1, rfl, a2, d1, a3, _⟩ := cvH_spec hc h1
    obtain ⟨m2, b1, rfl, b2, d2, b3, _⟩ := cvH_spec hc h2
    obtain ⟨_, ⟨f1, a4, a5⟩, _⟩ := inM_spec a1
    obtain ⟨_, ⟨f2, b4, b5⟩, _⟩ := inM_spec b1
    rw [a3] at a4; cases a4
    rw [b3] at b4; cases b4
    obtain ⟨q1, c1, c2⟩ := hs.to m1 a1
    obtain ⟨q2, c3, c4⟩ := hs.to m2 b1
    rw [a2] at h3; rw [b2] at h4
    simp only [EnvIn, c1, c2] at h3
    simp only [EnvIn, c3, c4] at h4
    have := hh.inj m1.l m2.l d1 d2 L1 L2 b a3 b3 (by rw [a5]; exact h3) (by rw [b5]; exact h4) h5 h6
    obtain ⟨q1, k1, k2⟩ := hs.at_ m1 a1
    obtain ⟨q2, k3, k4⟩ := hs.at_ m2 b1
    rw [this, k3] at k1; cases k1
    rw [← k2, k4]
theorem in_fresh {k : Nat} (hk : 1 ≤ k) : Fresh (EnvIn E (inM σ ls j)) [k] := by
  intro i hi
  simp only [EnvIn]
  cases h : mvTo (inM σ ls j) i with
  | none => rfl
  | some m =>
    obtain ⟨h1, h2⟩ := mvTo_mem h
    obtain ⟨_, _, t, h3⟩ := inM_spec h1
    rw [h3] at h2; subst h2
    obtain ⟨x, hx⟩ := hi
    have := congrArg List.getLast? hx
    simp at this; omega
end

/-- What is handed out: the pieces that were handed in. -/
def outM (fc : List Nat) (σ' : Hp) (p : Id) : List Mv → Nat → List Mv
  | [], _ => []
  | m :: r, j => match aget σ' m.l' with
    | some e => ⟨m.l', e.id, m.l, match idEq e.id m.i' && !hasN fc m.l' with | true => m.i | false => j :: p⟩ :: outM fc σ' p r (j + 1)
    | none => outM fc σ' p r (j + 1)
/-- What is handed out: new ones. -/
def outNew (σ' : Hp) (p : Id) : List Nat → Nat → List Mv
  | [], _ => []
  | l :: r, j => match aget σ' l with
    | some e => ⟨l, e.id, enc (j :: p), j :: p⟩ :: outNew σ' p r (j + 1)
    | none => outNew σ' p r j
theorem outM_spec {fc : List Nat} {σ' : Hp} {p : Id} : ∀ {M : List Mv} {j : Nat} {q : Mv}, q ∈ outM fc σ' p M j → ∃ e, aget σ' q.l = some e ∧ e.id = q.i ∧ ∃ m ∈ M, q.l = m.l' ∧ q.l' = m.l ∧ ((q.i = m.i' ∧ q.i' = m.i) ∨ p <:+ q.i')
  | [], _, _, h => by cases h
  | m :: r, j, q, h => by
    unfold outM at h
    split at h
    · rename_i e he
      rcases List.mem_cons.1 h with rfl | h
      · refine ⟨e, he, rfl, m, List.mem_cons_self .., rfl, rfl, ?_⟩
        simp only
        split
        · rename_i hi; simp only [Bool.and_eq_true] at hi; exact .inl ⟨idEq_sound hi.1, rfl⟩
        · exact .inr (List.suffix_cons _ _)
      · obtain ⟨e', h1, h2, m', h3, h4⟩ := outM_spec h; exact ⟨e', h1, h2, m', List.mem_cons_of_mem _ h3, h4⟩
    · obtain ⟨e', h1, h2, m', h3, h4⟩ := outM_spec h; exact ⟨e', h1, h2, m', List.mem_cons_of_mem _ h3, h4⟩
theorem outM_get {fc : List Nat} {σ' : Hp} {p : Id} : ∀ {M : List Mv} {j : Nat} {m : Mv}, m ∈ M → (∃ e, aget σ' m.l' = some e) → ∃ q ∈ outM fc σ' p M j, q.l = m.l' ∧ q.l' = m.l
  | [], _, _, h, _ => by cases h
  | m :: r, j, m', h, he => by
    unfold outM
    rcases List.mem_cons.1 h with rfl | h
    · obtain ⟨e, he⟩ := he
      rw [he]; exact ⟨_, List.mem_cons_self .., rfl, rfl⟩
    · obtain ⟨q, h1, h2⟩ := outM_get (σ' := σ') (p := p) (j := j + 1) h he
      split
      · exact ⟨q, List.mem_cons_of_mem _ h1, h2⟩
      · exact ⟨q, h1, h2⟩
theorem outM_kept {fc : List Nat} {σ' : Hp} {p : Id} : ∀ {M : List Mv} {j : Nat} {q : Mv}, q ∈ outM fc σ' p M j → (∃ m ∈ M, q.l = m.l' ∧ q.l' = m.l ∧ q.i = m.i' ∧ q.i' = m.i) ∨ (∃ m ∈ M, q.l = m.l' ∧ q.i ≠ m.i') ∨ hasN fc q.l = true
  | [], _, _, h => by cases h
  | m :: r, j, q, h => by
    unfold outM at h
    split at h
    · rename_i e he
      rcases List.mem_cons.1 h with rfl | h
      · simp only
        split
        · rename_i hi; simp only [Bool.and_eq_true] at hi; exact .inl ⟨m, List.mem_cons_self .., rfl, rfl, idEq_sound hi.1, rfl⟩
        · rename_i hi
          by_cases hf : hasN fc m.l' = true
          · exact .inr (.inr hf)
          · refine .inr (.inl ⟨m, List.mem_cons_self .., rfl, fun h => ?_⟩)
            have hf : hasN fc m.l' = false := by simpa using hf
            rw [h, idEq_refl, hf] at hi; cases hi
      · rcases outM_kept h with ⟨m', h3, h4⟩ | ⟨m', h3, h4⟩ | h3
        · exact .inl ⟨m', List.mem_cons_of_mem _ h3, h4⟩
        · exact .inr (.inl ⟨m', List.mem_cons_of_mem _ h3, h4⟩)
        · exact .inr (.inr h3)
    · rcases outM_kept h with ⟨m', h3, h4⟩ | ⟨m', h3, h4⟩ | h3
      · exact .inl ⟨m', List.mem_cons_of_mem _ h3, h4⟩
      · exact .inr (.inl ⟨m', List.mem_cons_of_mem _ h3, h4⟩)
      · exact .inr (.inr h3)
theorem outNew_spec {σ' : Hp} {p : Id} : ∀ {ls : List Nat} {j : Nat} {q : Mv}, q ∈ outNew σ' p ls j → ∃ e, aget σ' q.l = some e ∧ e.id = q.i ∧ p <:+ q.i'
  | [], _, _, h => by cases h
  | l :: r, j, q, h => by
    unfold outNew at h
    split at h
    · rename_i e he
      rcases List.mem_cons.1 h with rfl | h
      · exact ⟨e, he, rfl, List.suffix_cons _ _⟩
      · exact outNew_spec h
    · exact outNew_spec h
/-- The changes that the caller sees; what was not written is left out. -/
def outU (σ' : Hp) (N : List Mv) (skip : Nat → Bool) : List Mv → Option Upd
  | [] => some []
  | q :: r => match skip q.l with
    | true => outU σ' N skip r
    | false => match aget σ' q.l with
      | some e => match e.obj.cv N, outU σ' N skip r with
        | some o, some u => some ((q.l', ⟨q.i', o⟩) :: u)
        | _, _ => none
      | none => none
theorem outU_spec {σ' : Hp} {N : List Mv} {skip : Nat → Bool} : ∀ {R : List Mv} {u : Upd} {l : Nat} {e' : Ent}, outU σ' N skip R = some u → ulast u l = some e' →
    ∃ q ∈ R, q.l' = l ∧ e'.id = q.i' ∧ ∃ e, aget σ' q.l = some e ∧ e.obj.cv N = some e'.obj
  | [], u, l, e', h, h2 => by cases h; cases h2
  | q :: r, u, l, e', h, h2 => by
    unfold outU at h
    split at h
    · obtain ⟨q', h3, h4⟩ := outU_spec h h2; exact ⟨q', List.mem_cons_of_mem _ h3, h4⟩
    · split at h
      · rename_i e he
        split at h
        · rename_i o u' ho hu; cases h
          unfold ulast at h2
          split at h2
          · rename_i e2 h5; cases h2
            obtain ⟨q', h3, h4⟩ := outU_spec hu h5; exact ⟨q', List.mem_cons_of_mem _ h3, h4⟩
          · split at h2
            · rename_i hl; cases h2; exact ⟨q, List.mem_cons_self .., hl, rfl, e, he, ho⟩
            · cases h2
        · cases h
      · cases h
theorem outU_none {σ' : Hp} {N : List Mv} {skip : Nat → Bool} : ∀ {R : List Mv} {u : Upd} {q : Mv}, outU σ' N skip R = some u → q ∈ R → ulast u q.l' = none → skip q.l = true
  | [], _, _, _, h, _ => by cases h
  | q :: r, u, q', h, hq, h2 => by
    unfold outU at h
    split at h
    · rename_i hs
      rcases List.mem_cons.1 hq with rfl | hq
      · exact hs
      · exact outU_none h hq h2
    · split at h
      · split at h
        · rename_i o u' ho hu; cases h
          unfold ulast at h2
          split at h2
          · cases h2
          · rename_i h5
            split at h2
            · cases h2
            · rename_i hne
              rcases List.mem_cons.1 hq with rfl | hq
              · exact absurd rfl hne
              · exact outU_none hu hq h5
        · cases h
      · cases h
theorem ulast_append : ∀ (u v : Upd) (l : Nat), ulast (u ++ v) l = (ulast v l).or (ulast u l)
  | [], v, l => by simp [ulast]
  | (j, e) :: u, v, l => by
    simp only [List.cons_append, ulast, ulast_append u v l]
    cases ulast v l <;> simp

open Classical in
/-- What the caller knows behind the call. -/
noncomputable def EnvOut (E E1 : Env) (p : Id) (N : List Mv) : Env := ⟨fun i => if p <:+ i then (match mvTo N i with | some q => E1.ρ q.i | none => none) else E.ρ i, E1.m⟩

section
variable {fc : List Nat} {E E1 : Env} {σ σc σ1 : Hp} {w w1 : World} {ls news : List Nat} {p : Id} {ws : List Nat} {u1 u2 : Upd} {k : Nat}
theorem call_frame (hh : Holds E σ w) (hp : Fresh E p) (hs : Sound (inM σ ls 0)) (hc : cvH σ (inM σ ls 0) (inM σ ls 0) = some σc) (h1 : Holds E1 σ1 w1) (ha : Adv (EnvIn E (inM σ ls 0)) σc w E1 σ1 w1)
    (hws : ∀ l, l ∉ ws → aget σ1 l = aget σc l) (hfc : ∀ l, hasN fc l = true → l ∈ ws) (hn : Sound (outM fc σ1 p (inM σ ls 0) 0 ++ outNew σ1 p news k))
    (hu1 : outU σ1 (outM fc σ1 p (inM σ ls 0) 0 ++ outNew σ1 p news k) (fun l => !hasN ws l) (outM fc σ1 p (inM σ ls 0) 0) = some u1)
    (hu2 : outU σ1 (outM fc σ1 p (inM σ ls 0) 0 ++ outNew σ1 p news k) (fun _ => false) (outNew σ1 p news k) = some u2) (hkeep : ∀ m ∈ inM σ ls 0, ∃ e, aget σ1 m.l' = some e) :
    Holds (EnvOut E E1 p (outM fc σ1 p (inM σ ls 0) 0 ++ outNew σ1 p news k)) (σ.app (u1 ++ u2)) w1 ∧ Adv E σ w (EnvOut E E1 p (outM fc σ1 p (inM σ ls 0) 0 ++ outNew σ1 p news k)) (σ.app (u1 ++ u2)) w1 ∧
      NewIn E (EnvOut E E1 p (outM fc σ1 p (inM σ ls 0) 0 ++ outNew σ1 p news k)) p ∧ Moves E1 (EnvOut E E1 p (outM fc σ1 p (inM σ ls 0) 0 ++ outNew σ1 p news k)) (outM fc σ1 p (inM σ ls 0) 0 ++ outNew σ1 p news k) := by
  generalize hM : inM σ ls 0 = M at *
  have hMs : ∀ m ∈ M, m.l ∈ ls ∧ (∃ e, aget σ m.l = some e ∧ e.id = m.i) ∧ ∃ t, m.i' = [t, 0] := fun m hm => by subst hM; exact inM_spec hm
  have hMa : ∀ l e, l ∈ ls → aget σ l = some e → ∃ m ∈ M, m.l = l := fun l e h h' => by subst hM; exact inM_all h h'
  have hMove : Moves E (EnvIn E M) M := by subst hM; exact in_moves hs
  have hOwn : ∀ b, Own (EnvIn E M) σc b → Own E (restr ls σ) b := fun b hb => by subst hM; exact in_own hs hc hb
  generalize hN : outM fc σ1 p M 0 ++ outNew σ1 p news k = N at *
  have hNs : ∀ q ∈ N, ∃ e, aget σ1 q.l = some e ∧ e.id = q.i ∧ ((∃ m ∈ M, q.l = m.l' ∧ q.l' = m.l ∧ q.i = m.i' ∧ q.i' = m.i) ∨ p <:+ q.i') := fun q hq => by
    rw [← hN] at hq
    rcases List.mem_append.1 hq with hq | hq
    · obtain ⟨e, a1, a2, m, a3, a4, a5, a6⟩ := outM_spec hq
      refine ⟨e, a1, a2, ?_⟩
      rcases a6 with a6 | a6
      · exact .inl ⟨m, a3, a4, a5, a6⟩
      · exact .inr a6
    · obtain ⟨e, a1, a2, a3⟩ := outNew_spec hq; exact ⟨e, a1, a2, .inr a3⟩
  -- a piece that was handed in stands where it stood
  have hold : ∀ m ∈ M, ∃ L, E.ρ m.i = some L ∧ E1.ρ m.i' = some L ∧ (EnvOut E E1 p N).ρ m.i = some L := fun m hm => by
    obtain ⟨_, ⟨e, a1, a2⟩, _⟩ := hMs m hm
    obtain ⟨L, a3, _⟩ := hh.own _ _ a1
    rw [a2] at a3
    refine ⟨L, a3, ha.le.ρ _ _ (hMove.ρ m hm L a3), ?_⟩
    have : ¬ p <:+ m.i := fun h => by rw [hp _ h] at a3; cases a3
    simp only [EnvOut, this, if_false]; exact a3
  have hmov : Moves E1 (EnvOut E E1 p N) N := by
    refine ⟨fun q hq L hL => ?_, fun _ _ h => h⟩
    obtain ⟨e, a1, a2, a3⟩ := hNs q hq
    rcases a3 with ⟨m, b1, b2, b3, b4, b5⟩ | b1
    · obtain ⟨L', c1, c2, c3⟩ := hold m b1
      rw [b4, c2] at hL; cases hL
      rw [b5]; exact c3
    · obtain ⟨q2, c1, c2⟩ := hn.to q hq
      simp only [EnvOut, b1, if_true, c1, c2]; exact hL
  have hback : Moves E1 (EnvOut E E1 p N) (M.map Mv.back) := by
    refine ⟨fun q hq L hL => ?_, fun _ _ h => h⟩
    obtain ⟨m, b1, rfl⟩ := List.mem_map.1 hq
    obtain ⟨L', c1, c2, c3⟩ := hold m b1
    simp only [Mv.back] at hL ⊢
    rw [c2] at hL; cases hL; exact c3
  -- the caller's pieces behind the call
  have hent : ∀ l e, aget (Hp.app (restr ls σ) (u1 ++ u2)) l = some e → ∃ q ∈ N, ∃ e1, aget σ1 q.l = some e1 ∧ e1.id = q.i ∧ l = q.l' ∧ e.id = q.i' ∧ (e1.obj.cv N = some e.obj ∨ e.obj.cv M = some e1.obj) := by
    intro l e h
    rw [aget_app, ulast_append] at h
    have hcase : (ulast u2 l = some e ∨ ulast u1 l = some e) ∨ (ulast u1 l = none ∧ aget (restr ls σ) l = some e) := by
      cases h2 : ulast u2 l with
      | some e2 => rw [h2] at h; simp at h; subst h; exact .inl (.inl rfl)
      | none =>
        rw [h2] at h
        cases h3 : ulast u1 l with
        | some e3 => rw [h3] at h; simp at h; subst h; exact .inl (.inr rfl)
        | none => rw [h3] at h; simp at h; exact .inr ⟨rfl, h⟩
    have fin : ∀ q ∈ N, q.l' = l → e.id = q.i' → (∃ e1, aget σ1 q.l = some e1 ∧ e1.obj.cv N = some e.obj) → ∃ q ∈ N, ∃ e1, aget σ1 q.l = some e1 ∧ e1.id = q.i ∧ l = q.l' ∧ e.id = q.i' ∧ (e1.obj.cv N = some e.obj ∨ e.obj.cv M = some e1.obj) :=
      fun q hq a2 a3 ⟨e1, a4, a5⟩ => by
        obtain ⟨e', b1, b2, _⟩ := hNs q hq
        rw [a4] at b1; cases b1
        exact ⟨q, hq, e1, a4, b2, a2.symm, a3, .inl a5⟩
    rcases hcase with (hc1 | hc1) | ⟨hc1, hc2⟩
    · obtain ⟨q, a1, a2, a3, a4⟩ := outU_spec hu2 hc1
      exact fin q (by rw [← hN]; exact List.mem_append_right _ a1) a2 a3 a4
    · obtain ⟨q, a1, a2, a3, a4⟩ := outU_spec hu1 hc1
      exact fin q (by rw [← hN]; exact List.mem_append_left _ a1) a2 a3 a4
    · obtain ⟨a1, a2⟩ := restr_sub _ _ _ _ hc2
      obtain ⟨m, b1, rfl⟩ := hMa l e a1 a2
      obtain ⟨q, b2, b3, b4⟩ := outM_get (p := p) (j := 0) b1 (hkeep m b1)
      have hsk := outU_none hu1 b2 (by rw [b4]; exact hc1)
      have hnw : q.l ∉ ws := fun h => by
        have := hasN_iff.2 h
        simp [this] at hsk
      obtain ⟨e0, b5⟩ := cvH_get hc b1
      obtain ⟨m', d1, d2, d3, e2, d4, d5⟩ := cvH_spec hc b5
      have hmm : m' = m := by
        have k1 := hs.back m b1
        have k2 := hs.back m' d1
        rw [d2, k1] at k2
        have := Option.some.inj k2
        simp only [Mv.back, Mv.mk.injEq] at this
        obtain ⟨c1, c2, c3, c4⟩ := this
        obtain ⟨x1, x2, x3, x4⟩ := m
        obtain ⟨y1, y2, y3, y4⟩ := m'
        simp only at c1 c2 c3 c4
        subst c1 c2 c3 c4; rfl
      subst hmm
      have k3 : aget σ1 q.l = some e0 := by rw [hws _ hnw, b3]; exact b5
      rw [a2] at d4; cases d4
      obtain ⟨e', f1, f2, f3⟩ := hNs q (by rw [← hN]; exact List.mem_append_left _ b2)
      rw [k3] at f1; cases f1
      obtain ⟨e'', g1, g2, m2, g3, g4, g5, g6⟩ := outM_spec b2
      have hid : q.i' = m'.i := by
        rcases outM_kept b2 with h9 | h9 | h9
        · obtain ⟨m3, n1, n2, n3, n4, n5⟩ := h9
          have : m3 = m' := by
            have k1 := hs.back m3 n1
            have k2 := hs.back m' d1
            rw [← b3, n2, k1] at k2
            have := Option.some.inj k2
            simp only [Mv.back, Mv.mk.injEq] at this
            obtain ⟨c1, c2, c3, c4⟩ := this
            obtain ⟨x1, x2, x3, x4⟩ := m3
            obtain ⟨y1, y2, y3, y4⟩ := m'
            simp only at c1 c2 c3 c4
            subst c1 c2 c3 c4; rfl
          subst this; exact n5
        · obtain ⟨m3, n1, n2, n3⟩ := h9
          have : m3 = m' := by
            have k1 := hs.back m3 n1
            have k2 := hs.back m' d1
            rw [← b3, n2, k1] at k2
            have := Option.some.inj k2
            simp only [Mv.back, Mv.mk.injEq] at this
            obtain ⟨c1, c2, c3, c4⟩ := this
            obtain ⟨x1, x2, x3, x4⟩ := m3
            obtain ⟨y1, y2, y3, y4⟩ := m'
            simp only at c1 c2 c3 c4
            subst c1 c2 c3 c4; rfl
          subst this
          rw [← f2, d3] at n3
          exact absurd rfl n3
        · exact absurd (hfc _ h9) hnw
      obtain ⟨_, ⟨e3, q1, q2⟩, _⟩ := hMs m' d1
      rw [a2] at q1; cases q1
      exact ⟨q, by rw [← hN]; exact List.mem_append_left _ b2, e0, k3, f2, b4.symm, by rw [hid]; exact q2, .inr d5⟩
  have hobj : ∀ l e, aget (Hp.app (restr ls σ) (u1 ++ u2)) l = some e → ∃ q ∈ N, ∃ e1 L, aget σ1 q.l = some e1 ∧ l = q.l' ∧ E1.ρ e1.id = some L ∧ (EnvOut E E1 p N).ρ e.id = some L ∧ ObjR E1 w1 e1.obj L ∧ ObjR (EnvOut E E1 p N) w1 e.obj L := by
    intro l e h
    obtain ⟨q, a1, e1, a2, a3, a4, a5, a6⟩ := hent l e h
    obtain ⟨L, b1, b2⟩ := h1.own _ _ a2
    refine ⟨q, a1, e1, L, a2, a4, b1, by rw [a5]; exact hmov.ρ q a1 L (by rw [← a3]; exact b1), b2, ?_⟩
    rcases a6 with a6 | a6
    · exact b2.cv hmov a6
    · exact b2.cv hback (AObj.cv_back hs.back a6)
  have howns : ∀ b, Own (EnvOut E E1 p N) (Hp.app (restr ls σ) (u1 ++ u2)) b → Own E1 σ1 b := by
    rintro b ⟨l, e, L, a1, a2, a3⟩
    obtain ⟨q, b1, e1, L', b2, _, b3, b4, _⟩ := hobj l e a1
    rw [a2] at b4; cases b4
    exact ⟨q.l, e1, L, b2, b3, a3⟩
  have hH : Holds (EnvOut E E1 p N) (Hp.app (restr ls σ) (u1 ++ u2)) w1 := by
    refine ⟨h1.imm, fun l e he => ?_, fun b hb => h1.apart b (howns b hb), fun l l' e e' L L' b a1 a2 a3 a4 a5 a6 => ?_⟩
    · obtain ⟨q, _, e1, L, _, _, _, b4, _, b5⟩ := hobj l e he
      exact ⟨L, b4, b5⟩
    · obtain ⟨q, b1, e1, L1, b2, b3, b4, b5, _⟩ := hobj l e a1
      obtain ⟨q', c1, e1', L1', c2, c3, c4, c5, _⟩ := hobj l' e' a2
      rw [a3] at b5; cases b5
      rw [a4] at c5; cases c5
      have := h1.inj q.l q'.l e1 e1' L L' b b2 c2 b4 c4 a5 a6
      obtain ⟨x, k1, k2⟩ := hn.at_ q b1
      obtain ⟨y, k3, k4⟩ := hn.at_ q' c1
      rw [this, k3] at k1; cases k1
      rw [b3, c3, ← k2, k4]
  have hle : E.le (EnvOut E E1 p N) := by
    refine ⟨fun i L hL => ?_, fun b o ho => ha.le.m b o ho⟩
    have : ¬ p <:+ i := fun h => by rw [hp _ h] at hL; cases hL
    simp only [EnvOut, this, if_false]; exact hL
  have hA : Adv E (restr ls σ) w (EnvOut E E1 p N) (Hp.app (restr ls σ) (u1 ++ u2)) w1 :=
    ⟨hle, ha.os, ha.tape, ha.output, ha.size, fun b hb ho => ha.kept b hb fun h => ho (hOwn b h), fun b hb => (ha.ownNew b (howns b hb)).imp (hOwn b) id, fun b hb => (ha.mNew b hb).imp id (Or.imp (hOwn b) id)⟩
  obtain ⟨r1, r2⟩ := frame_sub hh (fun l e h => (restr_sub _ _ _ _ h).2) hH hA
  exact ⟨r1, r2, fun i hi => by simp only [EnvOut, hi, if_false], hmov⟩
end
end
end Go.AS
