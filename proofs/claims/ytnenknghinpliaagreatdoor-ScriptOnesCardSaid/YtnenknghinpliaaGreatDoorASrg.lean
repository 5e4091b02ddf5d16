/- The walk of a frame of whatever kind: code. -/
import Derived.Test.YtnenknghinpliaaGreatDoorASrf
import Derived.Sort.LoopGhostIn
namespace Go.AS
noncomputable section

section
variable {F : Fence} {m : Nat} {I : Env → Hp → World → Prop} {C : Cx} {n B : Nat} {yi : Id} {rd : YldT}
def GoodF (F : Fence) (m : Nat) (I : Env → Hp → World → Prop) (C : Cx) (n B : Nat) (code : Code) (f : Nat → Fr → Hp → List Nat → OutL) : Prop :=
  ∀ c fr σ ws outs, f c fr σ ws = some outs → (∀ o ∈ outs, Grows σ ws o.2.2.2.1 o.2.2.2.2) ∧ AXF F m I C n B code c fr σ outs
theorem PostF.up {E E' : Env} {σ σ' : Hp} {w w' : World} {o1 o2 : List Out} (ha : Adv E σ w E' σ' w') (hs : ∀ o ∈ o1, o ∈ o2) {e : Exit} {a : Act} {w'' : World} (h : PostF C n B E' σ' w' o1 e a w'') : PostF C n B E σ w o2 e a w'' := by
  obtain ⟨e', c', fr', σ1, ws', E1, h1, h2, h3, h4⟩ := h
  exact ⟨e', c', fr', σ1, ws', E1, hs _ h1, h2, h3, ha.trans h4⟩
theorem loopF_sound (hI : Keeps I) {x : Code} {f : Nat → Fr → Hp → List Nat → OutL} (hf : GoodF F m I C n B x f) (k : Nat) : GoodF F m I C n B (.loop x) (loopN f k) := by
  intro c fr σ ws outs h
  have hgr : ∀ k c fr σ ws o2, loopN f k c fr σ ws = some o2 → ∀ o ∈ o2, Grows σ ws o.2.2.2.1 o.2.2.2.2 := by
    intro k
    induction k with
    | zero => intro c fr σ ws o2 h; cases h
    | succ k ih =>
      intro c fr σ ws o2 hk o ho
      unfold loopN at hk
      split at hk
      · rename_i o1 ho1
        obtain ⟨a2, _⟩ := hf _ _ _ _ _ ho1
        obtain ⟨_, b2⟩ := bindL_mem hk
        obtain ⟨⟨e, c', fr', σ', ws'⟩, k1, x, k2, k3⟩ := b2 o ho
        have g1 := a2 _ k1
        cases e with
        | normal => exact g1.trans (ih _ _ _ _ _ k2 o k3)
        | exit i => cases k2; obtain rfl := List.mem_singleton.1 k3; exact g1
        | ret => cases k2; obtain rfl := List.mem_singleton.1 k3; exact g1
      · cases hk
  refine ⟨hgr _ _ _ _ _ _ h, fun E w a hi hs => ?_⟩
  refine wpIn_loop_ghost (fun k a' w' => ∃ c fr σ' ws o2 E', loopN f k c fr σ' ws = some o2 ∧ (∀ o ∈ o2, o ∈ outs) ∧ I E' σ' w' ∧ StF C n B c fr σ' E' w' a' ∧ Adv E σ w E' σ' w') k ⟨c, fr, σ, ws, outs, E, h, fun _ h => h, hi, hs, .refl _ _ _⟩ ?_
  rintro k a' w' ⟨c', fr', σ', ws', o2, E', hk, hsub, hi', hs', ha⟩
  cases k with
  | zero => cases hk
  | succ k =>
    unfold loopN at hk
    split at hk
    · rename_i o1 ho1
      obtain ⟨_, a1⟩ := hf _ _ _ _ _ ho1
      obtain ⟨b1, _⟩ := bindL_mem hk
      refine wpIn_mono (a1 E' w' a' hi' hs') ?_
      rintro e a2 w2 ⟨e', c2, fr2, σ2, ws2, E2, hm, rfl, hs2, ha2⟩
      obtain ⟨x, k1, k2⟩ := b1 _ hm
      cases e' with
      | normal => exact ⟨k, by omega, c2, fr2, σ2, ws2, x, E2, k1, fun o ho => hsub o (k2 o ho), hI.adv hi' ha2, hs2, ha.trans ha2⟩
      | exit i => cases k1; exact ⟨.exit i, c2, fr2, σ2, ws2, E2, hsub _ (k2 _ (List.mem_singleton.2 rfl)), rfl, hs2, ha.trans ha2⟩
      | ret => cases k1; exact ⟨.ret, c2, fr2, σ2, ws2, E2, hsub _ (k2 _ (List.mem_singleton.2 rfl)), rfl, hs2, ha.trans ha2⟩
    · cases hk
theorem runF_sound (hI : Keeps I) (hF : ∀ f, F.fn f) (hdep : F.depth = none) (hround : F = Fence.wide ∨ ∀ xs c σ ws, rd xs c σ ws = none) [TbOk C.B C.P] (hy : YOk I C yi (m - 1) rd) {rf : Operand → Array Tmp → Code → Code → Nat → Fr → Hp → List Nat → OutL}
    (hrf : ∀ g ps x y, GoodF F m I C n B (.rangeFunc g ps x y) (rf g ps x y)) (k : Nat) : ∀ code : Code, GoodF F m I C n B code (runF C n yi rd rf k code) := by
  intro code
  induction code with
  | skip =>
    intro c fr σ ws outs h; unfold runF at h; cases h
    exact ⟨fun o ho => by obtain rfl := List.mem_singleton.1 ho; exact .refl _ _, fun E w a _ hs => wpIn_skip ⟨.normal, c, fr, σ, ws, E, List.mem_singleton.2 rfl, rfl, hs, .refl _ _ _⟩⟩
  | region i ops d =>
    intro c fr σ ws outs h
    unfold runF at h
    split at h
    · unfold regF at h
      split at h
      · rename_i l hl; cases h
        refine ⟨fun o ho => ?_, fun E w a hi hs => ?_⟩
        · obtain ⟨q, k1, rfl⟩ := List.mem_map.1 ho
          exact (opsF_sound (n := n) (B := B) hI hF hdep hround hy (Q := fun _ _ _ => True) ops.toList 0 rfl _ _ _ _ _ hl).1 q k1
        · refine wpIn_region ?_
          have := (opsF_sound (n := n) hI hF hdep hround hy (Q := PostF C n B E σ w (l.map fun q => (.normal, q))) ops.toList 0 rfl _ _ _ _ _ hl).2 E w a hi hs fun a' w' E' o ho k1 k2 => ⟨.normal, o.1, o.2.1, o.2.2.1, o.2.2.2, E', List.mem_map.2 ⟨o, ho, rfl⟩, rfl, k1, k2⟩
          rw [List.range_eq_range']
          simpa using this
      · cases h
    · cases h
  | seq x y hx hy' =>
    intro c fr σ ws outs h
    unfold runF at h
    split at h
    · rename_i o1 ho1
      obtain ⟨a2, a1⟩ := hx _ _ _ _ _ ho1
      obtain ⟨b1, b2⟩ := bindL_mem h
      refine ⟨fun o ho => ?_, fun E w a hi hs => ?_⟩
      · obtain ⟨⟨e, c', fr', σ', ws'⟩, k1, z, k2, k3⟩ := b2 o ho
        have g1 := a2 _ k1
        cases e with
        | normal => exact g1.trans ((hy' _ _ _ _ _ k2).1 o k3)
        | exit i => cases k2; obtain rfl := List.mem_singleton.1 k3; exact g1
        | ret => cases k2; obtain rfl := List.mem_singleton.1 k3; exact g1
      · refine wpIn_seq (wpIn_mono (a1 E w a hi hs) ?_)
        rintro e a2 w2 ⟨e', c2, fr2, σ2, ws2, E2, hm, rfl, hs2, ha2⟩
        obtain ⟨z, k1, k2⟩ := b1 _ hm
        cases e' with
        | normal => exact wpIn_mono ((hy' _ _ _ _ _ k1).2 E2 w2 a2 (hI.adv hi ha2) hs2) fun e a3 w3 h3 => h3.up ha2 k2
        | exit i => cases k1; exact ⟨.exit i, c2, fr2, σ2, ws2, E2, k2 _ (List.mem_singleton.2 rfl), rfl, hs2, ha2⟩
        | ret => cases k1; exact ⟨.ret, c2, fr2, σ2, ws2, E2, k2 _ (List.mem_singleton.2 rfl), rfl, hs2, ha2⟩
    · cases h
  | cond o x y hx hy' =>
    intro c fr σ ws outs h
    unfold runF at h
    split at h
    · rename_i t ht
      have hcv : ∀ {E : Env} {w : World} {a : Act}, StF C n B c fr σ E w a → a.eval o = .bool t := fun hs => by
        have := (ev_sound hs.st.gl hs.st.fr ht).lit_inv
        rw [bare_eval] at this; exact this
      split at h
      · obtain ⟨a2, a1⟩ := hx _ _ _ _ _ h
        exact ⟨a2, fun E w a hi hs => wpIn_cond_true (hcv hs) (a1 E w a hi hs)⟩
      · obtain ⟨a2, a1⟩ := hy' _ _ _ _ _ h
        exact ⟨a2, fun E w a hi hs => wpIn_cond_false (hcv hs) (a1 E w a hi hs)⟩
    · cases h
  | block i x hx =>
    intro c fr σ ws outs h
    unfold runF at h
    split at h
    · rename_i o1 ho1; cases h
      obtain ⟨a2, a1⟩ := hx _ _ _ _ _ ho1
      refine ⟨fun o ho => ?_, fun E w a hi hs => wpIn_block (wpIn_mono (a1 E w a hi hs) ?_)⟩
      · obtain ⟨⟨e, q⟩, k1, rfl⟩ := List.mem_map.1 ho
        have g1 := a2 _ k1
        cases e with
        | normal => exact g1
        | exit j =>
          cases hj : Nat.beq j i with
          | true => simp only [hj]; exact g1
          | false => simp only [hj]; exact g1
        | ret => exact g1
      · rintro e a2 w2 ⟨e', c2, fr2, σ2, ws2, E2, hm, rfl, hs2, ha2⟩
        cases e' with
        | normal => exact ⟨.normal, c2, fr2, σ2, ws2, E2, List.mem_map.2 ⟨_, hm, rfl⟩, rfl, hs2, ha2⟩
        | exit j =>
          simp only [Exit.inBlock, Ex.to]
          cases hj : Nat.beq j i with
          | true =>
            have : j = i := by simpa using hj
            rw [if_pos this]
            exact ⟨.normal, c2, fr2, σ2, ws2, E2, List.mem_map.2 ⟨_, hm, by simp only [hj]⟩, rfl, hs2, ha2⟩
          | false =>
            have : j ≠ i := fun hji => by subst hji; simp at hj
            rw [if_neg this]
            exact ⟨.exit j, c2, fr2, σ2, ws2, E2, List.mem_map.2 ⟨_, hm, by simp only [hj]⟩, rfl, hs2, ha2⟩
        | ret => exact ⟨.ret, c2, fr2, σ2, ws2, E2, List.mem_map.2 ⟨_, hm, rfl⟩, rfl, hs2, ha2⟩
    · cases h
  | loop x hx => intro c fr σ ws outs h; exact loopF_sound hI hx k _ _ _ _ _ h
  | exit i =>
    intro c fr σ ws outs h; unfold runF at h; cases h
    exact ⟨fun o ho => by obtain rfl := List.mem_singleton.1 ho; exact .refl _ _, fun E w a _ hs => wpIn_exit ⟨.exit i, c, fr, σ, ws, E, List.mem_singleton.2 rfl, rfl, hs, .refl _ _ _⟩⟩
  | ret =>
    intro c fr σ ws outs h; unfold runF at h; cases h
    exact ⟨fun o ho => by obtain rfl := List.mem_singleton.1 ho; exact .refl _ _, fun E w a _ hs => wpIn_ret ⟨.ret, c, fr, σ, ws, E, List.mem_singleton.2 rfl, rfl, hs, .refl _ _ _⟩⟩
  | rangeFunc g ps x y _ _ => intro c fr σ ws outs h; exact hrf g ps x y _ _ _ _ _ h
  | _ => intro c fr σ ws outs h; unfold runF at h; cases h
end
end
end Go.AS
