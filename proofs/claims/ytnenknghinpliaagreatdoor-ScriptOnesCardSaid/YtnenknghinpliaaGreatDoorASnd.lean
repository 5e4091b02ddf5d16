/- A function whose way is not one: all that it may leave; where all agree, it is one. -/
import Derived.Test.YtnenknghinpliaaGreatDoorASnx
namespace Go.AS
noncomputable section

abbrev OutL := Option (List Out)
abbrev NdT := FuncId → Option (Id → Nat → List AV → Hp → Option (List Res))
def bindL {α β : Type} (f : α → Option (List β)) : List α → Option (List β)
  | [] => some []
  | a :: r => match f a with
    | some x => match bindL f r with
      | some y => some (x ++ y)
      | none => none
    | none => none
theorem bindL_mem {α β : Type} {f : α → Option (List β)} : ∀ {l : List α} {r : List β}, bindL f l = some r → (∀ a ∈ l, ∃ x, f a = some x ∧ ∀ b ∈ x, b ∈ r) ∧ ∀ b ∈ r, ∃ a ∈ l, ∃ x, f a = some x ∧ b ∈ x
  | [], r, h => by cases h; exact ⟨fun a ha => (by cases ha), fun b hb => (by cases hb)⟩
  | a :: l, r, h => by
    unfold bindL at h
    split at h
    · rename_i x hx
      split at h
      · rename_i y hy; cases h
        obtain ⟨h1, h2⟩ := bindL_mem hy
        refine ⟨fun b hb => ?_, fun b hb => ?_⟩
        · rcases List.mem_cons.1 hb with rfl | hb
          · exact ⟨x, hx, fun c hc => List.mem_append_left _ hc⟩
          · obtain ⟨z, k1, k2⟩ := h1 b hb; exact ⟨z, k1, fun c hc => List.mem_append_right _ (k2 c hc)⟩
        · rcases List.mem_append.1 hb with hb | hb
          · exact ⟨a, List.mem_cons_self .., x, hx, hb⟩
          · obtain ⟨c, k1, k2⟩ := h2 b hb; exact ⟨c, List.mem_cons_of_mem _ k1, k2⟩
      · cases h
    · cases h
def oneL {α : Type} : Option α → Option (List α)
  | some a => some [a]
  | none => none
/-- A slice of no elements against nil: one of two. -/
def nilTwo (B : Tb) (op : BinOp) (t : TypeId) (x y : AV) : Bool :=
  match op, x, y with
  | .eql, .slc _ _ _ 0, .lit (.slice none 0 0) | .neq, .slc _ _ _ 0, .lit (.slice none 0 0) => match ti B t with
    | some T => match T.desc with
      | .slice _ => true
      | _ => false
    | none => false
  | _, _, _ => false
theorem eq_nil_nil {P : Program} {B : Tb} [TbOk B P] {t e : TypeId} {T : TI} (hT : ti B t = some T) (hd : T.desc = .slice e) {w : World} (n c n' c' : Nat) : (Op.equal t (.slice none n c) (.slice none n' c')).run P w = .ok true w := by
  rw [equal_step, Op.equalIn]; simp [run_ti_underlying hT, hd]
theorem nilTwo_sound {P : Program} {B : Tb} [TbOk B P] {op : BinOp} {t : TypeId} {x y : AV} (h : nilTwo B op t x y = true) {E : Env} {u v : Value} (hx : VR E x u) (hy : VR E y v) (xo yo : Operand) (w : World) :
    ∃ b, (do eqGuard op t xo yo u v; binOp op t u v : Sem Value).run P w = .ok (.bool b) w := by
  have key : ∀ {T : TI} {e : TypeId} (a : Option Addr) (n c : Nat), ti B t = some T → T.desc = .slice e → u = .slice a n c → v = .slice none 0 0 → ∃ b, (Op.equal t u v).run P w = .ok b w := by
    rintro T e a n c hT hd rfl rfl
    cases a with
    | none => exact ⟨true, eq_nil_nil hT hd n c 0 0⟩
    | some a => exact ⟨false, eq_sl_nil hT w hd a n c 0 0⟩
  have sl : ∀ {l : Nat} {i : Id} {off : Nat}, VR E (.slc l i off 0) u → ∃ a n c, u = .slice a n c := fun hx => by
    rcases slc_inv hx with ⟨_, ⟨a, rfl⟩, _⟩ | ⟨b, base, sz, cap, c, rfl, _⟩
    · exact ⟨_, _, _, rfl⟩
    · exact ⟨_, _, _, rfl⟩
  unfold nilTwo at h
  split at h
  · split at h
    · rename_i T hT
      split at h
      · rename_i e hd
        obtain ⟨a, n, c, hu⟩ := sl hx
        have hv := hy.lit_inv
        obtain ⟨b, hb⟩ := key a n c hT hd hu hv
        refine ⟨b, (eql_of (fun op => run_eqGuard w op t xo yo u v (by rw [hu]; rintro ⟨h, _⟩; cases h) (by rw [hu]; intro cs h; cases h)) (by rw [hu, hv]; rfl) (by rw [hu, hv]; rfl) hb).1⟩
      · cases h
    · cases h
  · split at h
    · rename_i T hT
      split at h
      · rename_i e hd
        obtain ⟨a, n, c, hu⟩ := sl hx
        have hv := hy.lit_inv
        obtain ⟨b, hb⟩ := key a n c hT hd hu hv
        exact ⟨!b, (eql_of (fun op => run_eqGuard w op t xo yo u v (by rw [hu]; rintro ⟨h, _⟩; cases h) (by rw [hu]; intro cs h; cases h)) (by rw [hu, hv]; rfl) (by rw [hu, hv]; rfl) hb).2⟩
      · cases h
    · cases h
  · cases h
section
variable (C : Cx) (n : Nat) (nd : NdT)
def stepN (p : Id) (fr : Fr) (σ : Hp) (o : Oper) : Option (List Res) :=
  match o.op with
  | .next x s => match s with
    | false => match ev C fr x with
      | some y => mapNextN (aget σ) y
      | none => none
    | true => none
  | .call k => match k.callee with
    | .value f => match ev C fr f, evs C fr k.args.toList with
      | some fv, some xs => match fnView fv with
        | some (g, a, b) => match nd g with
          | some h => h p (o.dst.getD 0) (a ++ xs ++ b) σ
          | none => oneL (detO C p fr σ o)
        | none => none
      | _, _ => none
    | _ => oneL (detO C p fr σ o)
  | .binOp op t x y _ => match oneL (detO C p fr σ o) with
    | some q => some q
    | none => match ev C fr x, ev C fr y with
      | some u, some v => match nilTwo C.B op t u v with
        | true => some [⟨.lit (.bool true), [], true⟩, ⟨.lit (.bool false), [], true⟩]
        | false => none
      | _, _ => none
  | _ => oneL (detO C p fr σ o)
def opsN (all : List Oper) : List Oper → Nat → Fr → Hp → List Nat → Option (List (Nat × Fr × Hp × List Nat))
  | [], c, fr, σ, ws => some [(c, fr, σ, ws)]
  | o :: r, c, fr, σ, ws => match wantE all fr o.guard with
    | some b => match b with
      | true => match stepN C nd [c] fr σ o with
        | some qs => bindL (fun q => bsel q.ok (opsN all r (c + 1) (putF n fr o.dst q.x) (σ.app q.upd) (addL q.upd ws)) none) qs
        | none => none
      | false => opsN all r c (putF n fr o.dst (.lit undef)) σ ws
    | none => none
def loopN (f : Nat → Fr → Hp → List Nat → OutL) : Nat → Nat → Fr → Hp → List Nat → OutL
  | 0, _, _, _, _ => none
  | m + 1, c, fr, σ, ws => match f c fr σ ws with
    | some outs => bindL (fun o => match o with
      | (.normal, c', fr', σ', ws') => loopN f m c' fr' σ' ws'
      | r => some [r]) outs
    | none => none
def regN (ops : List Oper) (c : Nat) (fr : Fr) (σ : Hp) (ws : List Nat) : OutL :=
  match opsN C n nd ops ops c fr σ ws with
  | some l => some (l.map fun q => (.normal, q))
  | none => none
def runN (m : Nat) : Code → Nat → Fr → Hp → List Nat → OutL
  | .skip, c, fr, σ, ws => some [(.normal, c, fr, σ, ws)]
  | .region _ ops d, c, fr, σ, ws => match d with
    | false => regN C n nd ops.toList c fr σ ws
    | true => oneL (drawI C n ops.toList c fr σ ws)
  | .seq x y, c, fr, σ, ws => match runN m x c fr σ ws with
    | some outs => bindL (fun o => match o with
      | (.normal, c', fr', σ', ws') => runN m y c' fr' σ' ws'
      | r => some [r]) outs
    | none => none
  | .cond o x y, c, fr, σ, ws => match ev C fr o with
    | some (.lit (.bool t)) => match t with
      | true => runN m x c fr σ ws
      | false => runN m y c fr σ ws
    | _ => none
  | .block i x, c, fr, σ, ws => match runN m x c fr σ ws with
    | some outs => some (outs.map fun o => match o with
      | (.exit j, q) => match Nat.beq j i with
        | true => (.normal, q)
        | false => (.exit j, q)
      | r => r)
    | none => none
  | .loop x, c, fr, σ, ws => loopN (runN m x) m c fr σ ws
  | .exit i, c, fr, σ, ws => some [(.exit i, c, fr, σ, ws)]
  | .ret, c, fr, σ, ws => some [(.ret, c, fr, σ, ws)]
  | _, _, _, _, _ => none
end
/-- What a call does, one of several ways. -/
def NdOk (C : Cx) (g : FuncId) (h : Id → Nat → List AV → Hp → Option (List Res)) : Prop :=
  ∀ p d xs σ rs, h p d xs σ = some rs → ∀ E w vals, GL C E → Holds E σ w → Fresh E p → RR E .vs xs vals → Does C.P g vals.toArray w (After E σ w p fun x upd => ∃ r ∈ rs, r.ok = true ∧ x = r.x ∧ upd = r.upd)
section
variable {C : Cx} {n : Nat} {nd : NdT}
theorem stepN_sound (hC : C.Sound) (hnd : ∀ g h, nd g = some h → NdOk C g h) {c : Nat} {fr : Fr} {σ : Hp} {o : Oper} {qs : List Res} (h : stepN C nd [c] fr σ o = some qs) {E : Env} {w : World} {a : Act} (hs : St C n [] c fr σ E w a)
    {next : Act → World → Prop} {Q : Exit → Act → World → Prop} (hn : ∀ q ∈ qs, q.ok = true → ∀ v w' E', VR E' q.x v → Holds E' (σ.app q.upd) w' → Adv E σ w E' (σ.app q.upd) w' → NewIn E E' [c] → next (a.put o.dst v) w')
    (hok : ∀ q ∈ qs, q.ok = true) : o.wp C.P a w next Q := by
  haveI := hC.tb
  have hdet : ∀ {qs : List Res}, oneL (detO C [c] fr σ o) = some qs → (∀ q ∈ qs, q.ok = true → ∀ v w' E', VR E' q.x v → Holds E' (σ.app q.upd) w' → Adv E σ w E' (σ.app q.upd) w' → NewIn E E' [c] → next (a.put o.dst v) w') → (∀ q ∈ qs, q.ok = true) → o.wp C.P a w next Q := by
    intro qs h hn hok
    unfold oneL at h
    split at h
    · rename_i q hq; cases h
      have hk := hok q (List.mem_singleton.2 rfl)
      exact det_wp hC hs.gl hs.fr hs.holds (fun _ _ h => h) (hs.fresh c (Nat.le_refl _)) (.of hq hk) fun v w' E' h1 h2 h3 h4 => hn q (List.mem_singleton.2 rfl) hk v w' E' h1 h2 h3 h4
    · cases h
  unfold stepN at h
  split at h
  · rename_i x s hop
    split at h
    · split at h
      · rename_i y hy
        obtain ⟨r, h1, h2, v, w', E', h3, h4, h5, h6, h7⟩ := mapNextN_sound (P := C.P) hs.holds (fun _ _ h => h) (ev_sound hs.gl hs.fr hy) h o.type [c]
        have hrun : (execOp a.eval o).run C.P w = .ok (.value v) w' := by
          simp only [execOp, hop, Sem.run_bind, h3, Result.andThen_ok, Sem.run_pure]
        unfold Oper.wp
        rw [hrun]
        exact hn r h1 h2 v w' E' h4 h5 h6 h7
      · cases h
    · cases h
  · rename_i k hop
    split at h
    · rename_i f hcal
      split at h
      · rename_i fv xs hfv hxs
        split at h
        · rename_i g y z hv
          split at h
          · rename_i hh hg
            obtain ⟨y', z', k1, k2, k3⟩ := fnView_sound (ev_sound hs.gl hs.fr hfv) hv
            have hvs : RR E .vs (y ++ xs ++ z) (y'.toList ++ k.args.toList.map a.eval ++ z'.toList) := (k2.vs_append (evs_sound hs.gl hs.fr hxs)).vs_append k3
            refine Does.wp (hnd g hh hg _ _ _ _ _ h E w _ hs.gl hs.holds (hs.fresh c (Nat.le_refl _)) hvs) ?_ ?_
            · have e : (y'.toList ++ k.args.toList.map a.eval ++ z'.toList).toArray = y' ++ k.args.map a.eval ++ z' := by apply Array.ext'; simp
              simp only [execOp, hop, resolve, hcal, k1, Deferred.ofValue, pure_bind, invoke, e]
            · rintro v w' ⟨E', x, upd, ⟨r, r1, r2, rfl, rfl⟩, h1, h2, h3, h4⟩
              exact hn r r1 r2 v w' E' h1 h2 h3 h4
          · exact hdet h hn hok
        · cases h
      · cases h
    · exact hdet h hn hok
  · rename_i op t x y yt hop
    split at h
    · rename_i q hq; cases h
      exact hdet hq hn hok
    · split at h
      · rename_i u v hu hv
        split at h
        · rename_i h2; cases h
          obtain ⟨b, hb⟩ := nilTwo_sound (P := C.P) h2 (ev_sound hs.gl hs.fr hu) (ev_sound hs.gl hs.fr hv) x y w
          unfold Oper.wp
          have hrun : (execOp a.eval o).run C.P w = .ok (.value (.bool b)) w := by
            simp only [Sem.run_bind] at hb
            simp only [execOp, hop, Sem.run_bind, hb, Result.andThen_ok, Sem.run_pure]
          rw [hrun]
          cases b with
          | true => exact hn _ (List.mem_cons_self ..) rfl _ w E (.lit _) hs.holds (.refl _ _ _) (.refl _ _)
          | false => exact hn _ (List.mem_cons_of_mem _ (List.mem_cons_self ..)) rfl _ w E (.lit _) hs.holds (.refl _ _ _) (.refl _ _)
        · cases h
      · cases h
  · exact hdet h hn hok
theorem opsN_sound (hC : C.Sound) (hnd : ∀ g h, nd g = some h → NdOk C g h) {ops : Array Oper} {Q : Exit → Act → World → Prop} : ∀ (l : List Oper) (i : Nat), ops.toList.drop i = l →
    ∀ (c : Nat) (fr : Fr) (σ : Hp) (ws : List Nat) (outs : List (Nat × Fr × Hp × List Nat)), opsN C n nd ops.toList l c fr σ ws = some outs → (∀ o ∈ outs, Grows σ ws o.2.2.1 o.2.2.2) ∧ ∀ (E : Env) (w : World) (a : Act), St C n [] c fr σ E w a →
      (∀ a' w' E', ∀ o ∈ outs, St C n [] o.1 o.2.1 o.2.2.1 E' w' a' → Adv E σ w E' o.2.2.1 w' → Q .normal a' w') → wpOps C.P ops Q (List.range' i l.length) a w
  | [], i, _, c, fr, σ, ws, outs, h => by
    unfold opsN at h; cases h
    exact ⟨fun o ho => by obtain rfl := List.mem_singleton.1 ho; exact .refl _ _, fun E w a hs hQ => hQ a w E _ (List.mem_singleton.2 rfl) hs (.refl _ _ _)⟩
  | o :: r, i, hd, c, fr, σ, ws, outs, h => by
    have hi : ops[i]? = some o := by
      have := congrArg (·[0]?) hd
      simpa using this
    have hd' : ops.toList.drop (i + 1) = r := by
      have := congrArg (List.drop 1) hd
      simpa [Nat.add_comm] using this
    unfold opsN at h
    split at h
    · rename_i b hb
      split at h
      · split at h
        · rename_i qs hqs
          obtain ⟨h1, h2⟩ := bindL_mem h
          have hok : ∀ q ∈ qs, q.ok = true := fun q hq => by
            obtain ⟨x, k1, _⟩ := h1 q hq
            exact (bsel_some k1).1
          refine ⟨fun o' ho' => ?_, fun E w a hs hQ => ?_⟩
          · obtain ⟨q, k1, x, k2, k3⟩ := h2 o' ho'
            exact (Grows.app _ _ _).trans ((opsN_sound hC hnd (Q := Q) r (i + 1) hd' _ _ _ _ _ (bsel_some k2).2).1 o' k3)
          · rw [List.length_cons, List.range'_succ, wpOps]
            simp only [hi]
            rw [want_sound hs.fr hb]
            simp only [if_true]
            left
            refine stepN_sound hC hnd hqs hs (fun q hq hqo v w' E' k2 k3 k4 k5 => ?_) hok
            obtain ⟨x, g1, g2⟩ := h1 q hq
            refine (opsN_sound hC hnd (Q := Q) r (i + 1) hd' _ _ _ _ _ (bsel_some g1).2).2 E' w' _ (hs.after k2 k3 k4 k5 o.dst) fun a' w'' E'' o' ho' f1 f2 => hQ a' w'' E'' o' (g2 o' ho') f1 (k4.trans f2)
        · cases h
      · obtain ⟨g3, g4⟩ := opsN_sound hC hnd (Q := Q) r (i + 1) hd' _ _ _ _ _ h
        refine ⟨g3, fun E w a hs hQ => ?_⟩
        rw [List.length_cons, List.range'_succ, wpOps]
        simp only [hi]
        rw [want_sound hs.fr hb]
        simp only [Bool.false_eq_true, if_false]
        exact g4 E w _ ⟨hs.gl, putF_sound hs.fr o.dst (.lit undef), hs.holds, hs.fresh⟩ hQ
    · cases h
/-- One of these is reached. -/
def AtN (outs : List Out) : PostK := fun e c fr σ => ∃ ws, (e, c, fr, σ, ws) ∈ outs
def GoodN (C : Cx) (n : Nat) (code : Code) (f : Nat → Fr → Hp → List Nat → OutL) : Prop :=
  ∀ c fr σ ws outs, f c fr σ ws = some outs → AX C n [] code c fr σ (AtN outs) ∧ ∀ o ∈ outs, Grows σ ws o.2.2.2.1 o.2.2.2.2
theorem loopN_sound {x : Code} {f : Nat → Fr → Hp → List Nat → OutL} (hf : GoodN C n x f) (m : Nat) : GoodN C n (.loop x) (loopN f m) := by
  intro c fr σ ws outs h
  refine ⟨?_, ?_⟩
  · refine AX.loop (fun k c fr σ => ∃ ws o2, loopN f k c fr σ ws = some o2 ∧ ∀ o ∈ o2, o ∈ outs) ⟨ws, outs, h, fun _ h => h⟩ ?_
    rintro k c fr σ ⟨ws, o2, hk, hsub⟩
    cases k with
    | zero => cases hk
    | succ k =>
      unfold loopN at hk
      split at hk
      · rename_i o1 ho1
        obtain ⟨a1, _⟩ := hf _ _ _ _ _ ho1
        obtain ⟨b1, _⟩ := bindL_mem hk
        refine a1.mono ?_
        rintro e c' fr' σ' ⟨ws', hm⟩
        obtain ⟨x, k1, k2⟩ := b1 _ hm
        cases e with
        | normal => exact ⟨k, by omega, ws', x, k1, fun o ho => hsub o (k2 o ho)⟩
        | exit i => cases k1; exact ⟨ws', hsub _ (k2 _ (List.mem_singleton.2 rfl))⟩
        | ret => cases k1; exact ⟨ws', hsub _ (k2 _ (List.mem_singleton.2 rfl))⟩
      · cases hk
  · have : ∀ k c fr σ ws o2, loopN f k c fr σ ws = some o2 → ∀ o ∈ o2, Grows σ ws o.2.2.2.1 o.2.2.2.2 := by
      intro k
      induction k with
      | zero => intro c fr σ ws o2 h; cases h
      | succ k ih =>
        intro c fr σ ws o2 hk o ho
        unfold loopN at hk
        split at hk
        · rename_i o1 ho1
          obtain ⟨_, a2⟩ := hf _ _ _ _ _ ho1
          obtain ⟨_, b2⟩ := bindL_mem hk
          obtain ⟨⟨e, c', fr', σ', ws'⟩, k1, x, k2, k3⟩ := b2 o ho
          have g1 := a2 _ k1
          cases e with
          | normal => exact g1.trans (ih _ _ _ _ _ k2 o k3)
          | exit i => cases k2; obtain rfl := List.mem_singleton.1 k3; exact g1
          | ret => cases k2; obtain rfl := List.mem_singleton.1 k3; exact g1
        · cases hk
    exact this _ _ _ _ _ _ h
theorem runN_sound (hC : C.Sound) (hnd : ∀ g h, nd g = some h → NdOk C g h) (m : Nat) : ∀ code : Code, GoodN C n code (runN C n nd m code) := by
  intro code
  induction code with
  | skip => intro c fr σ ws outs h; unfold runN at h; cases h; exact ⟨.skip ⟨ws, List.mem_singleton.2 rfl⟩, fun o ho => by obtain rfl := List.mem_singleton.1 ho; exact .refl _ _⟩
  | region i ops d =>
    intro c fr σ ws outs h
    unfold runN at h
    split at h
    · unfold regN at h
      split at h
      · rename_i l hl; cases h
        refine ⟨fun E w a hs => ?_, fun o ho => ?_⟩
        · refine wp_region ?_
          have := (opsN_sound (n := n) hC hnd (Q := Post C n [] E σ w (AtN (l.map fun q => (.normal, q)))) ops.toList 0 rfl _ _ _ _ _ hl).2 E w a hs fun a' w' E' o ho k1 k2 => ⟨.normal, o.1, o.2.1, o.2.2.1, E', ⟨o.2.2.2, List.mem_map.2 ⟨o, ho, rfl⟩⟩, rfl, k1, k2, newIn_nil _ _⟩
          rw [List.range_eq_range']
          simpa using this
        · obtain ⟨q, k1, rfl⟩ := List.mem_map.1 ho
          exact (opsN_sound (n := n) hC hnd (Q := fun _ _ _ => True) ops.toList 0 rfl _ _ _ _ _ hl).1 q k1
      · cases h
    · unfold oneL at h
      split at h
      · rename_i q hq; cases h
        unfold drawI at hq
        split at hq
        · rename_i h1
          split at hq
          · rename_i hp; cases hq
            obtain ⟨k1, k2⟩ := opsG_sound h1
            refine ⟨(AX.draw hC hC.mix (k1 _ ⟨⟨hp⟩, rfl, rfl, rfl, rfl⟩) : AX C n [] _ c fr σ (At _ _ _ _)).mono ?_, fun o ho => by obtain rfl := List.mem_singleton.1 ho; exact k2⟩
            rintro e2 c2 fr2 σ2 ⟨rfl, rfl, rfl, rfl⟩
            exact ⟨_, List.mem_singleton.2 rfl⟩
          · cases hq
        · cases hq
      · cases h
  | seq x y hx hy =>
    intro c fr σ ws outs h
    unfold runN at h
    split at h
    · rename_i o1 ho1
      obtain ⟨a1, a2⟩ := hx _ _ _ _ _ ho1
      obtain ⟨b1, b2⟩ := bindL_mem h
      refine ⟨.seq (a1.mono ?_), fun o ho => ?_⟩
      · rintro e c' fr' σ' ⟨ws', hm⟩
        obtain ⟨z, k1, k2⟩ := b1 _ hm
        cases e with
        | normal => exact (hy _ _ _ _ _ k1).1.mono fun e2 c2 fr2 σ2 ⟨ws2, hw2⟩ => ⟨ws2, k2 _ hw2⟩
        | exit i => cases k1; exact ⟨ws', k2 _ (List.mem_singleton.2 rfl)⟩
        | ret => cases k1; exact ⟨ws', k2 _ (List.mem_singleton.2 rfl)⟩
      · obtain ⟨⟨e, c', fr', σ', ws'⟩, k1, z, k2, k3⟩ := b2 o ho
        have g1 := a2 _ k1
        cases e with
        | normal => exact g1.trans ((hy _ _ _ _ _ k2).2 o k3)
        | exit i => cases k2; obtain rfl := List.mem_singleton.1 k3; exact g1
        | ret => cases k2; obtain rfl := List.mem_singleton.1 k3; exact g1
    · cases h
  | cond o x y hx hy =>
    intro c fr σ ws outs h
    unfold runN at h
    split at h
    · rename_i t ht
      split at h
      · obtain ⟨a1, a2⟩ := hx _ _ _ _ _ h
        exact ⟨.cond ht a1, a2⟩
      · obtain ⟨a1, a2⟩ := hy _ _ _ _ _ h
        exact ⟨.cond ht a1, a2⟩
    · cases h
  | block i x hx =>
    intro c fr σ ws outs h
    unfold runN at h
    split at h
    · rename_i o1 ho1; cases h
      obtain ⟨a1, a2⟩ := hx _ _ _ _ _ ho1
      refine ⟨.block (a1.mono ?_), fun o ho => ?_⟩
      · rintro e c' fr' σ' ⟨ws', hm⟩
        cases e with
        | normal => exact ⟨ws', List.mem_map.2 ⟨_, hm, rfl⟩⟩
        | exit j =>
          cases hj : Nat.beq j i with
          | true =>
            simp only [blockK, hj]
            exact ⟨ws', List.mem_map.2 ⟨_, hm, by simp only [hj]⟩⟩
          | false =>
            simp only [blockK, hj]
            exact ⟨ws', List.mem_map.2 ⟨_, hm, by simp only [hj]⟩⟩
        | ret => exact ⟨ws', List.mem_map.2 ⟨_, hm, rfl⟩⟩
      · obtain ⟨⟨e, q⟩, k1, rfl⟩ := List.mem_map.1 ho
        have g1 := a2 _ k1
        cases e with
        | normal => exact g1
        | exit j =>
          cases hj : Nat.beq j i with
          | true => simp only [hj]; exact g1
          | false => simp only [hj]; exact g1
        | ret => exact g1
    · cases h
  | loop x hx => intro c fr σ ws outs h; exact loopN_sound hx m _ _ _ _ _ h
  | exit i => intro c fr σ ws outs h; unfold runN at h; cases h; exact ⟨.exit ⟨ws, List.mem_singleton.2 rfl⟩, fun o ho => by obtain rfl := List.mem_singleton.1 ho; exact .refl _ _⟩
  | ret => intro c fr σ ws outs h; unfold runN at h; cases h; exact ⟨.ret ⟨ws, List.mem_singleton.2 rfl⟩, fun o ho => by obtain rfl := List.mem_singleton.1 ho; exact .refl _ _⟩
  | _ => intro c fr σ ws outs h; unfold runN at h; cases h
end
end
end Go.AS
