/- A range over a function: the iterator and the loop's rounds, walked as one. -/
import Derived.Test.YtnenknghinpliaaGreatDoorASnf
import Derived.RangeFuncRecord
import Derived.RangeFuncIn
import Derived.ControlIn
namespace Go.AS
noncomputable section

/-- What lies apart from all that is owned, and is kept. -/
structure Aside (E : Env) (σ : Hp) (w : World) (b : Nat) (o : Obj) : Prop where
  here : w.heap[b]? = some o
  own : ¬ Own E σ b
  mem : E.m b = none
theorem Aside.lt {E : Env} {σ : Hp} {w : World} {b : Nat} {o : Obj} (h : Aside E σ w b o) : b < w.heap.size := (Array.getElem?_eq_some_iff.1 h.here).1
theorem Aside.adv {E E' : Env} {σ σ' : Hp} {w w' : World} {b : Nat} {o : Obj} (h : Aside E σ w b o) (ha : Adv E σ w E' σ' w') : Aside E' σ' w' b o := by
  have hlt := h.lt
  refine ⟨(ha.kept b hlt h.own).trans h.here, fun ho => ?_, ?_⟩
  · rcases ha.ownNew b ho with h1 | h1
    · exact h.own h1
    · omega
  · cases hm : E'.m b with
    | none => rfl
    | some o' =>
      rcases ha.mNew b (by rw [hm]; simp) with h1 | h1 | h1
      · exact absurd h.mem h1
      · exact absurd h1 h.own
      · omega
/-- A block apart is turned: nothing that is owned or known turns. -/
theorem Holds.aside {E : Env} {σ : Hp} {w : World} (hh : Holds E σ w) {b : Nat} {o : Obj} (h : Aside E σ w b o) (o' : Obj) : Holds E σ (w.putObj b o') := by
  have hne : ∀ k, k ≠ b → (w.putObj b o').heap[k]? = w.heap[k]? := fun k hk => World.putObj_heap_other hk
  refine ⟨fun c oc hc => ?_, fun l e he => ?_, hh.apart, hh.inj⟩
  · rw [hne c (fun hcb => by rw [hcb, h.mem] at hc; cases hc)]; exact hh.imm c oc hc
  · obtain ⟨L, h1, h2⟩ := hh.own l e he
    exact ⟨L, h1, h2.keep E.le_refl fun c hc => hne c fun hcb => h.own ⟨l, e, L, he, h1, by rw [← hcb]; exact hc⟩⟩
theorem Holds.laid {E : Env} {σ : Hp} {w : World} (hh : Holds E σ w) (o : Obj) : Holds E σ (w.alloc o) := by
  have hk : ∀ k, k < w.heap.size → (w.alloc o).heap[k]? = w.heap[k]? := fun k hk => by
    show (w.heap.push o)[k]? = _
    rw [Array.getElem?_push_lt hk, Array.getElem?_eq_getElem hk]
  refine ⟨fun c oc hc => ?_, fun l e he => ?_, hh.apart, hh.inj⟩
  · rw [hk c (hh.m_lt hc)]; exact hh.imm c oc hc
  · obtain ⟨L, h1, h2⟩ := hh.own l e he
    exact ⟨L, h1, h2.keep E.le_refl fun c hc => hk c (h2.lt hc)⟩

/-! Operations in a frame of whatever kind. -/
section
variable {F : Fence} {m : Nat} {P : Program} {o : Oper} {a : Act} {w : World} {next : Act → World → Prop} {Q : Exit → Act → World → Prop}
theorem op_value (hF : ∀ f, F.fn f) (hd : ∀ c, o.op ≠ .defer c) {v : Value} {w' : World} (h : (execOp a.eval o).run P w = .ok (.value v) w') (hn : next (a.put o.dst v) w') : o.wpIn F m P a w next Q :=
  ⟨fun f _ => hF f, by rw [Oper.semAt_eq _ _ _ hd, h]; exact hn⟩
theorem op_skip (hF : ∀ f, F.fn f) (hd : ∀ c, o.op ≠ .defer c) {w' : World} (h : (execOp a.eval o).run P w = .ok .skip w') (hn : next (a.put o.dst undef) w') : o.wpIn F m P a w next Q :=
  ⟨fun f _ => hF f, by rw [Oper.semAt_eq _ _ _ hd, h]; exact hn⟩
end
/-- The frame's temporaries alone. -/
def bare (a : Act) : Act := { tmps := a.tmps, defers := [] }
theorem bare_eval (a : Act) : (bare a).eval = a.eval := rfl
theorem bare_put (a : Act) (d : Option Tmp) (v : Value) : bare (a.put d v) = (bare a).put d v := by
  cases d <;> rfl
theorem put_defers (a : Act) (d : Option Tmp) (v : Value) : (a.put d v).defers = a.defers := by
  cases d <;> rfl

abbrev YldT := List AV → Nat → Hp → List Nat → Option (List (Nat × Hp × List Nat))
section
variable (C : Cx) (n : Nat) (yi : Id) (rd : YldT)
def plainO : Op → Bool
  | .defer _ | .call _ | .next .. => false
  | _ => true
def oneF (c : Nat) (σ : Hp) (ws : List Nat) : Option Res → Option (List (AV × Nat × Hp × List Nat))
  | some q => bsel q.ok (some [(q.x, c + 1, σ.app q.upd, addL q.upd ws)]) none
  | none => none
def stepF (c : Nat) (fr : Fr) (σ : Hp) (ws : List Nat) (o : Oper) : Option (List (AV × Nat × Hp × List Nat)) :=
  match o.op with
  | .next x s => match s with
    | false => match ev C fr x with
      | some y => match mapNextN (aget σ) y with
        | some qs => some (qs.map fun q => (q.x, c + 1, σ.app q.upd, addL q.upd ws))
        | none => none
      | none => none
    | true => none
  | .call k => match k.callee with
    | .value f => match ev C fr f, evs C fr k.args.toList with
      | some (.yld i), some xs => match idEq i yi with
        | true => match rd xs c σ ws with
          | some l => some (l.map fun q => (.lit (.bool true), q))
          | none => none
        | false => none
      | _, _ => none
    | .builtin _ => oneF c σ ws (opE C fr (aget σ) [c] o)
    | _ => none
  | p => match plainO p with
    | true => oneF c σ ws (opE C fr (aget σ) [c] o)
    | false => none
def opsF (all : List Oper) : List Oper → Nat → Fr → Hp → List Nat → Option (List (Nat × Fr × Hp × List Nat))
  | [], c, fr, σ, ws => some [(c, fr, σ, ws)]
  | o :: r, c, fr, σ, ws => match wantE all fr o.guard with
    | some b => match b with
      | true => match stepF C yi rd c fr σ ws o with
        | some qs => bindL (fun q => opsF all r q.2.1 (putF n fr o.dst q.1) q.2.2.1 q.2.2.2) qs
        | none => none
      | false => opsF all r c (putF n fr o.dst (.lit undef)) σ ws
    | none => none
def regF (ops : List Oper) (c : Nat) (fr : Fr) (σ : Hp) (ws : List Nat) : OutL :=
  match opsF C n yi rd ops ops c fr σ ws with
  | some l => some (l.map fun q => (.normal, q))
  | none => none
def runF (rf : Operand → Array Tmp → Code → Code → Nat → Fr → Hp → List Nat → OutL) (m : Nat) : Code → Nat → Fr → Hp → List Nat → OutL
  | .skip, c, fr, σ, ws => some [(.normal, c, fr, σ, ws)]
  | .region _ ops d, c, fr, σ, ws => match d with
    | false => regF C n yi rd ops.toList c fr σ ws
    | true => none
  | .seq x y, c, fr, σ, ws => match runF rf m x c fr σ ws with
    | some outs => bindL (fun o => match o with
      | (.normal, c', fr', σ', ws') => runF rf m y c' fr' σ' ws'
      | r => some [r]) outs
    | none => none
  | .cond o x y, c, fr, σ, ws => match ev C fr o with
    | some (.lit (.bool t)) => match t with
      | true => runF rf m x c fr σ ws
      | false => runF rf m y c fr σ ws
    | _ => none
  | .block i x, c, fr, σ, ws => match runF rf m x c fr σ ws with
    | some outs => some (outs.map fun o => match o with
      | (.exit j, q) => match Nat.beq j i with
        | true => (.normal, q)
        | false => (.exit j, q)
      | r => r)
    | none => none
  | .loop x, c, fr, σ, ws => loopN (runF rf m x) m c fr σ ws
  | .exit i, c, fr, σ, ws => some [(.exit i, c, fr, σ, ws)]
  | .ret, c, fr, σ, ws => some [(.ret, c, fr, σ, ws)]
  | .rangeFunc g ps x y, c, fr, σ, ws => rf g ps x y c fr σ ws
  | _, _, _, _, _ => none
end

/-! Why it is so. -/
/-- What a frame is to do at its end: marks alone, each of a block that holds nothing. -/
structure DsOk (B : Nat) (E : Env) (σ : Hp) (w : World) (ds : List Deferred) : Prop where
  all : ∀ d ∈ ds, ∃ D, d = { target := .collected D, args := #[] } ∧ Aside E σ w D (.deferred (some [])) ∧ B ≤ D
  nodup : ds.Nodup
  le : B ≤ w.heap.size
theorem DsOk.adv {B : Nat} {E E' : Env} {σ σ' : Hp} {w w' : World} {ds : List Deferred} (h : DsOk B E σ w ds) (ha : Adv E σ w E' σ' w') : DsOk B E' σ' w' ds :=
  ⟨fun d hd => let ⟨D, h1, h2, h3⟩ := h.all d hd; ⟨D, h1, h2.adv ha, h3⟩, h.nodup, Nat.le_trans h.le ha.size⟩
theorem DsOk.nil {B : Nat} (E : Env) (σ : Hp) {w : World} (h : B ≤ w.heap.size) : DsOk B E σ w [] := ⟨fun d hd => (by cases hd), List.nodup_nil, h⟩
/-- The frame, its temporaries alone; what it is to do at its end. -/
structure StF (C : Cx) (n B c : Nat) (fr : Fr) (σ : Hp) (E : Env) (w : World) (a : Act) : Prop where
  st : St C n [] c fr σ E w (bare a)
  ds : DsOk B E σ w a.defers
def PostF (C : Cx) (n B : Nat) (E : Env) (σ : Hp) (w : World) (outs : List Out) (e : Exit) (a' : Act) (w' : World) : Prop :=
  ∃ e' c' fr' σ' ws' E', (e', c', fr', σ', ws') ∈ outs ∧ e = e'.to ∧ StF C n B c' fr' σ' E' w' a' ∧ Adv E σ w E' σ' w'
/-- What is kept at every place of the walk. -/
structure Keeps (I : Env → Hp → World → Prop) : Prop where
  adv : ∀ {E E' : Env} {σ σ' : Hp} {w w' : World}, I E σ w → Adv E σ w E' σ' w' → I E' σ' w'
def AXF (F : Fence) (m : Nat) (I : Env → Hp → World → Prop) (C : Cx) (n B : Nat) (code : Code) (c : Nat) (fr : Fr) (σ : Hp) (outs : List Out) : Prop :=
  ∀ E w a, I E σ w → StF C n B c fr σ E w a → code.wpIn F m C.P (PostF C n B E σ w outs) a w
/-- What yield does: a round. -/
def YOk (I : Env → Hp → World → Prop) (C : Cx) (yi : Id) (m : Nat) (rd : YldT) : Prop :=
  ∀ xs c σ ws outs, rd xs c σ ws = some outs → (∀ o ∈ outs, Grows σ ws o.2.1 o.2.2) ∧ ∀ E w vals, I E σ w → GL C E → Holds E σ w → (∀ k, c ≤ k → Fresh E [k]) → RR E .vs xs vals →
    ∀ l, (∃ s z q, E.ρ yi = some (.at l s z q)) → ∃ fn tmps assign body, (Instr.yield l vals.toArray).run C.P w = .ok (.round l fn tmps assign body) w ∧
      RoundIn Fence.wide m C.P l fn tmps assign body w fun e w' => e = .returned (.bool true) ∧ ∃ o ∈ outs, ∃ E', Holds E' o.2.1 w' ∧ Adv E σ w E' o.2.1 w' ∧ ∀ k, o.1 ≤ k → Fresh E' [k]
section
variable {F : Fence} {m : Nat} {I : Env → Hp → World → Prop} {C : Cx} {n B : Nat} {yi : Id} {rd : YldT}
theorem StF.after {c : Nat} {fr : Fr} {σ : Hp} {E : Env} {w : World} {a : Act} (h : StF C n B c fr σ E w a) {E' : Env} {w' : World} {x : AV} {v : Value} {c' : Nat} {σ' : Hp} (hx : VR E' x v)
    (hh : Holds E' σ' w') (ha : Adv E σ w E' σ' w') (hf : ∀ k, c' ≤ k → Fresh E' [k]) (dst : Option Tmp) : StF C n B c' (putF n fr dst x) σ' E' w' (a.put dst v) :=
  ⟨by rw [bare_put]; exact ⟨h.st.gl.mono ha.le, putF_sound (h.st.fr.mono ha.le) dst hx, hh, hf⟩, by rw [put_defers]; exact h.ds.adv ha⟩
theorem plainO_not {o : Op} (h : plainO o = true) : ∀ c, o ≠ .defer c := fun c hc => by rw [hc] at h; cases h
theorem stepF_sound (hF : ∀ f, F.fn f) (hdep : F.depth = none) (hround : F = Fence.wide ∨ ∀ xs c σ ws, rd xs c σ ws = none) [TbOk C.B C.P] (hy : YOk I C yi (m - 1) rd) {c : Nat} {fr : Fr} {σ : Hp} {ws : List Nat} {o : Oper} {qs : List (AV × Nat × Hp × List Nat)} (h : stepF C yi rd c fr σ ws o = some qs) :
    (∀ q ∈ qs, Grows σ ws q.2.2.1 q.2.2.2) ∧ ∀ {E : Env} {w : World} {a : Act}, I E σ w → StF C n B c fr σ E w a → ∀ {next : Act → World → Prop} {Q : Exit → Act → World → Prop},
      (∀ q ∈ qs, ∀ v w' E', VR E' q.1 v → Holds E' q.2.2.1 w' → Adv E σ w E' q.2.2.1 w' → (∀ k, q.2.1 ≤ k → Fresh E' [k]) → next (a.put o.dst v) w') → o.wpIn F m C.P a w next Q := by
  have hop : (∀ c, o.op ≠ .defer c) → ∀ {qs}, oneF c σ ws (opE C fr (aget σ) [c] o) = some qs → (∀ q ∈ qs, Grows σ ws q.2.2.1 q.2.2.2) ∧ ∀ {E : Env} {w : World} {a : Act}, I E σ w → StF C n B c fr σ E w a → ∀ {next : Act → World → Prop} {Q : Exit → Act → World → Prop},
      (∀ q ∈ qs, ∀ v w' E', VR E' q.1 v → Holds E' q.2.2.1 w' → Adv E σ w E' q.2.2.1 w' → (∀ k, q.2.1 ≤ k → Fresh E' [k]) → next (a.put o.dst v) w') → o.wpIn F m C.P a w next Q := by
    intro hd qs h
    unfold oneF at h
    split at h
    · rename_i q hq
      obtain ⟨hok, h⟩ := bsel_some h
      cases h
      refine ⟨fun q' hq' => by obtain rfl := List.mem_singleton.1 hq'; exact .app _ _ _, fun {E w a} hI hs {next Q} hn => ?_⟩
      obtain ⟨v, w', E', h1, h2, h3, h4, h5⟩ := op_sound hs.st.gl hs.st.fr hs.st.holds (fun _ _ h => h) (hs.st.fresh c (Nat.le_refl _)) hq hok
      have hnx := hn _ (List.mem_singleton.2 rfl) v w' E' h2 h3 h4 (fun k hk => (hs.st.fresh k (by simp only at hk; omega)).other h5 (by simp only at hk; omega))
      rw [bare_eval] at h1
      rcases h1 with h1 | ⟨h1, rfl⟩
      · exact op_value hF hd h1 hnx
      · exact op_skip hF hd h1 hnx
    · cases h
  unfold stepF at h
  split at h
  · rename_i x s hopn
    split at h
    · split at h
      · rename_i y hyv
        split at h
        · rename_i q0 hq0; cases h
          refine ⟨fun q hq => by obtain ⟨r, _, rfl⟩ := List.mem_map.1 hq; exact .app _ _ _, fun {E w a} hI hs {next Q} hn => ?_⟩
          obtain ⟨r, h1, h2, v, w', E', h3, h4, h5, h6, h7⟩ := mapNextN_sound (P := C.P) hs.st.holds (fun _ _ h => h) (ev_sound hs.st.gl hs.st.fr hyv) hq0 o.type [c]
          rw [bare_eval] at h3
          refine op_value hF (fun c hc => by rw [hopn] at hc; cases hc) (w' := w') (v := v) (by simp only [execOp, hopn, Sem.run_bind, h3, Result.andThen_ok, Sem.run_pure]) ?_
          exact hn _ (List.mem_map.2 ⟨r, h1, rfl⟩) v w' E' h4 h5 h6 (fun k hk => (hs.st.fresh k (by simp only at hk; omega)).other h7 (by simp only at hk; omega))
        · cases h
      · cases h
    · cases h
  · rename_i k hk
    split at h
    · rename_i f hcal
      split at h
      · rename_i i xs hfv hxs
        split at h
        · rename_i hid
          have hid := idEq_sound hid
          subst hid
          split at h
          · rename_i l hl; cases h
            obtain ⟨g1, g2⟩ := hy _ _ _ _ _ hl
            refine ⟨fun q hq => by obtain ⟨r, k1, rfl⟩ := List.mem_map.1 hq; exact g1 r k1, fun {E w a} hI hs {next Q} hn => ?_⟩
            have hFw : F = Fence.wide := by
              rcases hround with h | h
              · exact h
              · rw [h] at hl; cases hl
            have hfe := ev_sound hs.st.gl hs.st.fr hfv
            have hae := evs_sound hs.st.gl hs.st.fr hxs
            rw [bare_eval] at hfe hae
            generalize hav : a.eval f = av at hfe
            cases hfe with
            | yld hρ =>
              rename_i b base sz cap
              obtain ⟨fn, tmps, assign, body, hyr, hR⟩ := g2 E w _ hI hs.st.gl hs.st.holds hs.st.fresh hae b ⟨_, _, _, hρ⟩
              have e : (k.args.toList.map a.eval).toArray = k.args.map a.eval := by apply Array.ext'; simp
              rw [e] at hyr
              have hrun : (execOp a.eval o).run C.P w = .ok (.round b fn tmps assign body) w := by
                simp only [execOp, hk, resolve, hcal, hav, Deferred.ofValue, pure_bind, invoke, Array.empty_append]
                simpa using hyr
              refine ⟨fun f _ => hF f, ?_⟩
              rw [Oper.semAt_eq _ _ _ (fun c hc => by rw [hk] at hc; cases hc), hrun, Oper.uponIn_round]
              refine ⟨fun hd => (by rw [hdep] at hd; cases hd), ?_⟩
              rw [hFw]
              refine hR.mono ?_
              rintro e' w' ⟨rfl, r, r1, E', r2, r3, r4⟩
              exact hn _ (List.mem_map.2 ⟨r, r1, rfl⟩) _ w' E' (.lit _) r2 r3 r4
          · cases h
        · cases h
      · cases h
    · exact hop (fun c hc => by rw [hk] at hc; cases hc) h
    · cases h
  · split at h
    · rename_i hp; exact hop (plainO_not hp) h
    · cases h
theorem opsF_sound (hI : Keeps I) (hF : ∀ f, F.fn f) (hdep : F.depth = none) (hround : F = Fence.wide ∨ ∀ xs c σ ws, rd xs c σ ws = none) [TbOk C.B C.P] (hy : YOk I C yi (m - 1) rd) {ops : Array Oper} {Q : Exit → Act → World → Prop} : ∀ (l : List Oper) (i : Nat), ops.toList.drop i = l →
    ∀ (c : Nat) (fr : Fr) (σ : Hp) (ws : List Nat) (outs : List (Nat × Fr × Hp × List Nat)), opsF C n yi rd ops.toList l c fr σ ws = some outs → (∀ o ∈ outs, Grows σ ws o.2.2.1 o.2.2.2) ∧ ∀ (E : Env) (w : World) (a : Act), I E σ w → StF C n B c fr σ E w a →
      (∀ a' w' E', ∀ o ∈ outs, StF C n B o.1 o.2.1 o.2.2.1 E' w' a' → Adv E σ w E' o.2.2.1 w' → Q .normal a' w') → wpOpsIn F m C.P ops Q (List.range' i l.length) a w
  | [], i, _, c, fr, σ, ws, outs, h => by
    unfold opsF at h; cases h
    exact ⟨fun o ho => by obtain rfl := List.mem_singleton.1 ho; exact .refl _ _, fun E w a _ hs hQ => hQ a w E _ (List.mem_singleton.2 rfl) hs (.refl _ _ _)⟩
  | o :: r, i, hd, c, fr, σ, ws, outs, h => by
    have hi : ops[i]? = some o := by
      have := congrArg (·[0]?) hd
      simpa using this
    have hd' : ops.toList.drop (i + 1) = r := by
      have := congrArg (List.drop 1) hd
      simpa [Nat.add_comm] using this
    unfold opsF at h
    split at h
    · rename_i b hb
      split at h
      · split at h
        · rename_i qs hqs
          obtain ⟨h1, h2⟩ := bindL_mem h
          obtain ⟨p1, p2⟩ := stepF_sound (n := n) hF hdep hround hy hqs
          refine ⟨fun o' ho' => ?_, fun E w a hi' hs hQ => ?_⟩
          · obtain ⟨q, k1, x, k2, k3⟩ := h2 o' ho'
            exact (p1 q k1).trans ((opsF_sound hI hF hdep hround hy (Q := Q) r (i + 1) hd' _ _ _ _ _ k2).1 o' k3)
          · rw [List.length_cons, List.range'_succ, wpOpsIn]
            simp only [hi]
            have hw := want_sound hs.st.fr hb
            rw [show yielded ops a.tmps = yielded ops (bare a).tmps from rfl, hw]
            simp only [if_true]
            refine p2 hi' hs (fun q hq v w' E' k2 k3 k4 k5 => ?_)
            obtain ⟨x, g1, g2⟩ := h1 q hq
            refine (opsF_sound hI hF hdep hround hy (Q := Q) r (i + 1) hd' _ _ _ _ _ g1).2 E' w' _ (hI.adv hi' k4) (hs.after k2 k3 k4 k5 o.dst) fun a' w'' E'' o' ho' f1 f2 => hQ a' w'' E'' o' (g2 o' ho') f1 (k4.trans f2)
        · cases h
      · obtain ⟨g3, g4⟩ := opsF_sound hI hF hdep hround hy (Q := Q) r (i + 1) hd' _ _ _ _ _ h
        refine ⟨g3, fun E w a hi' hs hQ => ?_⟩
        rw [List.length_cons, List.range'_succ, wpOpsIn]
        simp only [hi]
        have hw := want_sound hs.st.fr hb
        rw [show yielded ops a.tmps = yielded ops (bare a).tmps from rfl, hw]
        simp only [Bool.false_eq_true, if_false]
        refine ⟨fun f _ => hF f, ?_⟩
        exact g4 E w _ hi' ⟨by rw [bare_put]; exact ⟨hs.st.gl, putF_sound hs.st.fr o.dst (.lit undef), hs.st.holds, hs.st.fresh⟩, by rw [put_defers]; exact hs.ds⟩ hQ
    · cases h
end
end
end Go.AS
