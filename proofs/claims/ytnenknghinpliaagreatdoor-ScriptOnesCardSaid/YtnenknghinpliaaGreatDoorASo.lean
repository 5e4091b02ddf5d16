/- Contracts; operations in their order; code. -/
import Derived.Test.YtnenknghinpliaaGreatDoorASn
namespace Go.AS
noncomputable section

/-- A call of function f, however it is made. -/
def Does (P : Program) (f : FuncId) (vals : Array Value) (w : World) (R : Value → World → Prop) : Prop :=
  ((callFunc f vals).run P w = .ok (.enter f vals) w ∧ Calls P f vals w (fun e w' => ∃ v, e = .returned v ∧ R v w')) ∨ ∃ v w', (callFunc f vals).run P w = .ok (.value v) w' ∧ R v w'
/-- What comes after a step: a value that stands for 'x', memory turned. -/
def After (E : Env) (σ : Hp) (w : World) (p : Id) (K : AV → Upd → Prop) (v : Value) (w' : World) : Prop :=
  ∃ E' x upd, K x upd ∧ VR E' x v ∧ Holds E' (σ.app upd) w' ∧ Adv E σ w E' (σ.app upd) w' ∧ NewIn E E' p
def Ct.asks (c : Ct) (p : Id) (d : Nat) (xs : List AV) (σ : Hp) (K : AV → Upd → Prop) : Prop :=
  match c with
  | .det g => match g p d xs σ with
    | some r => r.ok = true ∧ K r.x r.upd
    | none => False
  | .gen s => s p d xs σ K
def CtOk (C : Cx) (f : FuncId) (c : Ct) : Prop :=
  ∀ p d xs σ K, c.asks p d xs σ K → ∀ E w vals, GL C E → Holds E σ w → Fresh E p → RR E .vs xs vals → Does C.P f vals.toArray w (After E σ w p K)
structure Cx.Sound (C : Cx) : Prop where
  tb : TbOk C.B C.P
  mix : C.P.follows .mixedOrders = true
  ct : ∀ f c, C.ct f = some c → CtOk C f c

/-- A method of a dynamic type's own, or of a part that it embeds: the function and the receiver. -/
def methodE (B : Tb) (t : TypeId) (x : AV) (name : String) : Option (FuncId × AV) :=
  match ti B t with
  | some T => match T.methods.find? (·.name == name) with
    | some m => match m.path.toList, m.func with
      | [], some (f, true) => match T.desc with
        | .pointer _ => some (f, x)
        | _ => none
      | [], some (f, false) => match T.desc with
        | .pointer _ => none
        | _ => some (f, x)
      | [⟨s, k, false⟩], some (f, true) => match ti B s with
        | some S => match S.desc with
          | .struct fs => match fs[k]? with
            | some fd => match ti B fd.type with
              | some F => match F.desc with
                | .pointer _ => match fieldE B S k x with
                  | some y => some (f, y)
                  | none => none
                | _ => none
              | none => none
            | none => none
          | _ => none
        | none => none
      | _, _ => none
    | none => none
  | none => none
theorem method_run {P : Program} {B : Tb} [TbOk B P] {E : Env} {t : TypeId} {x y : AV} {name : String} {f : FuncId} (h : methodE B t x name = some (f, y)) {v : Value} (hv : VR E x v) (w : World) (n : Nat) : ∃ u, VR E y u ∧ (method (n + 1) t v name).run P w = .ok (f, u) w := by
  unfold methodE at h
  split at h
  · rename_i T hT
    split at h
    · rename_i m hm
      obtain ⟨i, hi, hd, _, _, _, hmm, _⟩ := ti_spec (P := P) hT
      rw [← hmm] at hm
      have hinfo : (typeInfo t).run P w = .ok i w := by
        have h0 : (program).run P w = .ok P w := rfl
        simp only [typeInfo, Sem.run_bind, h0, Result.andThen_ok, hi, Sem.run_pure]
      have hund := run_ti_underlying hT w
      split at h
      · rename_i hp hf
        split at h
        · rename_i hdd; cases h
          rw [hdd] at hund
          refine ⟨v, hv, ?_⟩
          simp only [method, Sem.run_bind, hinfo, Result.andThen_ok, hm, hp, follow, Sem.run_pure, hf, receiverAt, hund, Place.get]
        · cases h
      · rename_i hp hf
        split at h
        · cases h
        · rename_i hnp; cases h
          refine ⟨v, hv, ?_⟩
          simp only [method, Sem.run_bind, hinfo, Result.andThen_ok, hm, hp, follow, Sem.run_pure, hf, receiverAt, hund, Place.get]
      · rename_i hp hf
        split at h
        · rename_i S hS
          split at h
          · rename_i fs hfs
            split at h
            · rename_i fd hfd
              split at h
              · rename_i F hF
                split at h
                · rename_i e hFd
                  split at h
                  · rename_i y' hy; cases h
                    have hu := run_ti_underlying hS w
                    rw [hfs] at hu
                    have hu2 := run_ti_underlying hF w
                    rw [hFd] at hu2
                    obtain ⟨u, h1, h2⟩ := field_sound hS (w := w) hv hy
                    simp only [Instr.field, Sem.run_bind, hu, Result.andThen_ok, hfd] at h1
                    refine ⟨u, h2, ?_⟩
                    cases v with
                    | agg cs =>
                      simp only [asAgg, Sem.run_pure, Result.andThen_ok] at h1
                      simp only [method, Sem.run_bind, hinfo, Result.andThen_ok, hm, hp, follow, hu, hfd, Sem.run_pure, hf, receiverAt, hu2, Place.get, h1, Bool.false_eq_true, if_false]
                    | _ => simp [asAgg] at h1
                  · cases h
                · cases h
              · cases h
            · cases h
          · cases h
        · cases h
      · cases h
    · cases h
  · cases h

/-- What an operand that is called stands for. -/
def fnView : AV → Option (FuncId × List AV × List AV)
  | .fn (.func f) xs ys => some (f, xs, ys)
  | .lit (.func (.func f) xs ys) => some (f, xs.toList.map .lit, ys.toList.map .lit)
  | _ => none
def askF (C : Cx) (p : Id) (d : Nat) (f : FuncId) (xs : List AV) (σ : Hp) (K : AV → Upd → Prop) : Prop :=
  match C.ct f with
  | some c => c.asks p d xs σ K
  | none => False
def stepO (C : Cx) (p : Id) (fr : Fr) (σ : Hp) (o : Oper) (K : AV → Upd → Prop) : Prop :=
  match o.op with
  | .call c => match c.callee with
    | .value f => match ev C fr f, evs C fr c.args.toList with
      | some fv, some xs => match fnView fv with
        | some (g, a, b) => askF C p (o.dst.getD 0) g (a ++ xs ++ b) σ K
        | none => False
      | _, _ => False
    | .invoke r m => match ev C fr r, evs C fr c.args.toList with
      | some rv, some xs => match ifView rv with
        | some (.dyn t x) => match methodE C.B t x m with
          | some (g, y) => askF C p (o.dst.getD 0) g (y :: xs) σ K
          | none => False
        | _ => False
      | _, _ => False
    | .builtin _ => match opE C fr (aget σ) p o with
      | some r => r.ok = true ∧ K r.x r.upd
      | none => False
  | _ => match opE C fr (aget σ) p o with
    | some r => r.ok = true ∧ K r.x r.upd
    | none => False

theorem RR.vs_append {E : Env} {xs ys : List AV} : ∀ {us vs : List Value}, RR E .vs xs us → RR E .vs ys vs → RR E .vs (xs ++ ys) (us ++ vs) := by
  induction xs with
  | nil => intro us vs h k; obtain rfl := h.vs_nil_inv; simpa using k
  | cons x xs ih => intro us vs h k; obtain ⟨v, cs', h1, h2, rfl⟩ := h.vs_cons_inv; exact .vcons h1 (ih h2 k)
theorem RR.vs_lits {E : Env} : ∀ (vs : List Value), RR E .vs (vs.map .lit) vs
  | [] => .vnil
  | v :: vs => .vcons (.lit v) (RR.vs_lits vs)
theorem fnView_sound {E : Env} {x : AV} {v : Value} (hx : VR E x v) {f : FuncId} {a b : List AV} (h : fnView x = some (f, a, b)) : ∃ a' b', v = .func (.func f) a' b' ∧ RR E .vs a a'.toList ∧ RR E .vs b b'.toList := by
  unfold fnView at h
  split at h
  · cases h
    obtain ⟨f', c', rfl, h1, h2⟩ := hx.fn_inv
    exact ⟨_, _, rfl, by simpa using h1, by simpa using h2⟩
  · cases h
    have := hx.lit_inv; subst this
    exact ⟨_, _, rfl, RR.vs_lits _, RR.vs_lits _⟩
  · cases h

theorem Does.imp {P : Program} {f : FuncId} {vals : Array Value} {w : World} {R R' : Value → World → Prop} (h : Does P f vals w R) (hi : ∀ v w', R v w' → R' v w') : Does P f vals w R' := by
  rcases h with ⟨h1, h2⟩ | ⟨v, w', h1, h2⟩
  · exact .inl ⟨h1, h2.mono fun e w' ⟨v, he, hr⟩ => ⟨v, he, hi v w' hr⟩⟩
  · exact .inr ⟨v, w', h1, hi v w' h2⟩
theorem Does.wp {P : Program} {f : FuncId} {vals : Array Value} {w : World} {R : Value → World → Prop} (h : Does P f vals w R) {o : Oper} {a : Act} {next : Act → World → Prop} {Q : Exit → Act → World → Prop}
    (he : (execOp a.eval o).run P w = (callFunc f vals).run P w) (hn : ∀ v w', R v w' → next (a.put o.dst v) w') : o.wp P a w next Q := by
  unfold Oper.wp
  rw [he]
  rcases h with ⟨h1, h2⟩ | ⟨v, w', h1, h2⟩
  · rw [h1]
    refine Calls.mono h2 ?_
    rintro e w' ⟨v, rfl, hr⟩
    exact hn v w' hr
  · rw [h1]; exact hn v w' h2

theorem opE_wp {C : Cx} [TbOk C.B C.P] {E : Env} {σ : Hp} {w : World} {p : Id} {n : Nat} {fr : Fr} {a : Act} (hg : GL C E) (hf : FR E n fr a) (hh : Holds E σ w) (hp : Fresh E p) {o : Oper} {K : AV → Upd → Prop}
    (h : match opE C fr (aget σ) p o with | some r => r.ok = true ∧ K r.x r.upd | none => False) {next : Act → World → Prop} {Q : Exit → Act → World → Prop}
    (hn : ∀ v w', After E σ w p K v w' → next (a.put o.dst v) w') : o.wp C.P a w next Q := by
  split at h
  · rename_i r hr
    obtain ⟨v, w', E', h1, h2, h3, h4, h5⟩ := op_sound hg hf hh (fun _ _ h => h) hp hr h.1
    unfold Oper.wp
    have := hn v w' ⟨E', r.x, r.upd, h.2, h2, h3, h4, h5⟩
    rcases h1 with h1 | ⟨h1, rfl⟩
    · rw [h1]; exact this
    · rw [h1]; exact this
  · exact h.elim
theorem step_wp {C : Cx} (hC : C.Sound) {E : Env} {σ : Hp} {w : World} {p : Id} {n : Nat} {fr : Fr} {a : Act} (hg : GL C E) (hf : FR E n fr a) (hh : Holds E σ w) (hp : Fresh E p) {o : Oper} {K : AV → Upd → Prop} (h : stepO C p fr σ o K)
    {next : Act → World → Prop} {Q : Exit → Act → World → Prop} (hn : ∀ v w', After E σ w p K v w' → next (a.put o.dst v) w') : o.wp C.P a w next Q := by
  haveI := hC.tb
  unfold stepO at h
  split at h
  · rename_i c hc
    split at h
    · rename_i f hcal
      split at h
      · rename_i fv xs hfv hxs
        split at h
        · rename_i g y z hv
          unfold askF at h
          split at h
          · rename_i ct hct
            obtain ⟨y', z', h1, h2, h3⟩ := fnView_sound (ev_sound hg hf hfv) hv
            have hvs : RR E .vs (y ++ xs ++ z) (y'.toList ++ c.args.toList.map a.eval ++ z'.toList) := (h2.vs_append (evs_sound hg hf hxs)).vs_append h3
            refine Does.wp (hC.ct g ct hct p _ _ σ K h E w _ hg hh hp hvs) ?_ hn
            have e : (y'.toList ++ c.args.toList.map a.eval ++ z'.toList).toArray = y' ++ c.args.map a.eval ++ z' := by apply Array.ext'; simp
            simp only [execOp, hc, resolve, hcal, h1, Deferred.ofValue, pure_bind, invoke, e]
          · exact h.elim
        · exact h.elim
      · exact h.elim
    · rename_i r m hcal
      split at h
      · rename_i rv xs hrv hxs
        split at h
        · rename_i t x hv
          split at h
          · rename_i g y hm
            unfold askF at h
            split at h
            · rename_i ct hct
              have hi := ifView_sound (ev_sound hg hf hrv) hv
              simp only at hi
              obtain ⟨u, h1, h2⟩ := hi
              obtain ⟨u2, h2, hmr⟩ := method_run hm h2 w (C.P.types.size + 99)
              have hvs : RR E .vs (y :: xs) (u2 :: c.args.toList.map a.eval) := .vcons h2 (evs_sound hg hf hxs)
              refine Does.wp (hC.ct g ct hct p _ _ σ K h E w _ hg hh hp hvs) ?_ hn
              have e : (u2 :: c.args.toList.map a.eval).toArray = #[u2] ++ c.args.map a.eval := by apply Array.ext'; simp
              have e2 : (#[Value.iface t u] ++ c.args.map a.eval).extract 1 (#[Value.iface t u] ++ c.args.map a.eval).size = c.args.map a.eval := by
                apply Array.ext'; simp only [Array.toList_extract, Array.toList_append, Array.toList_map, Array.size_append, Array.size_map, List.extract_eq_take_drop]
                simp [List.take_of_length_le]
              have e3 : (#[Value.iface t u] ++ c.args.map a.eval)[0]? = some (Value.iface t u) := by rw [Array.getElem?_append_left (by simp)]; rfl
              have h0 : (program).run C.P w = .ok C.P w := rfl
              simp only [execOp, hc, resolve, hcal, h1, pure_bind, invoke, e2, e3, callMethod, Sem.run_bind, h0, Result.andThen_ok, Made.depth]
              rw [show C.P.types.size + 100 = C.P.types.size + 99 + 1 from rfl, hmr]
              simp only [Result.andThen_ok, e]
            · exact h.elim
          · exact h.elim
        · exact h.elim
      · exact h.elim
    · exact opE_wp hg hf hh hp h hn
  · exact opE_wp hg hf hh hp h hn
end
end Go.AS
