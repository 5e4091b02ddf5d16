/- The walk as a function: a body's run, loops with fuel. -/
import Derived.Test.YtnenknghinpliaaGreatDoorASx
namespace Go.AS
noncomputable section

def addL : Upd → List Nat → List Nat
  | [], ws => ws
  | (l, _) :: r, ws => addL r (l :: ws)
theorem addL_mem : ∀ {u : Upd} {ws : List Nat} {l : Nat}, l ∉ addL u ws → l ∉ ws ∧ ∀ e, (l, e) ∉ u
  | [], ws, l, h => ⟨h, fun e h => by cases h⟩
  | (j, x) :: r, ws, l, h => by
    unfold addL at h
    obtain ⟨h1, h2⟩ := addL_mem h
    refine ⟨fun hl => h1 (List.mem_cons_of_mem _ hl), fun e he => ?_⟩
    rcases List.mem_cons.1 he with he | he
    · cases he; exact h1 (List.mem_cons_self ..)
    · exact h2 e he
/-- From one memory to a later one: what is not told as written is as it was, and no piece goes. -/
structure Grows (σ : Hp) (ws : List Nat) (σ' : Hp) (ws' : List Nat) : Prop where
  same : ∀ l, l ∉ ws' → l ∉ ws ∧ aget σ' l = aget σ l
  keep : ∀ l e, aget σ l = some e → ∃ e', aget σ' l = some e'
theorem Grows.refl (σ : Hp) (ws : List Nat) : Grows σ ws σ ws := ⟨fun _ h => ⟨h, rfl⟩, fun _ e h => ⟨e, h⟩⟩
theorem Grows.trans {a b c : Hp} {x y z : List Nat} (h : Grows a x b y) (k : Grows b y c z) : Grows a x c z :=
  ⟨fun l hl => by obtain ⟨h1, h2⟩ := k.same l hl; obtain ⟨h3, h4⟩ := h.same l h1; exact ⟨h3, h2.trans h4⟩, fun l e he => by obtain ⟨e', h1⟩ := h.keep l e he; exact k.keep l e' h1⟩
theorem Grows.app (σ : Hp) (ws : List Nat) (u : Upd) : Grows σ ws (σ.app u) (addL u ws) := by
  refine ⟨fun l hl => ?_, fun l e he => ?_⟩
  · obtain ⟨h1, h2⟩ := addL_mem hl
    refine ⟨h1, ?_⟩
    rw [aget_app]
    cases hu : ulast u l with
    | none => simp
    | some e =>
      obtain ⟨⟨a, b⟩, h3, h4⟩ := List.mem_map.1 (ulast_mem hu)
      simp only at h4; subst h4
      exact absurd h3 (h2 b)
  · rw [aget_app]
    cases hu : ulast u l with
    | none => exact ⟨e, by simpa using he⟩
    | some e' => exact ⟨e', by simp⟩

/-- What a call hands back, with the memory behind it. -/
abbrev CallR := Option (AV × Nat × Hp × List Nat)
section
variable (C : Cx) (n : Nat) (call : FuncId → List AV → Nat → Hp → List Nat → CallR)
def opI (fr : Fr) (c : Nat) (σ : Hp) (ws : List Nat) (o : Oper) : CallR :=
  obind (opE C fr (aget σ) [c] o) fun q => bsel q.ok (some (q.x, c + 1, σ.app q.upd, addL q.upd ws)) none
def valueI (fr : Fr) (c : Nat) (σ : Hp) (ws : List Nat) (f : Operand) (args : List Operand) : CallR :=
  obind (ev C fr f) fun fv => obind (evs C fr args) fun xs => obind (fnView fv) fun g => call g.1 (g.2.1 ++ xs ++ g.2.2) c σ ws
def dynOf : IfV → Option (TypeId × AV)
  | .dyn t x => some (t, x)
  | _ => none
def invokeI (fr : Fr) (c : Nat) (σ : Hp) (ws : List Nat) (r : Operand) (m : String) (args : List Operand) : CallR :=
  obind (ev C fr r) fun rv => obind (evs C fr args) fun xs => obind (ifView rv) fun iv => obind (dynOf iv) fun d => obind (methodE C.B d.1 d.2 m) fun g => call g.1 (g.2 :: xs) c σ ws
def callI (fr : Fr) (c : Nat) (σ : Hp) (ws : List Nat) (o : Oper) (k : Call) : CallR :=
  match k.callee with
  | .value f => valueI C call fr c σ ws f k.args.toList
  | .invoke r m => invokeI C call fr c σ ws r m k.args.toList
  | .builtin _ => opI C fr c σ ws o
def stepI (fr : Fr) (c : Nat) (σ : Hp) (ws : List Nat) (o : Oper) : CallR :=
  match o.op with
  | .call k => callI C call fr c σ ws o k
  | _ => opI C fr c σ ws o
def opsI (all : List Oper) (l : List Oper) : Nat → Fr → Hp → List Nat → Option (Nat × Fr × Hp × List Nat) :=
  lrec (fun c fr σ ws => some (c, fr, σ, ws)) (fun o _ ih c fr σ ws => obind (wantE all fr o.guard) fun b =>
    bsel b (obind (stepI C call fr c σ ws o) fun q => ih q.2.1 (putF n fr o.dst q.1) q.2.2.1 q.2.2.2) (ih c (putF n fr o.dst (.lit undef)) σ ws)) l
def opsG (all : List Oper) (c : Nat) : List Oper → Nat → Fr → Hp → List Nat → List PE → Option (List PE × Fr × Hp × List Nat)
  | [], _, fr, σ, ws, log => some (log, fr, σ, ws)
  | o :: r, k, fr, σ, ws, log => match wantE all (restr (looksL all o) fr) o.guard with
    | some b => match b with
      | true => match detO C [k, c] (restr (looksL all o) fr) (restr (fpR C fr σ o) σ) o with
        | some q => match q.ok with
          | true => opsG all c r (k + 1) (putF n fr o.dst q.x) (σ.app q.upd) (addL q.upd ws) (log ++ [⟨true, q.x, q.upd, fpR C fr σ o⟩])
          | false => none
        | none => none
      | false => opsG all c r (k + 1) (putF n fr o.dst (.lit undef)) σ ws (log ++ [⟨false, .lit undef, [], []⟩])
    | none => none
abbrev Out := Ex × Nat × Fr × Hp × List Nat
def loopI (f : Nat → Fr → Hp → List Nat → Option Out) : Nat → Nat → Fr → Hp → List Nat → Option Out
  | 0, _, _, _, _ => none
  | m + 1, c, fr, σ, ws => match f c fr σ ws with
    | some (.normal, c', fr', σ', ws') => loopI f m c' fr' σ' ws'
    | r => r
def drawI (ops : List Oper) (c : Nat) (fr : Fr) (σ : Hp) (ws : List Nat) : Option Out :=
  match opsG C n ops c ops 0 fr σ ws [] with
  | some (log, fr', σ', ws') => match planOk n ops log with
    | true => some (.normal, c + 1, fr', σ', ws')
    | false => none
  | none => none
def regI (ops : List Oper) (c : Nat) (fr : Fr) (σ : Hp) (ws : List Nat) : Option Out :=
  match opsI C n call ops ops c fr σ ws with
  | some (c', fr', σ', ws') => some (.normal, c', fr', σ', ws')
  | none => none
def runI (m : Nat) : Code → Nat → Fr → Hp → List Nat → Option Out
  | .skip, c, fr, σ, ws => some (.normal, c, fr, σ, ws)
  | .region _ ops d, c, fr, σ, ws => match d with
    | false => regI C n call ops.toList c fr σ ws
    | true => drawI C n ops.toList c fr σ ws
  | .seq x y, c, fr, σ, ws => match runI m x c fr σ ws with
    | some (.normal, c', fr', σ', ws') => runI m y c' fr' σ' ws'
    | r => r
  | .cond o x y, c, fr, σ, ws => match ev C fr o with
    | some (.lit (.bool t)) => match t with
      | true => runI m x c fr σ ws
      | false => runI m y c fr σ ws
    | _ => none
  | .block i x, c, fr, σ, ws => match runI m x c fr σ ws with
    | some (.exit j, c', fr', σ', ws') => match Nat.beq j i with
      | true => some (.normal, c', fr', σ', ws')
      | false => some (.exit j, c', fr', σ', ws')
    | r => r
  | .loop x, c, fr, σ, ws => loopI (runI m x) m c fr σ ws
  | .exit i, c, fr, σ, ws => some (.exit i, c, fr, σ, ws)
  | .ret, c, fr, σ, ws => some (.ret, c, fr, σ, ws)
  | _, _, _, _, _ => none
end

/-- A function that works in its caller's memory: names from 'c' on are free for it. -/
def OkI (P : Program) (gl : Nat → Option AV) (f : FuncId) (s : List AV → Nat → Hp → List Nat → CallR) : Prop :=
  ∀ xs c σ ws x c' σ' ws', s xs c σ ws = some (x, c', σ', ws') → Grows σ ws σ' ws' ∧ ∀ E w vals, (∀ g x, gl g = some x → GV E x g) → Holds E σ w → (∀ k, c ≤ k → Fresh E [k]) → RR E .vs xs vals →
    Does P f vals.toArray w fun v w' => ∃ E', VR E' x v ∧ Holds E' σ' w' ∧ Adv E σ w E' σ' w' ∧ ∀ k, c' ≤ k → Fresh E' [k]

section
variable {C : Cx} {n : Nat} {call : FuncId → List AV → Nat → Hp → List Nat → CallR}
theorem newIn_nil (E E' : Env) : NewIn E E' [] := fun _ h => absurd (List.nil_suffix) h
/-- What a step leaves. -/
def AfterI (C : Cx) (E : Env) (σ : Hp) (w : World) (x : AV) (c' : Nat) (σ' : Hp) (v : Value) (w' : World) : Prop :=
  ∃ E', VR E' x v ∧ Holds E' σ' w' ∧ Adv E σ w E' σ' w' ∧ ∀ k, c' ≤ k → Fresh E' [k]
theorem opI_sound (hC : C.Sound) {fr : Fr} {c : Nat} {σ : Hp} {ws : List Nat} {o : Oper} {x : AV} {c' : Nat} {σ' : Hp} {ws' : List Nat} (h : opI C fr c σ ws o = some (x, c', σ', ws')) : Grows σ ws σ' ws' ∧
    ∀ {E : Env} {w : World} {a : Act}, St C n [] c fr σ E w a → ∀ {next : Act → World → Prop} {Q : Exit → Act → World → Prop}, (∀ v w', AfterI C E σ w x c' σ' v w' → next (a.put o.dst v) w') → o.wp C.P a w next Q := by
  haveI := hC.tb
  obtain ⟨q, hq, h⟩ := obind_eq h
  obtain ⟨hok, h⟩ := bsel_some h
  cases h
  refine ⟨.app _ _ _, fun {E w a} hs {next Q} hn => ?_⟩
  refine opE_wp hs.gl hs.fr hs.holds (hs.fresh c (Nat.le_refl _)) (K := fun x upd => x = q.x ∧ upd = q.upd) (by rw [hq]; exact ⟨hok, rfl, rfl⟩) ?_
  rintro v w' ⟨E', x, upd, ⟨rfl, rfl⟩, h1, h2, h3, h4⟩
  exact hn v w' ⟨E', h1, h2, h3, fun k hk => (hs.fresh k (by omega)).other h4 (by omega)⟩
theorem callI_sound (hC : C.Sound) (hcall : ∀ g, OkI C.P C.gl g (call g)) {fr : Fr} {c : Nat} {σ : Hp} {ws : List Nat} {o : Oper} {x : AV} {c' : Nat} {σ' : Hp} {ws' : List Nat} (h : stepI C call fr c σ ws o = some (x, c', σ', ws')) : Grows σ ws σ' ws' ∧
    ∀ {E : Env} {w : World} {a : Act}, St C n [] c fr σ E w a → ∀ {next : Act → World → Prop} {Q : Exit → Act → World → Prop}, (∀ v w', AfterI C E σ w x c' σ' v w' → next (a.put o.dst v) w') → o.wp C.P a w next Q := by
  haveI := hC.tb
  unfold stepI at h
  split at h
  · rename_i k hk
    unfold callI at h
    split at h
    · rename_i f hf
      obtain ⟨fv, hfv, h⟩ := obind_eq h
      obtain ⟨xs, hxs, h⟩ := obind_eq h
      obtain ⟨⟨g, y, z⟩, hv, h⟩ := obind_eq h
      obtain ⟨h1, h2⟩ := hcall g _ _ _ _ _ _ _ _ h
      refine ⟨h1, fun {E w a} hs {next Q} hn => ?_⟩
      obtain ⟨y', z', k1, k2, k3⟩ := fnView_sound (ev_sound hs.gl hs.fr hfv) hv
      have hvs : RR E .vs (y ++ xs ++ z) (y'.toList ++ k.args.toList.map a.eval ++ z'.toList) := (k2.vs_append (evs_sound hs.gl hs.fr hxs)).vs_append k3
      refine Does.wp (h2 E w _ hs.gl hs.holds hs.fresh hvs) ?_ hn
      have e : (y'.toList ++ k.args.toList.map a.eval ++ z'.toList).toArray = y' ++ k.args.map a.eval ++ z' := by apply Array.ext'; simp
      simp only [execOp, hk, resolve, hf, k1, Deferred.ofValue, pure_bind, invoke, e]
    · rename_i r m hf
      obtain ⟨rv, hrv, h⟩ := obind_eq h
      obtain ⟨xs, hxs, h⟩ := obind_eq h
      obtain ⟨iv, hiv, h⟩ := obind_eq h
      obtain ⟨⟨t, u0⟩, hd, h⟩ := obind_eq h
      obtain ⟨⟨g, y⟩, hm, h⟩ := obind_eq h
      obtain ⟨h1, h2⟩ := hcall g _ _ _ _ _ _ _ _ h
      refine ⟨h1, fun {E w a} hs {next Q} hn => ?_⟩
      obtain rfl : iv = .dyn t u0 := by
        unfold dynOf at hd; split at hd
        · cases hd; rfl
        · cases hd
      have hi := ifView_sound (ev_sound hs.gl hs.fr hrv) hiv
      simp only at hi
      obtain ⟨u, k1, k2⟩ := hi
      obtain ⟨u2, k2, hmr⟩ := method_run hm k2 w (C.P.types.size + 99)
      have hvs : RR E .vs (y :: xs) (u2 :: k.args.toList.map a.eval) := .vcons k2 (evs_sound hs.gl hs.fr hxs)
      refine Does.wp (h2 E w _ hs.gl hs.holds hs.fresh hvs) ?_ hn
      have e : (u2 :: k.args.toList.map a.eval).toArray = #[u2] ++ k.args.map a.eval := by apply Array.ext'; simp
      have e2 : (#[Value.iface t u] ++ k.args.map a.eval).extract 1 (#[Value.iface t u] ++ k.args.map a.eval).size = k.args.map a.eval := by
        apply Array.ext'; simp only [Array.toList_extract, Array.toList_append, Array.toList_map, Array.size_append, Array.size_map, List.extract_eq_take_drop]
        simp [List.take_of_length_le]
      have e3 : (#[Value.iface t u] ++ k.args.map a.eval)[0]? = some (Value.iface t u) := by rw [Array.getElem?_append_left (by simp)]; rfl
      have h0 : (program).run C.P w = .ok C.P w := rfl
      simp only [execOp, hk, resolve, hf, k1, pure_bind, invoke, e2, e3, callMethod, Sem.run_bind, h0, Result.andThen_ok, Made.depth]
      rw [show C.P.types.size + 100 = C.P.types.size + 99 + 1 from rfl, hmr]
      simp only [Result.andThen_ok, e]
    · exact opI_sound hC h
  · exact opI_sound hC h
theorem opsI_sound (hC : C.Sound) (hcall : ∀ g, OkI C.P C.gl g (call g)) {ops : Array Oper} {Q : Exit → Act → World → Prop} : ∀ (l : List Oper) (i : Nat), ops.toList.drop i = l →
    ∀ (c : Nat) (fr : Fr) (σ : Hp) (ws : List Nat) (c' : Nat) (fr' : Fr) (σ' : Hp) (ws' : List Nat), opsI C n call ops.toList l c fr σ ws = some (c', fr', σ', ws') → Grows σ ws σ' ws' ∧ ∀ (E : Env) (w : World) (a : Act), St C n [] c fr σ E w a →
      (∀ a' w' E', St C n [] c' fr' σ' E' w' a' → Adv E σ w E' σ' w' → Q .normal a' w') → wpOps C.P ops Q (List.range' i l.length) a w
  | [], i, _, c, fr, σ, ws, c', fr', σ', ws', h => by
    rw [opsI, lrec_nil] at h; cases h
    exact ⟨.refl _ _, fun E w a hs hQ => hQ a w E hs (.refl _ _ _)⟩
  | o :: r, i, hd, c, fr, σ, ws, c', fr', σ', ws', h => by
    have hi : ops[i]? = some o := by
      have := congrArg (·[0]?) hd
      simpa using this
    have hd' : ops.toList.drop (i + 1) = r := by
      have := congrArg (List.drop 1) hd
      simpa [Nat.add_comm] using this
    rw [opsI, lrec_cons] at h
    obtain ⟨b, hb, h⟩ := obind_eq h
    cases b with
    | true =>
      rw [bsel_true] at h
      obtain ⟨⟨x, c1, σ1, ws1⟩, hq, h⟩ := obind_eq h
      obtain ⟨g1, g2⟩ := callI_sound (n := n) hC hcall hq
      obtain ⟨g3, g4⟩ := opsI_sound hC hcall (Q := Q) r (i + 1) hd' _ _ _ _ _ _ _ _ h
      refine ⟨g1.trans g3, fun E w a hs hQ => ?_⟩
      rw [List.length_cons, List.range'_succ, wpOps]
      simp only [hi]
      rw [want_sound hs.fr hb]
      simp only [if_true]
      left
      refine g2 hs ?_
      rintro v w' ⟨E', k1, k2, k3, k4⟩
      exact g4 E' w' _ ⟨hs.gl.mono k3.le, putF_sound (hs.fr.mono k3.le) o.dst k1, k2, k4⟩ fun a' w'' E'' h1 h2 => hQ a' w'' E'' h1 (k3.trans h2)
    | false =>
      rw [bsel_false] at h
      obtain ⟨g3, g4⟩ := opsI_sound hC hcall (Q := Q) r (i + 1) hd' _ _ _ _ _ _ _ _ h
      refine ⟨g3, fun E w a hs hQ => ?_⟩
      rw [List.length_cons, List.range'_succ, wpOps]
      simp only [hi]
      rw [want_sound hs.fr hb]
      simp only [Bool.false_eq_true, if_false]
      exact g4 E w _ ⟨hs.gl, putF_sound hs.fr o.dst (.lit undef), hs.holds, hs.fresh⟩ hQ
theorem opsG_sound {all : List Oper} {c : Nat} : ∀ {l : List Oper} {k : Nat} {fr : Fr} {σ : Hp} {ws : List Nat} {log : List PE} {log' : List PE} {fr' : Fr} {σ' : Hp} {ws' : List Nat},
    opsG C n all c l k fr σ ws log = some (log', fr', σ', ws') → (∀ K : List PE → Fr → Hp → Prop, K log' fr' σ' → opsW C n [] all c l k fr σ log K) ∧ Grows σ ws σ' ws'
  | [], _, fr, σ, ws, log, _, _, _, _, h => by cases h; exact ⟨fun K hk => hk, .refl _ _⟩
  | o :: r, k, fr, σ, ws, log, log', fr', σ', ws', h => by
    unfold opsG at h
    split at h
    · rename_i b hb
      split at h
      · split at h
        · rename_i q hq
          split at h
          · rename_i hok
            obtain ⟨h1, h2⟩ := opsG_sound h
            refine ⟨fun K hk => ?_, (Grows.app _ _ _).trans h2⟩
            unfold opsW; rw [hb]
            exact ⟨q, .of hq hok, h1 K hk⟩
          · cases h
        · cases h
      · obtain ⟨h1, h2⟩ := opsG_sound h
        refine ⟨fun K hk => ?_, h2⟩
        unfold opsW; rw [hb]; exact h1 K hk
    · cases h
/-- What is reached, and nothing else. -/
def At (e : Ex) (c : Nat) (fr : Fr) (σ : Hp) : PostK := fun e' c' fr' σ' => e' = e ∧ c' = c ∧ fr' = fr ∧ σ' = σ
def Good (C : Cx) (n : Nat) (code : Code) (f : Nat → Fr → Hp → List Nat → Option Out) : Prop :=
  ∀ c fr σ ws e c' fr' σ' ws', f c fr σ ws = some (e, c', fr', σ', ws') → AX C n [] code c fr σ (At e c' fr' σ') ∧ Grows σ ws σ' ws'
theorem loopI_sound {x : Code} {f : Nat → Fr → Hp → List Nat → Option Out} (hf : Good C n x f) (m : Nat) : Good C n (.loop x) (loopI f m) := by
  intro c fr σ ws e c' fr' σ' ws' h
  refine ⟨?_, ?_⟩
  · refine AX.loop (fun k c fr σ => ∃ ws, loopI f k c fr σ ws = some (e, c', fr', σ', ws')) ⟨ws, h⟩ ?_
    rintro k c fr σ ⟨ws, hk⟩
    cases k with
    | zero => cases hk
    | succ k =>
      unfold loopI at hk
      split at hk
      · rename_i c1 fr1 σ1 ws1 h1
        refine (hf _ _ _ _ _ _ _ _ _ h1).1.mono ?_
        rintro e2 c2 fr2 σ2 ⟨rfl, rfl, rfl, rfl⟩
        exact ⟨k, Nat.lt_succ_self _, ws1, hk⟩
      · rename_i hne
        refine (hf _ _ _ _ _ _ _ _ _ hk).1.mono ?_
        rintro e2 c2 fr2 σ2 ⟨rfl, rfl, rfl, rfl⟩
        cases e2 with
        | normal => exact absurd hk (hne _ _ _ _)
        | exit i => exact ⟨rfl, rfl, rfl, rfl⟩
        | ret => exact ⟨rfl, rfl, rfl, rfl⟩
  · have : ∀ k c fr σ ws, loopI f k c fr σ ws = some (e, c', fr', σ', ws') → Grows σ ws σ' ws' := by
      intro k
      induction k with
      | zero => intro c fr σ ws h; cases h
      | succ k ih =>
        intro c fr σ ws hk
        unfold loopI at hk
        split at hk
        · rename_i c1 fr1 σ1 ws1 h1
          exact (hf _ _ _ _ _ _ _ _ _ h1).2.trans (ih _ _ _ _ hk)
        · exact (hf _ _ _ _ _ _ _ _ _ hk).2
    exact this _ _ _ _ _ h
theorem runI_sound (hC : C.Sound) (hcall : ∀ g, OkI C.P C.gl g (call g)) (m : Nat) : ∀ code : Code, Good C n code (runI C n call m code) := by
  intro code
  induction code with
  | skip => intro c fr σ ws e c' fr' σ' ws' h; unfold runI at h; cases h; exact ⟨.skip ⟨rfl, rfl, rfl, rfl⟩, .refl _ _⟩
  | region i ops d =>
    intro c fr σ ws e c' fr' σ' ws' h
    unfold runI at h
    split at h
    · unfold regI at h
      split at h
      · rename_i h1; cases h
        refine ⟨fun E w a hs => ?_, (opsI_sound (n := n) hC hcall (Q := fun _ _ _ => True) ops.toList 0 rfl _ _ _ _ _ _ _ _ h1).1⟩
        refine wp_region ?_
        have := (opsI_sound (n := n) hC hcall (Q := Post C n [] E σ w (At .normal c' fr' σ')) ops.toList 0 rfl _ _ _ _ _ _ _ _ h1).2 E w a hs fun a' w' E' k1 k2 => ⟨.normal, c', fr', σ', E', ⟨rfl, rfl, rfl, rfl⟩, rfl, k1, k2, newIn_nil _ _⟩
        rw [List.range_eq_range']
        simpa using this
      · cases h
    · unfold drawI at h
      split at h
      · rename_i h1
        split at h
        · rename_i hp; cases h
          obtain ⟨k1, k2⟩ := opsG_sound h1
          exact ⟨.draw hC hC.mix (k1 _ ⟨⟨hp⟩, rfl, rfl, rfl, rfl⟩), k2⟩
        · cases h
      · cases h
  | seq x y hx hy =>
    intro c fr σ ws e c' fr' σ' ws' h
    unfold runI at h
    split at h
    · rename_i c1 fr1 σ1 ws1 h1
      obtain ⟨a1, a2⟩ := hx _ _ _ _ _ _ _ _ _ h1
      obtain ⟨b1, b2⟩ := hy _ _ _ _ _ _ _ _ _ h
      refine ⟨.seq (a1.mono ?_), a2.trans b2⟩
      rintro e2 c2 fr2 σ2 ⟨rfl, rfl, rfl, rfl⟩
      exact b1
    · rename_i hne
      obtain ⟨a1, a2⟩ := hx _ _ _ _ _ _ _ _ _ h
      refine ⟨.seq (a1.mono ?_), a2⟩
      rintro e2 c2 fr2 σ2 ⟨rfl, rfl, rfl, rfl⟩
      cases e2 with
      | normal => exact absurd h (hne _ _ _ _)
      | exit i => exact ⟨rfl, rfl, rfl, rfl⟩
      | ret => exact ⟨rfl, rfl, rfl, rfl⟩
  | cond o x y hx hy =>
    intro c fr σ ws e c' fr' σ' ws' h
    unfold runI at h
    split at h
    · rename_i t ht
      split at h
      · obtain ⟨a1, a2⟩ := hx _ _ _ _ _ _ _ _ _ h
        exact ⟨.cond ht a1, a2⟩
      · obtain ⟨a1, a2⟩ := hy _ _ _ _ _ _ _ _ _ h
        exact ⟨.cond ht a1, a2⟩
    · cases h
  | block i x hx =>
    intro c fr σ ws e c' fr' σ' ws' h
    unfold runI at h
    split at h
    · rename_i j c1 fr1 σ1 ws1 h1
      obtain ⟨a1, a2⟩ := hx _ _ _ _ _ _ _ _ _ h1
      split at h
      · rename_i hj; cases h
        refine ⟨.block (a1.mono ?_), a2⟩
        rintro e2 c2 fr2 σ2 ⟨rfl, rfl, rfl, rfl⟩
        simp only [blockK, hj]; exact ⟨rfl, rfl, rfl, rfl⟩
      · rename_i hj; cases h
        refine ⟨.block (a1.mono ?_), a2⟩
        rintro e2 c2 fr2 σ2 ⟨rfl, rfl, rfl, rfl⟩
        simp only [blockK, hj]; exact ⟨rfl, rfl, rfl, rfl⟩
    · rename_i hne
      obtain ⟨a1, a2⟩ := hx _ _ _ _ _ _ _ _ _ h
      refine ⟨.block (a1.mono ?_), a2⟩
      rintro e2 c2 fr2 σ2 ⟨rfl, rfl, rfl, rfl⟩
      cases e2 with
      | normal => exact ⟨rfl, rfl, rfl, rfl⟩
      | exit j => exact absurd h (hne _ _ _ _ _)
      | ret => exact ⟨rfl, rfl, rfl, rfl⟩
  | loop x hx => intro c fr σ ws e c' fr' σ' ws' h; exact loopI_sound hx m _ _ _ _ _ _ _ _ _ h
  | exit i => intro c fr σ ws e c' fr' σ' ws' h; unfold runI at h; cases h; exact ⟨.exit ⟨rfl, rfl, rfl, rfl⟩, .refl _ _⟩
  | ret => intro c fr σ ws e c' fr' σ' ws' h; unfold runI at h; cases h; exact ⟨.ret ⟨rfl, rfl, rfl, rfl⟩, .refl _ _⟩
  | _ => intro c fr σ ws e c' fr' σ' ws' h; unfold runI at h; cases h
end
end
end Go.AS
