/- A program's functions as one function, with fuel; and why the program does what it says. -/
import Derived.Test.YtnenknghinpliaaGreatDoorASy
namespace Go.AS
noncomputable section

/-- A program as the walk knows it. -/
structure PX where
  P : Program
  gl : Nat → Option AV
  ext : FuncId → Option (Id → Nat → List AV → Hp → Option Res)
  own : FuncId → Nat → Bool
  m : Nat
abbrev CallS := FuncId → List AV → Nat → Hp → List Nat → CallR
def notIn (M : List Mv) : List Nat → List Nat
  | [] => []
  | l :: r => match hasN (M.map (·.l')) l with
    | true => notIn M r
    | false => l :: notIn M r
/-- What a call hands back that saw a part of the memory under names of its own. -/
def retF (fc : List Nat) (p : Id) (M : List Mv) (x : AV) (σ' : Hp) (ws : List Nat) : Option Res :=
  let A := outM fc σ' p M 0
  let D := outNew σ' p (notIn M (reach σ' 100000 (labsA x ++ M.map (·.l')) [])) M.length
  match chkM (A ++ D) with
  | true => match outU σ' (A ++ D) (fun l => !hasN ws l) A, outU σ' (A ++ D) (fun _ => false) D, x.cv (A ++ D) with
    | some u1, some u2, some y => some ⟨y, u1 ++ u2, true⟩
    | _, _, _ => none
  | false => none
def canF (s : List AV → Nat → Hp → List Nat → CallR) (p : Id) (xs : List AV) (σ : Hp) : Option Res :=
  let M := inM σ (reach σ 100000 (labsAs xs) []) 0
  match chkM M with
  | true => match cvH σ M M, AV.cvs M xs with
    | some σc, some ys => match s ys 1 σc [] with
      | some (x, _, σ', ws) => retF [] p M x σ' ws
      | none => none
    | _, _ => none
  | false => none
def cx (X : PX) (f : FuncId) (s : CallS) : Cx :=
  { P := X.P, B := tiOf X.P, gl := X.gl, ct := fun g => some (.det fun p _ xs σ => canF (s g) p xs σ), own := X.own f, lab := fun p _ => enc p }
def bodyI (X : PX) (f : FuncId) (s : CallS) (fn : Func) (code : Code) (xs : List AV) (c : Nat) (σ : Hp) (ws : List Nat) : CallR :=
  match Nat.ble xs.length fn.ntmps with
  | true => match runI (cx X f s) fn.ntmps s X.m code c (mkFr 0 xs) σ ws with
    | some (e, c', fr', σ', ws') => match e with
      | .exit _ => none
      | _ => match resE (cx X f s) fn fr' σ' with
        | some x => some (x, c', σ', ws')
        | none => none
    | none => none
  | false => none
def extI (g : Id → Nat → List AV → Hp → Option Res) (xs : List AV) (c : Nat) (σ : Hp) (ws : List Nat) : CallR :=
  obind (g [c] 0 xs σ) fun q => bsel q.ok (some (q.x, c + 1, σ.app q.upd, addL q.upd ws)) none
def S (X : PX) : Nat → CallS
  | 0, _, _, _, _, _ => none
  | n + 1, f, xs, c, σ, ws => match X.ext f with
    | some g => extI g xs c σ ws
    | none => match X.P.funcs[f]? with
      | some fn => match fn.body with
        | some code => match fn.name == "runtime.NumGoroutine" with
          | true => none
          | false => bodyI X f (S X n) fn code xs c σ ws
        | none => none
      | none => none

structure PX.Sound (X : PX) : Prop where
  mix : X.P.follows .mixedOrders = true
  gl : ∀ g x, X.gl g = some x → ∀ M, x.cv M = some x
  ext : ∀ f g, X.ext f = some g → CtOk (cx X f fun _ _ _ _ _ => none) f (.det g)

theorem retF_some {fc : List Nat} {p : Id} {M : List Mv} {x : AV} {σ' : Hp} {ws : List Nat} {r : Res} (h : retF fc p M x σ' ws = some r) :
    ∃ news u1 u2, chkM (outM fc σ' p M 0 ++ outNew σ' p news M.length) = true ∧ outU σ' (outM fc σ' p M 0 ++ outNew σ' p news M.length) (fun l => !hasN ws l) (outM fc σ' p M 0) = some u1 ∧
      outU σ' (outM fc σ' p M 0 ++ outNew σ' p news M.length) (fun _ => false) (outNew σ' p news M.length) = some u2 ∧ x.cv (outM fc σ' p M 0 ++ outNew σ' p news M.length) = some r.x ∧ r.upd = u1 ++ u2 := by
  unfold retF at h
  simp only at h
  split at h
  · rename_i hk
    split at h
    · rename_i u1 u2 y h1 h2 h3; cases h
      exact ⟨_, u1, u2, hk, h1, h2, h3, rfl⟩
    · cases h
  · cases h
theorem canF_ok {C : Cx} (hgl : ∀ g x, C.gl g = some x → ∀ M, x.cv M = some x) {f : FuncId} {s : List AV → Nat → Hp → List Nat → CallR} (hs : OkI C.P C.gl f s) : CtOk C f (.det fun p _ xs σ => canF s p xs σ) := by
  intro p d xs σ K hk E w vals hg hh hp hv
  simp only [Ct.asks] at hk
  split at hk
  · rename_i r hr
    obtain ⟨hok, hK⟩ := hk
    unfold canF at hr
    generalize hls : reach σ 100000 (labsAs xs) [] = ls at hr
    simp only at hr
    split at hr
    · rename_i hchk
      have hsd := chkM_sound hchk
      split at hr
      · rename_i σc ys hσc hys
        split at hr
        · rename_i x c' σ' ws hrun
          obtain ⟨hgr, hdo⟩ := hs _ _ _ _ _ _ _ _ hrun
          have hmv := in_moves (E := E) hsd
          have hvc : RR (EnvIn E (inM σ ls 0)) .vs ys vals := hv.cv hmv hys
          have := hdo (EnvIn E (inM σ ls 0)) w vals (fun g x hx => GV.cv hmv (hg g x hx) (hgl g x hx _)) (in_holds hh hsd hσc) (fun k hk => in_fresh hk) hvc
          refine Does.imp this ?_
          rintro v w' ⟨E1, k1, k2, k3, _⟩
          obtain ⟨news, u1, u2, q2, q3, q4, q5, q6⟩ := retF_some hr
          obtain ⟨r1, r2, r3, r4⟩ := call_frame hh hp hsd hσc k2 k3 (fun l hl => (hgr.same l hl).2) (fun l hl => by cases hl) (chkM_sound q2) q3 q4 fun mm hm => by
            obtain ⟨e0, he0⟩ := cvH_get hσc hm
            exact hgr.keep _ _ he0
          exact ⟨_, r.x, r.upd, hK, k1.cv r4 q5, by rw [q6]; exact r1, by rw [q6]; exact r2, r3⟩
        · cases hr
      · cases hr
    · cases hr
  · exact hk.elim
theorem bodyI_ok {X : PX} {f : FuncId} {s : CallS} (hC : (cx X f s).Sound) (hcall : ∀ g, OkI X.P X.gl g (s g)) {fn : Func} {code : Code} (hf : X.P.funcs[f]? = some fn) (hb : fn.body = some code) (hn : (fn.name == "runtime.NumGoroutine") = false) :
    OkI X.P X.gl f (bodyI X f s fn code) := by
  haveI := hC.tb
  intro xs c σ ws x c' σ' ws' h
  unfold bodyI at h
  split at h
  · rename_i hle
    have hle : xs.length ≤ fn.ntmps := by simpa using hle
    split at h
    · rename_i e c1 fr1 σ1 ws1 hrun
      obtain ⟨hax, hgr⟩ := runI_sound hC hcall X.m code _ _ _ _ _ _ _ _ _ hrun
      have main : (∀ i, e ≠ .exit i) → resE (cx X f s) fn fr1 σ1 = some x → c' = c1 → σ' = σ1 → ws' = ws1 → Grows σ ws σ' ws' ∧ ∀ E w vals, (∀ g x, X.gl g = some x → GV E x g) → Holds E σ w → (∀ k, c ≤ k → Fresh E [k]) → RR E .vs xs vals →
          Does X.P f vals.toArray w fun v w' => ∃ E', VR E' x v ∧ Holds E' σ' w' ∧ Adv E σ w E' σ' w' ∧ ∀ k, c' ≤ k → Fresh E' [k] := by
        rintro hne hres rfl rfl rfl
        refine ⟨hgr, fun E w vals hg hh hfr hv => .inl ⟨?_, ?_⟩⟩
        · have h0 : (program).run X.P w = .ok X.P w := rfl
          simp only [callFunc, Sem.run_bind, h0, Result.andThen_ok, hf, hn, hb, Option.isNone, Bool.false_eq_true, if_false, Sem.run_pure]
        · refine calls_of_wp hf hb ?_
          have hlen2 : vals.length = xs.length := hv.vs_length
          have hst : St (cx X f s) fn.ntmps [] c (mkFr 0 xs) σ E w { tmps := vals.toArray ++ Array.replicate (fn.ntmps - vals.toArray.size) undef, defers := [] } := by
            refine ⟨hg, ⟨by simp; omega, rfl, fun t x ht => ?_⟩, hh, hfr⟩
            obtain ⟨j, rfl, hj⟩ := mkFr_get xs 0 t x ht
            obtain ⟨v, h1, h2⟩ := hv.vs_get j x hj
            refine ⟨v, ?_, h2⟩
            have : j < vals.length := by rw [List.getElem?_eq_some_iff] at h1; exact h1.1
            simp only [Nat.zero_add]
            rw [Array.getElem?_append_left (by simpa using this)]
            simpa using h1
          refine wp_mono (hax _ _ _ hst) ?_
          rintro ex a' w' ⟨e2, c2, fr2, σ2, E1, ⟨rfl, rfl, rfl, rfl⟩, h2, h3, h4, h5⟩
          have fin : a'.defers = [] ∧ ∃ v, (results fn a'.tmps).run X.P w' = .ok v w' ∧ ∃ u, Ending.returned v = .returned u ∧ ∃ E', VR E' x u ∧ Holds E' σ2 w' ∧ Adv E σ w E' σ2 w' ∧ ∀ k, c2 ≤ k → Fresh E' [k] := by
            obtain ⟨v, k1, k2⟩ := resE_sound h3 hres
            exact ⟨h3.fr.defers, v, k1, v, rfl, E1, k2, h3.holds, h4, h3.fresh⟩
          cases e2 with
          | normal => subst h2; exact fin
          | ret => subst h2; exact fin
          | exit i => exact absurd rfl (hne i)
      split at h
      · cases h
      · rename_i hne
        split at h
        · rename_i y hres; cases h
          exact main (fun i hi => hne i hi) hres rfl rfl rfl
        · cases h
    · cases h
  · cases h
theorem extI_ok {X : PX} (hX : X.Sound) {f : FuncId} {g : Id → Nat → List AV → Hp → Option Res} (hg : X.ext f = some g) : OkI X.P X.gl f (extI g) := by
  intro xs c σ ws x c' σ' ws' h
  obtain ⟨q, hq, h⟩ := obind_eq h
  obtain ⟨hok, h⟩ := bsel_some h
  cases h
  refine ⟨.app _ _ _, fun E w vals hgl hh hfr hv => ?_⟩
  have := hX.ext f g hg [c] 0 xs σ (fun x upd => x = q.x ∧ upd = q.upd) (by simp only [Ct.asks, hq]; exact ⟨hok, by simp⟩) E w vals hgl hh (hfr c (Nat.le_refl _)) hv
  refine Does.imp this ?_
  rintro v w' ⟨E', x, upd, ⟨rfl, rfl⟩, h1, h2, h3, h4⟩
  exact ⟨E', h1, h2, h3, fun k hk => (hfr k (by omega)).other h4 (by omega)⟩
theorem none_ok (P : Program) (gl : Nat → Option AV) (f : FuncId) : OkI P gl f fun _ _ _ _ => none := fun _ _ _ _ _ _ _ _ h => by cases h
theorem S_ok {X : PX} (hX : X.Sound) : ∀ (n : Nat) (f : FuncId), OkI X.P X.gl f (S X n f)
  | 0, f => none_ok _ _ _
  | n + 1, f => by
    have ih := S_ok hX n
    intro xs c σ ws x c' σ' ws' h
    unfold S at h
    split at h
    · rename_i g hg
      exact extI_ok hX hg _ _ _ _ _ _ _ _ h
    · split at h
      · rename_i fn hfn
        split at h
        · rename_i code hcode
          split at h
          · cases h
          · rename_i hname
            have hC : (cx X f (S X n)).Sound := ⟨TbOk.self X.P, hX.mix, fun g ct hct => by cases hct; exact canF_ok (C := cx X f (S X n)) hX.gl (ih g)⟩
            exact bodyI_ok hC ih hfn hcode hname _ _ _ _ _ _ _ _ h
        · cases h
      · cases h
/-- A call from a world of which nothing is known but what nobody writes. -/
theorem S_calls {X : PX} (hX : X.Sound) {n : Nat} {f : FuncId} {fn : Func} {code : Code} (hf : X.P.funcs[f]? = some fn) (hb : fn.body = some code) (hn : (fn.name == "runtime.NumGoroutine") = false) {xs : List AV} {x : AV} {c' : Nat} {σ' : Hp} {ws' : List Nat}
    (h : S X n f xs 1 .nil [] = some (x, c', σ', ws')) {m : Nat → Option Obj} {w : World} (hm : ∀ b o, m b = some o → w.heap[b]? = some o) (hg : ∀ g x, X.gl g = some x → GV ⟨fun _ => none, m⟩ x g) {vals : List Value}
    (hv : RR ⟨fun _ => none, m⟩ .vs xs vals) : Calls X.P f vals.toArray w fun e w' => ∃ v E', e = .returned v ∧ VR E' x v ∧ (∀ b o, m b = some o → E'.m b = some o) ∧ w'.os = w.os ∧ w'.tape = w.tape ∧ w'.output = w.output ∧ w.heap.size ≤ w'.heap.size ∧
      ∀ b, b < w.heap.size → w'.heap[b]? = w.heap[b]? := by
  have := (S_ok hX n f _ _ _ _ _ _ _ _ h).2 ⟨fun _ => none, m⟩ w vals hg ⟨hm, fun l e he => (by rw [aget_nil] at he; cases he), fun b hb => (no_own hb).elim, fun l l' e e' L L' b h1 => (by rw [aget_nil] at h1; cases h1)⟩ (fun k _ i _ => rfl) hv
  rcases this with ⟨_, h2⟩ | ⟨v, w', h1, _⟩
  · refine h2.mono ?_
    rintro e w' ⟨v, rfl, E', k1, k2, k3, _⟩
    exact ⟨v, E', rfl, k1, k3.le.m, k3.os, k3.tape, k3.output, k3.size, fun b hb => k3.kept b hb no_own⟩
  · have h0 : (program).run X.P w = .ok X.P w := rfl
    simp only [callFunc, Sem.run_bind, h0, Result.andThen_ok, hf, hn, hb, Option.isNone, Bool.false_eq_true, if_false, Sem.run_pure] at h1
    cases h1
end
end Go.AS
