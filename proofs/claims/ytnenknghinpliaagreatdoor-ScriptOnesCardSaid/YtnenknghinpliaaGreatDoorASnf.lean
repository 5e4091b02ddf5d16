/- A function whose way is not one, as a function: where all that it may leave is the same. -/
import Derived.Test.YtnenknghinpliaaGreatDoorASnd
import Derived.Test.YtnenknghinpliaaGreatDoorASeq
namespace Go.AS
noncomputable section

abbrev OutF := AV × Hp × List Nat
def endN (C : Cx) (fn : Func) : List Out → Option (List OutF)
  | [] => some []
  | (e, _, fr, σ, ws) :: r => match e with
    | .exit _ => none
    | _ => match resE C fn fr σ with
      | some x => match endN C fn r with
        | some l => some ((x, σ, ws) :: l)
        | none => none
      | none => none
theorem endN_mem {C : Cx} {fn : Func} : ∀ {outs : List Out} {l : List OutF}, endN C fn outs = some l → ∀ e c fr σ ws, (e, c, fr, σ, ws) ∈ outs → (∀ i, e ≠ .exit i) ∧ ∃ x, resE C fn fr σ = some x ∧ (x, σ, ws) ∈ l
  | [], l, h, e, c, fr, σ, ws, hm => by cases hm
  | (e0, c0, fr0, σ0, ws0) :: r, l, h, e, c, fr, σ, ws, hm => by
    unfold endN at h
    split at h
    · cases h
    · rename_i hne
      split at h
      · rename_i x hx
        split at h
        · rename_i l' hl'; cases h
          rcases List.mem_cons.1 hm with heq | hm
          · cases heq
            exact ⟨fun i hi => hne i hi, x, hx, List.mem_cons_self ..⟩
          · obtain ⟨k1, y, k2, k3⟩ := endN_mem hl' e c fr σ ws hm
            exact ⟨k1, y, k2, List.mem_cons_of_mem _ k3⟩
        · cases h
      · cases h
theorem endN_from {C : Cx} {fn : Func} : ∀ {outs : List Out} {l : List OutF}, endN C fn outs = some l → ∀ q ∈ l, ∃ o ∈ outs, q.2.1 = o.2.2.2.1 ∧ q.2.2 = o.2.2.2.2
  | [], l, h, q, hq => by cases h; cases hq
  | (e0, c0, fr0, σ0, ws0) :: r, l, h, q, hq => by
    unfold endN at h
    split at h
    · cases h
    · split at h
      · split at h
        · rename_i l' hl'; cases h
          rcases List.mem_cons.1 hq with rfl | hq
          · exact ⟨_, List.mem_cons_self .., rfl, rfl⟩
          · obtain ⟨o, k1, k2⟩ := endN_from hl' q hq; exact ⟨o, List.mem_cons_of_mem _ k1, k2⟩
        · cases h
      · cases h
def bodyN (X : PX) (f : FuncId) (s : CallS) (nd : NdT) (fn : Func) (code : Code) (xs : List AV) (σ : Hp) : Option (List OutF) :=
  match Nat.ble xs.length fn.ntmps with
  | true => match runN (cx X f s) fn.ntmps nd X.m code 1 (mkFr 0 xs) σ [] with
    | some outs => endN (cx X f s) fn outs
    | none => none
  | false => none
theorem bodyN_ok {X : PX} {f : FuncId} {s : CallS} {nd : NdT} (hC : (cx X f s).Sound) (hnd : ∀ g h, nd g = some h → NdOk (cx X f s) g h) {fn : Func} {code : Code} (hf : X.P.funcs[f]? = some fn) (hb : fn.body = some code) (hn : (fn.name == "runtime.NumGoroutine") = false)
    {xs : List AV} {σ : Hp} {l : List OutF} (h : bodyN X f s nd fn code xs σ = some l) : (∀ q ∈ l, Grows σ [] q.2.1 q.2.2) ∧ ∀ E w vals, (∀ g x, X.gl g = some x → GV E x g) → Holds E σ w → (∀ k, 1 ≤ k → Fresh E [k]) → RR E .vs xs vals →
      Does X.P f vals.toArray w fun v w' => ∃ q ∈ l, ∃ E', VR E' q.1 v ∧ Holds E' q.2.1 w' ∧ Adv E σ w E' q.2.1 w' := by
  haveI := hC.tb
  unfold bodyN at h
  split at h
  · rename_i hle
    have hle : xs.length ≤ fn.ntmps := by simpa using hle
    split at h
    · rename_i outs hrun
      obtain ⟨hax, hgr⟩ := runN_sound hC hnd X.m code _ _ _ _ _ hrun
      refine ⟨fun q hq => ?_, fun E w vals hg hh hfr hv => .inl ⟨?_, ?_⟩⟩
      · obtain ⟨o, k1, k2, k3⟩ := endN_from h q hq
        have := hgr o k1
        rw [k2, k3]; exact this
      · have h0 : (program).run X.P w = .ok X.P w := rfl
        simp only [callFunc, Sem.run_bind, h0, Result.andThen_ok, hf, hn, hb, Option.isNone, Bool.false_eq_true, if_false, Sem.run_pure]
      · refine calls_of_wp hf hb ?_
        have hlen2 : vals.length = xs.length := hv.vs_length
        have hst : St (cx X f s) fn.ntmps [] 1 (mkFr 0 xs) σ E w { tmps := vals.toArray ++ Array.replicate (fn.ntmps - vals.toArray.size) undef, defers := [] } := by
          refine ⟨hg, ⟨by simp; omega, rfl, fun t x ht => ?_⟩, hh, hfr⟩
          obtain ⟨j, rfl, hj⟩ := mkFr_get xs 0 t x ht
          obtain ⟨v, h1, h2⟩ := hv.vs_get j x hj
          refine ⟨v, ?_, h2⟩
          have : j < vals.length := by rw [List.getElem?_eq_some_iff] at h1; exact h1.1
          simp only [Nat.zero_add]
          rw [Array.getElem?_append_left (by simpa using this)]
          simpa using h1
        refine wp_mono (hax _ _ _ hst) ?_
        rintro ex a' w' ⟨e2, c2, fr2, σ2, E1, ⟨ws2, hm⟩, h2, h3, h4, h5⟩
        obtain ⟨hne, x, hx, hmem⟩ := endN_mem h _ _ _ _ _ hm
        have fin : a'.defers = [] ∧ ∃ v, (results fn a'.tmps).run X.P w' = .ok v w' ∧ ∃ u, Ending.returned v = .returned u ∧ ∃ q ∈ l, ∃ E', VR E' q.1 u ∧ Holds E' q.2.1 w' ∧ Adv E σ w E' q.2.1 w' := by
          obtain ⟨v, k1, k2⟩ := resE_sound h3 hx
          exact ⟨h3.fr.defers, v, k1, v, rfl, _, hmem, E1, k2, h3.holds, h4⟩
        cases e2 with
        | normal => subst h2; exact fin
        | ret => subst h2; exact fin
        | exit i => exact absurd rfl (hne i)
    · cases h
  · cases h
/-- All that it may leave, told as its caller sees it, is the same. -/
def sameR (p : Id) (M : List Mv) (r : Res) : List OutF → Bool
  | [] => true
  | q :: l => match retF [] p M q.1 q.2.1 q.2.2 with
    | some r' => resEq r' r && sameR p M r l
    | none => false
theorem sameR_mem {p : Id} {M : List Mv} {r : Res} : ∀ {l : List OutF}, sameR p M r l = true → ∀ q ∈ l, retF [] p M q.1 q.2.1 q.2.2 = some r
  | [], _, q, hq => by cases hq
  | a :: l, h, q, hq => by
    unfold sameR at h
    split at h
    · rename_i r' hr'
      rw [Bool.and_eq_true] at h
      rcases List.mem_cons.1 hq with rfl | hq
      · rw [hr', resEq_sound h.1]
      · exact sameR_mem h.2 q hq
    · cases h
def ndF (b : List AV → Hp → Option (List OutF)) (p : Id) (xs : List AV) (σ : Hp) : Option Res :=
  let M := inM σ (reach σ 100000 (labsAs xs) []) 0
  match chkM M with
  | true => match cvH σ M M, AV.cvs M xs with
    | some σc, some ys => match b ys σc with
      | some l => match l with
        | q :: l' => match retF [] p M q.1 q.2.1 q.2.2 with
          | some r => match sameR p M r l' with
            | true => some r
            | false => none
          | none => none
        | [] => none
      | none => none
    | _, _ => none
  | false => none
theorem ndF_ok {X : PX} {C : Cx} (hCP : C.P = X.P) (hCg : C.gl = X.gl) (hgl : ∀ g x, C.gl g = some x → ∀ M, x.cv M = some x) {f : FuncId} {s : CallS} {nd : NdT} (hC : (cx X f s).Sound) (hnd : ∀ g h, nd g = some h → NdOk (cx X f s) g h) {fn : Func} {code : Code} (hf : X.P.funcs[f]? = some fn) (hb : fn.body = some code)
    (hn : (fn.name == "runtime.NumGoroutine") = false) : CtOk C f (.det fun p _ xs σ => ndF (bodyN X f s nd fn code) p xs σ) := by
  intro p d xs σ K hk E w vals hg hh hp hv
  simp only [Ct.asks] at hk
  split at hk
  · rename_i r hr
    obtain ⟨hok, hK⟩ := hk
    unfold ndF at hr
    generalize hls : reach σ 100000 (labsAs xs) [] = ls at hr
    simp only at hr
    split at hr
    · rename_i hchk
      have hsd := chkM_sound hchk
      split at hr
      · rename_i σc ys hσc hys
        split at hr
        · rename_i l hl
          split at hr
          · rename_i q0 l'
            split at hr
            · rename_i r0 hr0
              split at hr
              · rename_i hsame; cases hr
                obtain ⟨hgr, hdo⟩ := bodyN_ok hC hnd hf hb hn hl
                have hall : ∀ q ∈ q0 :: l', retF [] p (inM σ ls 0) q.1 q.2.1 q.2.2 = some r := fun q hq => by
                  rcases List.mem_cons.1 hq with rfl | hq
                  · exact hr0
                  · exact sameR_mem hsame q hq
                have hmv := in_moves (E := E) hsd
                have hvc : RR (EnvIn E (inM σ ls 0)) .vs ys vals := hv.cv hmv hys
                have := hdo (EnvIn E (inM σ ls 0)) w vals (fun g x hx => GV.cv hmv (hg g x (by rw [hCg]; exact hx)) (hgl g x (by rw [hCg]; exact hx) _)) (in_holds hh hsd hσc) (fun k hk => in_fresh hk) hvc
                rw [← hCP] at this
                refine Does.imp this ?_
                rintro v w' ⟨q, hq, E1, k1, k2, k3⟩
                obtain ⟨news, u1, u2, q2, q3, q4, q5, q6⟩ := retF_some (hall q hq)
                obtain ⟨r1, r2, r3, r4⟩ := call_frame hh hp hsd hσc k2 k3 (fun l hl => ((hgr q hq).same l hl).2) (fun l hl => by cases hl) (chkM_sound q2) q3 q4 fun mm hm => by
                  obtain ⟨e0, he0⟩ := cvH_get hσc hm
                  exact (hgr q hq).keep _ _ he0
                exact ⟨_, r.x, r.upd, hK, k1.cv r4 q5, by rw [q6]; exact r1, by rw [q6]; exact r2, r3⟩
              · cases hr
            · cases hr
          · cases hr
        · cases hr
      · cases hr
    · cases hr
  · exact hk.elim
end
end Go.AS
