/- Functions that hold ranges over functions; contracts of several outcomes out of bodies. -/
import Derived.Test.YtnenknghinpliaaGreatDoorASri
namespace Go.AS
noncomputable section

theorem PX.Sound.walks {X : PX} (hX : X.Sound) (n : Nat) (f : FuncId) : (cx X f (S X n)).Sound :=
  ⟨TbOk.self X.P, hX.mix, fun g ct hct => by cases hct; exact canF_ok (C := cx X f (S X n)) hX.gl (S_ok hX n g)⟩
/-- What a body leaves, told as lists of outcomes. -/
def BodOk (X : PX) (f : FuncId) (b : List AV → Hp → Option (List OutF)) : Prop :=
  ∀ xs σ l, b xs σ = some l → (∀ q ∈ l, Grows σ [] q.2.1 q.2.2) ∧ ∀ E w vals, (∀ g x, X.gl g = some x → GV E x g) → Holds E σ w → (∀ k, 1 ≤ k → Fresh E [k]) → RR E .vs xs vals →
    Does X.P f vals.toArray w fun v w' => ∃ q ∈ l, ∃ E', VR E' q.1 v ∧ Holds E' q.2.1 w' ∧ Adv E σ w E' q.2.1 w'
theorem bodyN_bod {X : PX} {f : FuncId} {s : CallS} {nd : NdT} (hC : (cx X f s).Sound) (hnd : ∀ g h, nd g = some h → NdOk (cx X f s) g h) {fn : Func} {code : Code} (hf : X.P.funcs[f]? = some fn) (hb : fn.body = some code)
    (hn : (fn.name == "runtime.NumGoroutine") = false) : BodOk X f (bodyN X f s nd fn code) := fun _ _ _ h => bodyN_ok hC hnd hf hb hn h
theorem Spent.adv {E E' : Env} {σ σ' : Hp} {w w1 w2 : World} (h : Spent w.heap.size w1 w2) (ha : Adv E σ w E' σ' w1) : Adv E σ w E' σ' w2 :=
  ⟨ha.le, h.os.trans ha.os, h.tape.trans ha.tape, h.output.trans ha.output, by rw [h.size]; exact ha.size, fun b hb ho => (h.kept b hb).trans (ha.kept b hb ho), ha.ownNew, ha.mNew⟩
/-- A function that holds ranges over functions. -/
def bodyR (X : PX) (f : FuncId) (s : CallS) (fn : Func) (code : Code) (xs : List AV) (σ : Hp) : Option (List OutF) :=
  match Nat.ble xs.length fn.ntmps with
  | true => match runF (cx X f s) fn.ntmps [] noRd (rangeF X f s fn.ntmps X.m) X.m code 1 (mkFr 0 xs) σ [] with
    | some outs => endN (cx X f s) fn outs
    | none => none
  | false => none
theorem bodyR_bod {X : PX} {f : FuncId} {s : CallS} (hC : (cx X f s).Sound) {fn : Func} {code : Code} (hf : X.P.funcs[f]? = some fn) (hb : fn.body = some code) (hn : (fn.name == "runtime.NumGoroutine") = false) : BodOk X f (bodyR X f s fn code) := by
  haveI := hC.tb
  intro xs σ l h
  unfold bodyR at h
  split at h
  · rename_i hle
    have hle : xs.length ≤ fn.ntmps := by simpa using hle
    split at h
    · rename_i outs hrun
      have hk : Keeps fun _ _ _ => True := ⟨fun h _ => h⟩
      have hg : ∀ B, GoodF Fence.wide 0 (fun _ _ _ => True) (cx X f s) fn.ntmps B code (runF (cx X f s) fn.ntmps [] noRd (rangeF X f s fn.ntmps X.m) X.m code) := fun B => runF_sound hk (fun _ => trivial) rfl (.inl rfl) (noRd_ok _ _ _ _) (rangeF_ok hC 0) X.m code
      refine ⟨fun q hq => ?_, fun E w vals hgl hh hfr hv => .inl ⟨?_, ?_⟩⟩
      · obtain ⟨o, k1, k2, k3⟩ := endN_from h q hq
        have := (hg 0 _ _ _ _ _ hrun).1 o k1
        rw [k2, k3]; exact this
      · have h0 : (program).run X.P w = .ok X.P w := rfl
        simp only [callFunc, Sem.run_bind, h0, Result.andThen_ok, hf, hn, hb, Option.isNone, Bool.false_eq_true, if_false, Sem.run_pure]
      · refine callsIn_wide (n := 0).1 (callsIn_of_wp_marks hf hb trivial ?_)
        have hst : StF (cx X f s) fn.ntmps w.heap.size 1 (mkFr 0 xs) σ E w { tmps := vals.toArray ++ Array.replicate (fn.ntmps - vals.toArray.size) undef, defers := [] } :=
          ⟨⟨hgl, mkFr_FR hv hle, hh, hfr⟩, .nil _ _ (Nat.le_refl _)⟩
        refine wpIn_mono ((hg _ _ _ _ _ _ hrun).2 E w _ trivial hst) ?_
        rintro e a2 w2 ⟨e', c2, fr2, σ2, ws2, E2, hm, rfl, hs2, ha2⟩
        obtain ⟨hne, x, hx, hmem⟩ := endN_mem h _ _ _ _ _ hm
        have fin : LeavesInM Fence.wide 0 X.P fn a2.tmps (fun e w' => ∃ v, e = .returned v ∧ ∃ q ∈ l, ∃ E', VR E' q.1 v ∧ Holds E' q.2.1 w' ∧ Adv E σ w E' q.2.1 w') a2.defers .returning w2 :=
          leaves_ds (C := cx X f s) (B := w.heap.size) (w0 := w2) a2.defers hs2.st hs2.ds (.refl _ _) hx fun v w3 hv3 hh3 hsp => ⟨v, rfl, _, hmem, E2, hv3, hh3, hsp.adv ha2⟩
        cases e' with
        | normal => exact fin
        | ret => exact fin
        | exit i => exact absurd rfl (hne i)
    · cases h
  · cases h
/-- All that it may leave, told as its caller sees it. -/
def retL (p : Id) (M : List Mv) : List OutF → Option (List Res)
  | [] => some []
  | q :: l => match retF [] p M q.1 q.2.1 q.2.2 with
    | some r => match retL p M l with
      | some rs => some (r :: rs)
      | none => none
    | none => none
theorem retL_mem {p : Id} {M : List Mv} : ∀ {l : List OutF} {rs : List Res}, retL p M l = some rs → ∀ q ∈ l, ∃ r ∈ rs, retF [] p M q.1 q.2.1 q.2.2 = some r
  | [], _, _, q, hq => by cases hq
  | a :: l, rs, h, q, hq => by
    unfold retL at h
    split at h
    · rename_i r' hr'
      split at h
      · rename_i rs' hrs'; cases h
        rcases List.mem_cons.1 hq with rfl | hq
        · exact ⟨r', List.mem_cons_self .., hr'⟩
        · obtain ⟨r, k1, k2⟩ := retL_mem hrs' q hq; exact ⟨r, List.mem_cons_of_mem _ k1, k2⟩
      · cases h
    · cases h
/-- A body out of its caller's memory: every label and name is turned to its own. -/
theorem bod_frame {X : PX} {C : Cx} (hCP : C.P = X.P) (hCg : C.gl = X.gl) (hgl : ∀ g x, C.gl g = some x → ∀ M, x.cv M = some x) {f : FuncId} {b : List AV → Hp → Option (List OutF)} (hB : BodOk X f b) {xs : List AV} {σ : Hp} (hchk : chkM (inM σ (reach σ 100000 (labsAs xs) []) 0) = true)
    {σc : Hp} (hσc : cvH σ (inM σ (reach σ 100000 (labsAs xs) []) 0) (inM σ (reach σ 100000 (labsAs xs) []) 0) = some σc) {ys : List AV} (hys : AV.cvs (inM σ (reach σ 100000 (labsAs xs) []) 0) xs = some ys) {l : List OutF} (hl : b ys σc = some l) {p : Id} {R : Res → Prop}
    (hall : ∀ q ∈ l, ∃ r, R r ∧ retF [] p (inM σ (reach σ 100000 (labsAs xs) []) 0) q.1 q.2.1 q.2.2 = some r) {E : Env} {w : World} {vals : List Value} (hg : GL C E) (hh : Holds E σ w) (hp : Fresh E p) (hv : RR E .vs xs vals) :
    Does C.P f vals.toArray w (After E σ w p fun x upd => ∃ r, R r ∧ x = r.x ∧ upd = r.upd) := by
  generalize reach σ 100000 (labsAs xs) [] = ls at *
  have hsd := chkM_sound hchk
  obtain ⟨hgr, hdo⟩ := hB _ _ _ hl
  have hmv := in_moves (E := E) hsd
  have hvc : RR (EnvIn E (inM σ ls 0)) .vs ys vals := hv.cv hmv hys
  have := hdo (EnvIn E (inM σ ls 0)) w vals (fun g x hx => GV.cv hmv (hg g x (by rw [hCg]; exact hx)) (hgl g x (by rw [hCg]; exact hx) _)) (in_holds hh hsd hσc) (fun k hk => in_fresh hk) hvc
  rw [← hCP] at this
  refine Does.imp this ?_
  rintro v w' ⟨q, hq, E1, k1, k2, k3⟩
  obtain ⟨r, hR, hr⟩ := hall q hq
  obtain ⟨news, u1, u2, q2, q3, q4, q5, q6⟩ := retF_some hr
  obtain ⟨r1, r2, r3, r4⟩ := call_frame hh hp hsd hσc k2 k3 (fun l hl => ((hgr q hq).same l hl).2) (fun l hl => by cases hl) (chkM_sound q2) q3 q4 fun mm hm => by
    obtain ⟨e0, he0⟩ := cvH_get hσc hm
    exact (hgr q hq).keep _ _ he0
  exact ⟨_, r.x, r.upd, ⟨r, hR, rfl, rfl⟩, k1.cv r4 q5, by rw [q6]; exact r1, by rw [q6]; exact r2, r3⟩
def ndG (b : List AV → Hp → Option (List OutF)) (p : Id) (_ : Nat) (xs : List AV) (σ : Hp) : Option (List Res) :=
  let M := inM σ (reach σ 100000 (labsAs xs) []) 0
  match chkM M with
  | true => match cvH σ M M, AV.cvs M xs with
    | some σc, some ys => match b ys σc with
      | some l => match retL p M l with
        | some rs => bsel (rs.all fun r => r.ok) (some rs) none
        | none => none
      | none => none
    | _, _ => none
  | false => none
theorem ndG_ok {X : PX} {C : Cx} (hCP : C.P = X.P) (hCg : C.gl = X.gl) (hgl : ∀ g x, C.gl g = some x → ∀ M, x.cv M = some x) {f : FuncId} {b : List AV → Hp → Option (List OutF)} (hB : BodOk X f b) : NdOk C f (ndG b) := by
  intro p d xs σ rs hr E w vals hg hh hp hv
  unfold ndG at hr
  simp only at hr
  split at hr
  · rename_i hchk
    split at hr
    · rename_i σc ys hσc hys
      split at hr
      · rename_i l hl
        split at hr
        · rename_i rs' hrs
          obtain ⟨hok, hr⟩ := bsel_some hr
          cases hr
          refine Does.imp (bod_frame hCP hCg hgl hB hchk hσc hys hl (R := fun r => r ∈ rs ∧ r.ok = true) (fun q hq => ?_) hg hh hp hv) ?_
          · obtain ⟨r, k1, k2⟩ := retL_mem hrs q hq
            exact ⟨r, ⟨k1, List.all_eq_true.1 hok r k1⟩, k2⟩
          · rintro v w' ⟨E', x, upd, ⟨r, ⟨k1, k2⟩, k3, k4⟩, h⟩
            exact ⟨E', x, upd, ⟨r, k1, k2, k3, k4⟩, h⟩
        · cases hr
      · cases hr
    · cases hr
  · cases hr
theorem ndF_bod {X : PX} {C : Cx} (hCP : C.P = X.P) (hCg : C.gl = X.gl) (hgl : ∀ g x, C.gl g = some x → ∀ M, x.cv M = some x) {f : FuncId} {b : List AV → Hp → Option (List OutF)} (hB : BodOk X f b) : CtOk C f (.det fun p _ xs σ => ndF b p xs σ) := by
  intro p d xs σ K hk E w vals hg hh hp hv
  simp only [Ct.asks] at hk
  split at hk
  · rename_i r hr
    obtain ⟨hok, hK⟩ := hk
    unfold ndF at hr
    simp only at hr
    split at hr
    · rename_i hchk
      split at hr
      · rename_i σc ys hσc hys
        split at hr
        · rename_i l hl
          split at hr
          · rename_i q0 l'
            split at hr
            · rename_i r0 hr0
              split at hr
              · rename_i hsame; cases hr
                refine Does.imp (bod_frame hCP hCg hgl hB hchk hσc hys hl (R := fun r' => r' = r) (fun q hq => ?_) hg hh hp hv) ?_
                · rcases List.mem_cons.1 hq with rfl | hq
                  · exact ⟨r, rfl, hr0⟩
                  · exact ⟨r, rfl, sameR_mem hsame q hq⟩
                · rintro v w' ⟨E', x, upd, ⟨r', rfl, rfl, rfl⟩, h⟩
                  exact ⟨E', _, _, hK, h⟩
              · cases hr
            · cases hr
          · cases hr
        · cases hr
      · cases hr
    · cases hr
  · exact hk.elim
end
end Go.AS
