/- A range over a function: the statement; functions that hold one. -/
import Derived.Test.YtnenknghinpliaaGreatDoorASrh
namespace Go.AS
noncomputable section

theorem Holds.named {E : Env} {σ : Hp} {w : World} (hh : Holds E σ w) {i : Id} (h : E.ρ i = none) (L : Loc) : Holds (E.name i L) σ w ∧ ∀ b, Own (E.name i L) σ b → Own E σ b := by
  have hle : E.le (E.name i L) := Env.name_le h
  have key : ∀ l e L', aget σ l = some e → (E.name i L).ρ e.id = some L' → E.ρ e.id = some L' := fun l e L' he hL => by
    obtain ⟨L1, h1, _⟩ := hh.own l e he
    rw [hle.ρ _ _ h1] at hL; rw [h1]; exact hL
  have own : ∀ b, Own (E.name i L) σ b → Own E σ b := fun b hb => by
    obtain ⟨l, e, L', h1, h2, h3⟩ := hb
    exact ⟨l, e, L', h1, key l e L' h1 h2, h3⟩
  refine ⟨⟨hh.imm, fun l e he => ?_, fun b hb => hh.apart b (own b hb), fun l l' e e' L L' b h1 h2 h3 h4 => hh.inj l l' e e' L L' b h1 h2 (key _ _ _ h1 h3) (key _ _ _ h2 h4)⟩, own⟩
  obtain ⟨L1, h1, h2⟩ := hh.own l e he
  exact ⟨L1, hle.ρ _ _ h1, h2.keep hle fun _ _ => rfl⟩

theorem roundF_grows {C : Cx} [TbOk C.B C.P] {n k : Nat} {ps : Array Tmp} {x y : Code} {fr : Fr} {xs : List AV} {c : Nat} {σ : Hp} {ws : List Nat} {outs : List (Nat × Hp × List Nat)} (h : roundF C n k ps.toList x y fr xs c σ ws = some outs) : ∀ o ∈ outs, Grows σ ws o.2.1 o.2.2 := by
  unfold roundF at h
  split at h
  · rename_i fr1 hfr1
    split at h
    · rename_i o1 ho1
      split at h
      · rename_i l1 hl1
        obtain ⟨b1, b2⟩ := bindL_mem h
        obtain ⟨n1, n2⟩ := normals_mem hl1
        have hk : Keeps fun _ _ _ => True := ⟨fun h _ => h⟩
        have gx : ∀ z, GoodF (Fence.wide.inRound 0) 0 (fun _ _ _ => True) C n 0 z (runF C n [] noRd noRf k z) := fun z => runF_sound hk (fun _ => trivial) rfl (.inr fun _ _ _ _ => rfl) (noRd_ok _ _ _ _) (noRf_ok _ _ _ _ _ _) k z
        intro o ho
        obtain ⟨q, q1, z, q2, q3⟩ := b2 o ho
        have g1 := (gx x _ _ _ _ _ ho1).1 _ (n2 q q1)
        split at q2
        · rename_i o2 ho2
          split at q2
          · rename_i l2 hl2; cases q2
            obtain ⟨r, r1, rfl⟩ := List.mem_map.1 q3
            exact g1.trans ((gx y _ _ _ _ _ ho2).1 _ ((normals_mem hl2).2 r r1))
          · cases q2
        · cases q2
      · cases h
    · cases h
  · cases h

def rangeF (X : PX) (f : FuncId) (s : CallS) (n k : Nat) (g : Operand) (ps : Array Tmp) (x y : Code) (c : Nat) (fr : Fr) (σ : Hp) (ws : List Nat) : OutL :=
  match ev (cx X f s) fr g with
  | some fv => match fnView fv with
    | some (it, a, b) => match X.P.funcs[it]? with
      | some fn => match fn.body with
        | some code => match fn.name == "runtime.NumGoroutine" with
          | true => none
          | false => match Nat.ble (a ++ [AV.yld [c]] ++ b).length fn.ntmps with
            | true => match runF (cx X it s) fn.ntmps [c] (roundF (cx X f s) n k ps.toList x y fr) noRf k code (c + 1) (mkFr 0 (a ++ [AV.yld [c]] ++ b)) σ ws with
              | some outs => match endN (cx X it s) fn outs with
                | some _ => some (outs.map fun o => (.normal, o.2.1, fr, o.2.2.2.1, o.2.2.2.2))
                | none => none
              | none => none
            | false => none
        | none => none
      | none => none
    | none => none
  | none => none
theorem mkFr_FR {E : Env} {xs : List AV} {vals : List Value} {n : Nat} (hv : RR E .vs xs vals) (hle : xs.length ≤ n) : FR E n (mkFr 0 xs) ⟨vals.toArray ++ Array.replicate (n - vals.toArray.size) undef, []⟩ := by
  have hlen2 : vals.length = xs.length := hv.vs_length
  refine ⟨by simp; omega, rfl, fun t x ht => ?_⟩
  obtain ⟨j, rfl, hj⟩ := mkFr_get xs 0 t x ht
  obtain ⟨v, h1, h2⟩ := hv.vs_get j x hj
  refine ⟨v, ?_, h2⟩
  have : j < vals.length := by rw [List.getElem?_eq_some_iff] at h1; exact h1.1
  simp only [Nat.zero_add]
  rw [Array.getElem?_append_left (by simpa using this)]
  simpa using h1
theorem rangeF_ok {X : PX} {f : FuncId} {s : CallS} (hC : (cx X f s).Sound) {n B k : Nat} (m : Nat) (g : Operand) (ps : Array Tmp) (x y : Code) : GoodF Fence.wide m (fun _ _ _ => True) (cx X f s) n B (.rangeFunc g ps x y) (rangeF X f s n k g ps x y) := by
  haveI := hC.tb
  intro c fr σ ws outs h
  unfold rangeF at h
  split at h
  · rename_i fv hfv
    split at h
    · rename_i it a b hv
      split at h
      · rename_i fn hf
        split at h
        · rename_i code hb
          split at h
          · cases h
          · rename_i hn
            split at h
            · rename_i hle
              have hle : (a ++ [AV.yld [c]] ++ b).length ≤ fn.ntmps := by simpa using hle
              split at h
              · rename_i o1 ho1
                split at h
                · rename_i l1 hl1; cases h
                  refine ⟨fun o ho => ?_, fun E w act _ hs => ?_⟩
                  · obtain ⟨q, k1, rfl⟩ := List.mem_map.1 ho
                    haveI : TbOk (cx X it s).B (cx X it s).P := hC.tb
                    have hk : Keeps fun _ _ _ => False := ⟨fun h _ => h⟩
                    exact (runF_sound (F := Fence.wide) (m := 0) (B := 0) hk (fun _ => trivial) rfl (.inl rfl) (fun xs c σ ws outs h => ⟨roundF_grows h, fun E w vals hI => hI.elim⟩) (noRf_ok _ _ _ _ _ _) k code _ _ _ _ _ ho1).1 q k1
                  · refine wpIn_rangeFunc fun fn' hfn' => ?_
                    obtain ⟨a', b', hfe, ha', hb'⟩ := fnView_sound (ev_sound hs.st.gl hs.st.fr hfv) hv
                    rw [bare_eval] at hfe
                    have hnone : E.ρ [c] = none := hs.st.fresh c (Nat.le_refl _) _ (List.suffix_refl _)
                    let rec0 : Loop := { state := .ready, pending := none, fn := fn', tmps := act.tmps, params := ps, assign := x, body := y, defers := w.heap.size }
                    let w1 : World := (w.alloc (.deferred (some []))).alloc (.loop rec0)
                    let E1 : Env := E.name [c] (.at (w.heap.size + 1) 0 0 0)
                    have hE1 : E.le E1 := Env.name_le hnone
                    have hsz1 : w1.heap.size = w.heap.size + 2 := by simp [w1]
                    obtain ⟨hh1, hown1⟩ := ((hs.st.holds.laid (.deferred (some []))).laid (.loop rec0)).named hnone (.at (w.heap.size + 1) 0 0 0)
                    have hlt : ∀ bb, Own E σ bb → bb < w.heap.size := fun bb hbb => hs.st.holds.own_lt hbb
                    have hm1 : ∀ bb, w.heap.size ≤ bb → E.m bb = none := fun bb hbb => by
                      cases hm : E.m bb with
                      | none => rfl
                      | some o => have := hs.st.holds.m_lt hm; omega
                    have hold : ∀ bb, bb < w.heap.size → w1.heap[bb]? = w.heap[bb]? := fun bb hbb => by
                      show ((w.heap.push _).push _)[bb]? = _
                      rw [Array.getElem?_push_lt (by simp; omega), Array.getElem_push_lt hbb, Array.getElem?_eq_getElem hbb]
                    have hD : w1.heap[w.heap.size]? = some (.deferred (some [])) := by
                      show ((w.heap.push _).push _)[w.heap.size]? = _
                      rw [Array.getElem?_push_lt (by simp), Array.getElem_push_eq]
                    have hl : w1.heap[w.heap.size + 1]? = some (.loop rec0) := by
                      have := World.alloc_heap_new (w.alloc (.deferred (some []))) (.loop rec0)
                      rwa [World.size_alloc] at this
                    have hRI : RI [c] (w.heap.size + 1) w.heap.size rec0 E E1 σ w1 :=
                      ⟨⟨hl, fun ho => (by have := hlt _ (hown1 _ ho); omega), hm1 _ (by omega)⟩, ⟨hD, fun ho => (by have := hlt _ (hown1 _ ho); omega), hm1 _ (by omega)⟩, Env.name_self .., hE1⟩
                    have hvals : RR E1 .vs (a ++ [AV.yld [c]] ++ b) (a'.toList ++ [Value.func (.yield (w.heap.size + 1)) #[] #[]] ++ b'.toList) :=
                      ((ha'.mono hE1).vs_append (.vcons (.yld (Env.name_self ..)) .vnil)).vs_append (hb'.mono hE1)
                    have hst0 : St (cx X it s) fn.ntmps [] (c + 1) (mkFr 0 (a ++ [AV.yld [c]] ++ b)) σ E1 w1 ⟨(a'.toList ++ [Value.func (.yield (w.heap.size + 1)) #[] #[]] ++ b'.toList).toArray ++ Array.replicate (fn.ntmps - (a'.toList ++ [Value.func (.yield (w.heap.size + 1)) #[] #[]] ++ b'.toList).toArray.size) undef, []⟩ :=
                      ⟨hs.st.gl.mono hE1, mkFr_FR hvals hle, hh1, fun k hk => (hs.st.fresh k (by omega)).other (Env.name_newIn (p := [c])) (by omega)⟩
                    haveI : TbOk (cx X it s).B (cx X it s).P := hC.tb
                    refine ⟨w.heap.size + 1, [{ target := .collected w.heap.size, args := #[] }], w1, { target := .fn (.func it) b', args := a' ++ #[Value.func (.yield (w.heap.size + 1)) #[] #[]] }, w1, it, a' ++ #[Value.func (.yield (w.heap.size + 1)) #[] #[]] ++ b', w1, run_enterLoop_outer .., ?_, fun _ _ => trivial, ?_, fun h => (by cases h), ?_⟩
                    · show (Deferred.ofValue (act.eval g) _).run X.P w1 = _
                      rw [hfe]
                      simp [Deferred.ofValue, Act.eval]
                    · have h0 : (program).run X.P w1 = .ok X.P w1 := rfl
                      show (callFunc it _).run X.P w1 = _
                      simp only [callFunc, Sem.run_bind, h0, Result.andThen_ok, hf, hn, hb, Option.isNone, Bool.false_eq_true, if_false, Sem.run_pure]
                    · refine callsIn_of_wp_marks hf hb trivial ?_
                      have hround := round_ok (C := cx X f s) (n := n) (k := k) (yi := [c]) (l := w.heap.size + 1) (D := w.heap.size) (rec := rec0) (E0 := E) rfl rfl rfl rfl rfl (by omega) hs.st.fr (m - 1 - 1)
                      have hbody := (runF_sound (F := Fence.wide) (m := m - 1) (B := w1.heap.size) (C := cx X it s) (n := fn.ntmps) (RI.keeps [c] (w.heap.size + 1) w.heap.size rec0 E) (fun _ => trivial) rfl (.inl rfl) hround (noRf_ok _ _ _ _ _ _) k code _ _ _ _ _ ho1).2 E1 w1
                        { tmps := (a' ++ #[Value.func (.yield (w.heap.size + 1)) #[] #[]] ++ b') ++ Array.replicate (fn.ntmps - (a' ++ #[Value.func (.yield (w.heap.size + 1)) #[] #[]] ++ b').size) undef, defers := [] } hRI ⟨by
                          have e : (a'.toList ++ [Value.func (.yield (w.heap.size + 1)) #[] #[]] ++ b'.toList).toArray = a' ++ #[Value.func (.yield (w.heap.size + 1)) #[] #[]] ++ b' := by apply Array.ext'; simp
                          rw [e] at hst0; exact hst0, .nil _ _ (Nat.le_refl _)⟩
                      refine wpIn_mono hbody ?_
                      rintro e a2 w2 ⟨e', c2, fr2, σ2, ws2, E2, hm, rfl, hs2, ha2⟩
                      obtain ⟨hne, xr, hxr, _⟩ := endN_mem hl1 _ _ _ _ _ hm
                      have hRI2 := (RI.keeps [c] (w.heap.size + 1) w.heap.size rec0 E).adv hRI ha2
                      have fin : LeavesInM Fence.wide (m - 1) X.P fn a2.tmps (rangePost Fence.wide m X.P (w.heap.size + 1) (PostF (cx X f s) n B E σ w (o1.map fun o => (.normal, o.2.1, fr, o.2.2.2.1, o.2.2.2.2))) { act with defers := [{ target := .collected w.heap.size, args := #[] }] ++ act.defers }) a2.defers .returning w2 := by
                        refine leaves_ds (C := cx X it s) (B := w1.heap.size) (w0 := w2) a2.defers hs2.st hs2.ds (.refl _ _) hxr fun v w3 _ hh3 hsp => ?_
                        have hl3 : w3.heap[w.heap.size + 1]? = some (.loop rec0) := (hsp.kept _ (by omega)).trans hRI2.rl.here
                        have hlt3 : w.heap.size + 1 < w3.heap.size := (Array.getElem?_eq_some_iff.1 hl3).1
                        refine ⟨none, _, run_endLoop hl3 (by simp [rec0]), ?_⟩
                        have hal : Aside E2 σ2 w3 (w.heap.size + 1) (.loop rec0) := ⟨hl3, hRI2.rl.own, hRI2.rl.mem⟩
                        have hE2 : E.le E2 := hRI2.le
                        have kept4 : ∀ (o : Obj) bb, bb < w1.heap.size → bb ≠ w.heap.size + 1 → (w3.putObj (w.heap.size + 1) o).heap[bb]? = w2.heap[bb]? := fun o bb h1 h2 => (World.putObj_heap_other h2).trans (hsp.kept bb h1)
                        have hsz2 := ha2.size
                        refine ⟨.normal, c2, fr, σ2, ws2, E2, List.mem_map.2 ⟨_, hm, rfl⟩, rfl, ⟨⟨hs.st.gl.mono hE2, hs.st.fr.mono hE2, hh3.aside hal _, hs2.st.fresh⟩, ⟨fun d hd => ?_, ?_, ?_⟩⟩, ?_⟩
                        · rcases List.mem_append.1 hd with hd | hd
                          · obtain rfl := List.mem_singleton.1 hd
                            exact ⟨w.heap.size, rfl, ⟨(kept4 _ _ (by omega) (by omega)).trans hRI2.rd.here, hRI2.rd.own, hRI2.rd.mem⟩, hs.ds.le⟩
                          · obtain ⟨D', d1, d2, d3⟩ := hs.ds.all d hd
                            have hD' := d2.lt
                            have d4 : Aside E1 σ w1 D' (.deferred (some [])) := ⟨(hold _ hD').trans d2.here, fun ho => d2.own (hown1 _ ho), d2.mem⟩
                            have d5 := d4.adv ha2
                            exact ⟨D', d1, ⟨(kept4 _ _ (by omega) (by omega)).trans d5.here, d5.own, d5.mem⟩, d3⟩
                        · refine List.nodup_cons.2 ⟨fun hd => ?_, hs.ds.nodup⟩
                          obtain ⟨D', d1, d2, d3⟩ := hs.ds.all _ hd
                          have := d2.lt
                          simp only [Deferred.mk.injEq, Target.collected.injEq] at d1
                          omega
                        · rw [World.putObj_size]; have := hs.ds.le; omega
                        · refine ⟨hE2, ?_, ?_, ?_, by rw [World.putObj_size]; omega, fun bb hbb ho => ?_, fun bb hbb => ?_, fun bb hbb => ?_⟩
                          · show w3.os = w.os
                            rw [hsp.os, ha2.os]; rfl
                          · show w3.tape = w.tape
                            rw [hsp.tape, ha2.tape]; rfl
                          · show w3.output = w.output
                            rw [hsp.output, ha2.output]; rfl
                          · rw [kept4 _ _ (by omega) (by omega), ha2.kept bb (by omega) fun h => ho (hown1 _ h), hold _ hbb]
                          · rcases ha2.ownNew bb hbb with h1 | h1
                            · exact .inl (hown1 _ h1)
                            · exact .inr (by omega)
                          · rcases ha2.mNew bb hbb with h1 | h1 | h1
                            · exact .inl h1
                            · exact .inr (.inl (hown1 _ h1))
                            · exact .inr (.inr (by omega))
                      cases e' with
                      | normal => exact fin
                      | ret => exact fin
                      | exit i => exact absurd rfl (hne i)
                · cases h
              · cases h
            · cases h
        · cases h
      · cases h
    · cases h
  · cases h
end
end Go.AS
