/- A range over a function: rounds, the statement, a function's end. -/
import Derived.Test.YtnenknghinpliaaGreatDoorASrg
import Derived.RangeFuncLeaves
namespace Go.AS
noncomputable section

/-! A function's end: the marks are taken; nothing that is owned or known turns. -/
structure Spent (B : Nat) (w w' : World) : Prop where
  os : w'.os = w.os
  tape : w'.tape = w.tape
  output : w'.output = w.output
  size : w'.heap.size = w.heap.size
  kept : ∀ b, b < B → w'.heap[b]? = w.heap[b]?
theorem Spent.refl (B : Nat) (w : World) : Spent B w w := ⟨rfl, rfl, rfl, rfl, fun _ _ => rfl⟩
theorem leaves_ds {C : Cx} [TbOk C.B C.P] {n B : Nat} {fn : Func} {tmps : Array Value} {F : Fence} {m : Nat} {R : Ending → World → Prop} : ∀ (ds : List Deferred) {c : Nat} {fr : Fr} {σ : Hp} {E : Env} {w0 w : World} {x : AV}, St C n [] c fr σ E w ⟨tmps, []⟩ → DsOk B E σ w ds → Spent B w0 w →
    resE C fn fr σ = some x → (∀ v w', VR E x v → Holds E σ w' → Spent B w0 w' → R (.returned v) w') → LeavesInM F m C.P fn tmps R ds .returning w
  | [], c, fr, σ, E, w0, w, x, hs, _, hsp, hx, hR => by
    obtain ⟨v, k1, k2⟩ := resE_sound hs hx
    exact ⟨v, k1, hR v w k2 hs.holds hsp⟩
  | d :: ds, c, fr, σ, E, w0, w, x, hs, hd, hsp, hx, hR => by
    obtain ⟨D, rfl, hA, hB⟩ := hd.all d (List.mem_cons_self ..)
    have hnd := hd.nodup
    rw [List.nodup_cons] at hnd
    refine ⟨fun h => (by cases h), .inl ⟨D, _, rfl, run_takeDeferred hA.here, ?_⟩⟩
    refine leaves_ds ds (w0 := w0) (w := w.putObj D (.deferred none)) ⟨hs.gl, hs.fr, hs.holds.aside hA _, hs.fresh⟩ ⟨fun d' hd' => ?_, hnd.2, by rw [World.putObj_size]; exact hd.le⟩
      ⟨hsp.os, hsp.tape, hsp.output, by rw [World.putObj_size]; exact hsp.size, fun b hb => (World.putObj_heap_other (by omega)).trans (hsp.kept b hb)⟩ hx hR
    obtain ⟨D', rfl, hA', hB'⟩ := hd.all d' (List.mem_cons_of_mem _ hd')
    have hne : D' ≠ D := fun h => hnd.1 (by rw [← h]; exact hd')
    exact ⟨D', rfl, ⟨(World.putObj_heap_other hne).trans hA'.here, hA'.own, hA'.mem⟩, hB'⟩

/-! Rounds. -/
def noRd : YldT := fun _ _ _ _ => none
def noRf : Operand → Array Tmp → Code → Code → Nat → Fr → Hp → List Nat → OutL := fun _ _ _ _ _ _ _ _ => none
def normals : List Out → Option (List (Nat × Fr × Hp × List Nat))
  | [] => some []
  | (e, q) :: r => match e with
    | .normal => match normals r with
      | some l => some (q :: l)
      | none => none
    | _ => none
theorem normals_mem : ∀ {o : List Out} {l : List (Nat × Fr × Hp × List Nat)}, normals o = some l → (∀ e q, (e, q) ∈ o → e = .normal ∧ q ∈ l) ∧ ∀ q ∈ l, (Ex.normal, q) ∈ o
  | [], l, h => by cases h; exact ⟨fun e q hq => (by cases hq), fun q hq => (by cases hq)⟩
  | (e, q) :: r, l, h => by
    unfold normals at h
    split at h
    · split at h
      · rename_i l' hl'; cases h
        obtain ⟨h1, h2⟩ := normals_mem hl'
        refine ⟨fun e' q' hq => ?_, fun q' hq => ?_⟩
        · rcases List.mem_cons.1 hq with hq | hq
          · cases hq; exact ⟨rfl, List.mem_cons_self ..⟩
          · obtain ⟨k1, k2⟩ := h1 e' q' hq; exact ⟨k1, List.mem_cons_of_mem _ k2⟩
        · rcases List.mem_cons.1 hq with rfl | hq
          · exact List.mem_cons_self ..
          · exact List.mem_cons_of_mem _ (h2 q' hq)
      · cases h
    · cases h
def putPs (n : Nat) : List Tmp → List AV → Fr → Option Fr
  | [], [], fr => some fr
  | t :: ts, x :: xs, fr => putPs n ts xs (putF n fr (some t) x)
  | _, _, _ => none
theorem putPs_sound {n : Nat} {E : Env} : ∀ {ts : List Tmp} {xs : List AV} {fr fr1 : Fr} {vals : List Value} {tmps : Array Value}, putPs n ts xs fr = some fr1 → RR E .vs xs vals → FR E n fr ⟨tmps, []⟩ →
    FR E n fr1 ⟨(ts.zip vals).foldl (fun tmps p => tmps.setIfInBounds p.1 p.2) tmps, []⟩ ∧ vals.length = ts.length
  | [], [], fr, fr1, vals, tmps, h, hv, hf => by
    cases h; obtain rfl := hv.vs_nil_inv; exact ⟨hf, rfl⟩
  | t :: ts, x :: xs, fr, fr1, vals, tmps, h, hv, hf => by
    obtain ⟨v, vs, h1, h2, rfl⟩ := hv.vs_cons_inv
    unfold putPs at h
    obtain ⟨k1, k2⟩ := putPs_sound h h2 (putF_sound hf (some t) h1)
    exact ⟨k1, by simp [k2]⟩
  | [], _ :: _, _, _, _, _, h, _, _ => by cases h
  | _ :: _, [], _, _, _, _, h, _, _ => by cases h
def roundF (C : Cx) (n k : Nat) (ps : List Tmp) (x y : Code) (fr : Fr) : YldT := fun xs c σ ws =>
  match putPs n ps xs fr with
  | some fr1 => match runF C n [] noRd noRf k x c fr1 σ ws with
    | some o1 => match normals o1 with
      | some l1 => bindL (fun q => match runF C n [] noRd noRf k y q.1 q.2.1 q.2.2.1 q.2.2.2 with
        | some o2 => match normals o2 with
          | some l2 => some (l2.map fun r => (r.1, r.2.2.1, r.2.2.2))
          | none => none
        | none => none) l1
      | none => none
    | none => none
  | none => none
/-- What is kept while an iterator runs: the loop's record, and the block for its rounds' deferred calls. -/
structure RI (yi : Id) (l D : Nat) (rec : Loop) (E0 : Env) (E : Env) (σ : Hp) (w : World) : Prop where
  rl : Aside E σ w l (.loop rec)
  rd : Aside E σ w D (.deferred (some []))
  yi : E.ρ yi = some (.at l 0 0 0)
  le : E0.le E
theorem RI.keeps (yi : Id) (l D : Nat) (rec : Loop) (E0 : Env) : Keeps (RI yi l D rec E0) :=
  ⟨fun h ha => ⟨h.rl.adv ha, h.rd.adv ha, ha.le.ρ _ _ h.yi, Env.le_trans h.le ha.le⟩⟩
theorem noRd_ok (I : Env → Hp → World → Prop) (C : Cx) (yi : Id) (m : Nat) : YOk I C yi m noRd := fun _ _ _ _ _ h => by cases h
theorem noRf_ok (F : Fence) (m : Nat) (I : Env → Hp → World → Prop) (C : Cx) (n B : Nat) (g : Operand) (ps : Array Tmp) (x y : Code) : GoodF F m I C n B (.rangeFunc g ps x y) (noRf g ps x y) := fun _ _ _ _ _ h => by cases h
theorem round_ok {C : Cx} [TbOk C.B C.P] {n k : Nat} {ps : Array Tmp} {x y : Code} {fr : Fr} {yi : Id} {l D : Nat} {rec : Loop} {E0 : Env} (hst : rec.state = .ready) (hpe : rec.pending = none) (hps : rec.params = ps) (hx : rec.assign = x) (hy : rec.body = y) (hlD : l ≠ D)
    (hfr : FR E0 n fr ⟨rec.tmps, []⟩) (m : Nat) : YOk (RI yi l D rec E0) C yi m (roundF C n k ps.toList x y fr) := by
  intro xs c σ ws outs h
  unfold roundF at h
  split at h
  · rename_i fr1 hfr1
    split at h
    · rename_i o1 ho1
      split at h
      · rename_i l1 hl1
        obtain ⟨b1, b2⟩ := bindL_mem h
        obtain ⟨n1, n2⟩ := normals_mem hl1
        have gx : ∀ l', GoodF (Fence.wide.inRound l') m (RI yi l D rec E0) C n 0 x (runF C n [] noRd noRf k x) := fun l' => runF_sound (RI.keeps yi l D rec E0) (fun _ => trivial) rfl (.inr fun _ _ _ _ => rfl) (noRd_ok _ _ _ _) (noRf_ok _ _ _ _ _ _) k x
        have gy : ∀ l' rec', GoodF (Fence.wide.inRound l') m (RI yi l D rec' E0) C n 0 y (runF C n [] noRd noRf k y) := fun l' rec' => runF_sound (RI.keeps yi l D rec' E0) (fun _ => trivial) rfl (.inr fun _ _ _ _ => rfl) (noRd_ok _ _ _ _) (noRf_ok _ _ _ _ _ _) k y
        refine ⟨fun o ho => ?_, fun E w vals hI hg hh hf hv l' hl' => ?_⟩
        · obtain ⟨q, q1, z, q2, q3⟩ := b2 o ho
          have g1 := (gx 0 _ _ _ _ _ ho1).1 _ (n2 q q1)
          split at q2
          · rename_i o2 ho2
            split at q2
            · rename_i l2 hl2; cases q2
              obtain ⟨r, r1, rfl⟩ := List.mem_map.1 q3
              exact g1.trans ((gy 0 rec _ _ _ _ _ ho2).1 _ ((normals_mem hl2).2 r r1))
            · cases q2
          · cases q2
        · obtain ⟨s0, z0, q0, hl'⟩ := hl'
          rw [hI.yi] at hl'; cases hl'
          obtain ⟨f1, f2⟩ := putPs_sound hfr1 hv (hfr.mono hI.le)
          have hrun := run_yield (P := C.P) (args := vals.toArray) hI.rl.here (by rw [hps]; simpa using f2)
          refine ⟨_, _, _, _, hrun, roundIn_of_wpIn trivial ?_⟩
          rw [hx, hy]
          have htm : (rec.params.zip vals.toArray).foldl (fun tmps p => tmps.setIfInBounds p.1 p.2) rec.tmps = (ps.toList.zip vals).foldl (fun tmps p => tmps.setIfInBounds p.1 p.2) rec.tmps := by
            rw [hps, ← Array.foldl_toList]; simp
          have hs0 : StF C n 0 c fr1 σ E w { tmps := (rec.params.zip vals.toArray).foldl (fun tmps p => tmps.setIfInBounds p.1 p.2) rec.tmps, defers := [] } := by
            rw [htm]; exact ⟨⟨hg, f1, hh, hf⟩, .nil _ _ (Nat.zero_le _)⟩
          refine wpIn_mono ((gx l _ _ _ _ _ ho1).2 E w _ hI hs0) ?_
          rintro e a1 w1 ⟨e', c1, fr2, σ1, ws1, E1, hm, rfl, hs1, ha1⟩
          obtain ⟨rfl, hq⟩ := n1 _ _ hm
          have hI1 := (RI.keeps yi l D rec E0).adv hI ha1
          obtain ⟨z, z1, z2⟩ := b1 _ hq
          split at z1
          · rename_i o2 ho2
            split at z1
            · rename_i l2 hl2; cases z1
              obtain ⟨m1, m2⟩ := normals_mem hl2
              refine ⟨_, run_beginRound hI1.rl.here hst, ?_⟩
              have hlt := hI1.rl.lt
              have hI2 : RI yi l D { rec with state := .busy } E0 E1 σ1 (w1.putObj l (.loop { rec with state := .busy })) :=
                ⟨⟨World.putObj_heap_same hlt, hI1.rl.own, hI1.rl.mem⟩, ⟨(World.putObj_heap_other (fun h => hlD h.symm)).trans hI1.rd.here, hI1.rd.own, hI1.rd.mem⟩, hI1.yi, hI1.le⟩
              have hs2 : StF C n 0 c1 fr2 σ1 E1 (w1.putObj l (.loop { rec with state := .busy })) a1 :=
                ⟨⟨hs1.st.gl, hs1.st.fr, hs1.st.holds.aside hI1.rl _, hs1.st.fresh⟩, ⟨fun d hd => (by
                  obtain ⟨D', d1, d2, d3⟩ := hs1.ds.all d hd
                  refine ⟨D', d1, ⟨(World.putObj_heap_other fun h => ?_).trans d2.here, d2.own, d2.mem⟩, d3⟩
                  have := d2.here
                  rw [h, hI1.rl.here] at this; cases this), hs1.ds.nodup, Nat.zero_le _⟩⟩
              refine wpIn_mono ((gy l _ _ _ _ _ _ ho2).2 E1 _ _ hI2 hs2) ?_
              rintro e a3 w3 ⟨e', c3, fr3, σ3, ws3, E3, hm3, rfl, hs3, ha3⟩
              obtain ⟨rfl, hq3⟩ := m1 _ _ hm3
              have hI3 := (RI.keeps yi l D { rec with state := .busy } E0).adv hI2 ha3
              refine ⟨_, _, run_endRound none hI3.rl.here, rfl, (c3, σ3, ws3), z2 _ (List.mem_map.2 ⟨_, hq3, rfl⟩), E3, hs3.st.holds.aside hI3.rl _, ?_, hs3.st.fresh⟩
              have hrec : ({ { rec with state := .busy } with state := if (none : Option Code).isNone then .ready else .done, pending := none } : Loop) = rec := by
                cases rec; simp only at hst hpe; subst hst hpe; rfl
              rw [hrec]
              have hsz1 := ha1.size
              have hsz3 : w1.heap.size ≤ w3.heap.size := by have := ha3.size; rwa [World.putObj_size] at this
              have hown1 : ∀ b, Own E1 σ1 b → Own E σ b ∨ w.heap.size ≤ b := ha1.ownNew
              refine ⟨Env.le_trans ha1.le ha3.le, ha3.os.trans ha1.os, ha3.tape.trans ha1.tape, ha3.output.trans ha1.output, by rw [World.putObj_size]; omega, fun b hb ho => ?_, fun b hb => ?_, fun b hb => ?_⟩
              · by_cases hbl : b = l
                · subst hbl
                  rw [World.putObj_heap_same hI3.rl.lt, hI.rl.here]
                · rw [World.putObj_heap_other hbl, ha3.kept b (by rw [World.putObj_size]; omega) (fun h => by
                    rcases hown1 b h with h | h
                    · exact ho h
                    · omega), World.putObj_heap_other hbl, ha1.kept b hb ho]
              · rcases ha3.ownNew b hb with h1 | h1
                · exact hown1 b h1
                · rw [World.putObj_size] at h1; exact .inr (by omega)
              · rcases ha3.mNew b hb with h1 | h1 | h1
                · exact ha1.mNew b h1
                · exact .inr (hown1 b h1)
                · rw [World.putObj_size] at h1; exact .inr (.inr (by omega))
            · cases z1
          · cases z1
      · cases h
    · cases h
  · cases h
end
end Go.AS
