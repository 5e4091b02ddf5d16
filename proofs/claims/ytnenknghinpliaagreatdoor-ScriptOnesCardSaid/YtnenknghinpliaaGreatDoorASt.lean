/- Regions whose order is drawn: every order does the same. -/
import Derived.Test.YtnenknghinpliaaGreatDoorASs
namespace Go.AS
noncomputable section

theorem frD_flag {n : Nat} {ops : List Oper} {pl : Nat → PE} {D D' : Nat → Bool} {fr0 : Fr} : ∀ m, (∀ k, k < m → D k = D' k) → frD n ops pl D fr0 m = frD n ops pl D' fr0 m
  | 0, _ => rfl
  | m + 1, h => by simp only [frD, frD_flag m fun k hk => h k (by omega), h m (by omega)]
theorem hpD_flag {pl : Nat → PE} {D D' : Nat → Bool} {σ0 : Hp} : ∀ m, (∀ k, k < m → D k = D' k) → hpD pl D σ0 m = hpD pl D' σ0 m
  | 0, _ => rfl
  | m + 1, h => by simp only [hpD, hpD_flag m fun k hk => h k (by omega), h m (by omega)]
theorem frD_cut {n : Nat} {ops : List Oper} {pl : Nat → PE} {fr0 : Fr} {j : Nat} : ∀ m, j ≤ m → frD n ops pl (fun k => decide (k < j)) fr0 m = frD n ops pl (fun _ => true) fr0 j
  | 0, h => by obtain rfl : j = 0 := by omega
               rfl
  | m + 1, h => by
    by_cases hj : j = m + 1
    · subst hj; exact frD_flag _ fun k hk => by simp [hk]
    · have : decide (m < j) = false := by simp; omega
      simp only [frD, this]; exact frD_cut m (by omega)
theorem hpD_cut {pl : Nat → PE} {σ0 : Hp} {j : Nat} : ∀ m, j ≤ m → hpD pl (fun k => decide (k < j)) σ0 m = hpD pl (fun _ => true) σ0 j
  | 0, h => by obtain rfl : j = 0 := by omega
               rfl
  | m + 1, h => by
    by_cases hj : j = m + 1
    · subst hj; exact hpD_flag _ fun k hk => by simp [hk]
    · have : decide (m < j) = false := by simp; omega
      simp only [hpD, this]; exact hpD_cut m (by omega)
theorem ulast_mem : ∀ {upd : Upd} {l : Nat} {e : Ent}, ulast upd l = some e → l ∈ upd.map (·.1)
  | [], _, _, h => by cases h
  | (j, x) :: r, l, e, h => by
    unfold ulast at h
    split at h
    · rename_i e' he; simp only [List.map_cons, List.mem_cons]; exact .inr (ulast_mem he)
    · split at h
      · rename_i hj; simp [hj]
      · cases h
theorem noneIn_spec {xs ys : List Nat} (h : noneIn xs ys = true) {t : Nat} (hx : t ∈ xs) : t ∉ ys := by
  have := List.all_eq_true.1 h t hx
  simpa using this
def countU (D : Nat → Bool) : Nat → Nat
  | 0 => 0
  | m + 1 => countU D m + if D m then 0 else 1
theorem countU_zero {D : Nat → Bool} : ∀ m, countU D m = 0 → ∀ k, k < m → D k = true
  | 0, _, k, hk => by omega
  | m + 1, h, k, hk => by
    simp only [countU] at h
    by_cases hm : k = m
    · subst hm; cases hD : D k
      · simp [hD] at h
      · rfl
    · exact countU_zero m (by omega) k (by omega)
theorem countU_set {D : Nat → Bool} {i : Nat} : ∀ m, (m ≤ i → countU (fun k => k == i || D k) m = countU D m) ∧ (i < m → D i = false → countU (fun k => k == i || D k) m + 1 = countU D m)
  | 0 => ⟨fun _ => rfl, fun h => by omega⟩
  | m + 1 => by
    obtain ⟨h1, h2⟩ := countU_set (D := D) (i := i) m
    refine ⟨fun h => ?_, fun h hD => ?_⟩
    · simp only [countU, h1 (by omega)]
      have : (m == i) = false := by simp; omega
      simp [this]
    · simp only [countU]
      by_cases hm : m = i
      · subst hm
        rw [h1 (Nat.le_refl _)]; simp [hD]
      · have : (m == i) = false := by simp; omega
        simp only [this, Bool.false_or]
        have := h2 (by omega) hD
        omega
theorem countU_pos {D : Nat → Bool} : ∀ m, (∀ k, k < m → D k = true) → countU D m = 0
  | 0, _ => rfl
  | m + 1, h => by simp [countU, countU_pos m fun k hk => h k (by omega), h m (by omega)]

section
variable {C : Cx} (hC : C.Sound) {n : Nat} {p : Id} {ops : Array Oper} {c : Nat} {fr0 : Fr} {σ0 : Hp} {pl : Nat → PE}

structure Chk (n : Nat) (ops : List Oper) (pl : Nat → PE) : Prop where
  dst : ∀ (k : Nat) (e : Nat), (ops[k]?).bind (·.dst) = some e → e < n
  lt : ∀ j o, ops[j]? = some o → ∀ e ∈ directs o, e < j
  mask : ∃ B : Nat → Nat → Bool, (∀ j o i, ops[j]? = some o → i < ops.length → B j i = true → i ∈ directs o ∨ ∃ e ∈ directs o, B e i = true) ∧
    ∀ i j a b, i < j → ops[i]? = some a → ops[j]? = some b → B j i = true ∨ pairOk ops a b (pl i) (pl j) = true
theorem planOk_spec {ops : List Oper} (h : planOk n ops ((List.range ops.length).map pl) = true) : Chk n ops pl := by
  simp only [planOk, Bool.and_eq_true] at h
  obtain ⟨⟨h1, h2⟩, h3⟩ := h
  refine ⟨fun k e hk => ?_, fun j o hj e he => ?_, ⟨fun j i => ((masks ops []).getD j 0).testBit i, fun j o i hj hi hb => ?_, fun i j a b hij hi hj => ?_⟩⟩
  · cases ho : ops[k]? with
    | none => rw [ho] at hk; cases hk
    | some o =>
      rw [ho] at hk
      have := List.all_eq_true.1 (List.all_eq_true.1 h1 o (List.mem_of_getElem? ho)) e (by simp only [Option.bind_some] at hk; simp [dstL, hk])
      simpa using this
  · have hlt : j < ops.length := by rw [List.getElem?_eq_some_iff] at hj; exact hj.1
    have := List.all_eq_true.1 h2 j (by simpa using hlt)
    simp only [hj, Bool.and_eq_true] at this
    have := List.all_eq_true.1 this.1 e he
    simpa using this
  · have hlt : j < ops.length := by rw [List.getElem?_eq_some_iff] at hj; exact hj.1
    have := List.all_eq_true.1 h2 j (by simpa using hlt)
    simp only [hj, Bool.and_eq_true] at this
    have := List.all_eq_true.1 this.2 i (by simpa using hi)
    simp only [hb, Bool.not_true, Bool.false_or, Bool.or_eq_true] at this
    rcases this with h4 | h4
    · exact .inl (by simpa using h4)
    · obtain ⟨e, he, h5⟩ := List.any_eq_true.1 h4; exact .inr ⟨e, he, h5⟩
  · have hlt : j < ops.length := by rw [List.getElem?_eq_some_iff] at hj; exact hj.1
    have hlt' : i < ops.length := by rw [List.getElem?_eq_some_iff] at hi; exact hi.1
    have := List.all_eq_true.1 (List.all_eq_true.1 h3 j (by simpa using hlt)) i (by simpa using hij)
    simp only [Bool.or_eq_true, hi, hj, List.getElem?_map, List.getElem?_range hlt, List.getElem?_range hlt', Option.map_some] at this
    exact this

structure Inv (C : Cx) (n : Nat) (p : Id) (ops : Array Oper) (c : Nat) (fr0 : Fr) (σ0 : Hp) (pl : Nat → PE) (E0 : Env) (w0 : World) (listed : Array Bool) (E : Env) (a : Act) (w : World) : Prop where
  size : listed.size = ops.size
  gl : GL C E
  fr : FR E n (frD n ops.toList pl (fun k => listed.getD k true) fr0 ops.size) a
  holds : Holds E (hpD pl (fun k => listed.getD k true) σ0 ops.size) w
  adv : Adv E0 σ0 w0 E (hpD pl (fun k => listed.getD k true) σ0 ops.size) w
  new : NewIn E0 E (c :: p)
  fresh : ∀ k, k < ops.size → listed.getD k true = false → Fresh E (k :: c :: p)
  down : ∀ k o, ops[k]? = some o → listed.getD k true = true → ∀ e ∈ directs o, listed.getD e true = true

theorem FR.congr {E : Env} {fr fr' : Fr} {a : Act} (h : FR E n fr a) (he : ∀ t, aget fr' t = aget fr t) : FR E n fr' a := ⟨h.size, h.defers, fun t x ht => h.at_ t x (by rw [← he t]; exact ht)⟩
theorem Holds.congr {E : Env} {σ σ' : Hp} {w : World} (h : Holds E σ w) (he : ∀ l, aget σ' l = aget σ l) : Holds E σ' w := h.sub fun l e hl => by rw [← he l]; exact hl
theorem Adv.congr {E E' : Env} {σ σ1 σ2 : Hp} {w w' : World} (h : Adv E σ w E' σ1 w') (he : ∀ l, aget σ2 l = aget σ1 l) : Adv E σ w E' σ2 w' := h.sub fun l e hl => by rw [← he l]; exact hl

include hC in
theorem any_step (hsays : ∀ (j : Nat) (o : Oper), ops.toList[j]? = some o → OpSays C n p ops.toList c fr0 σ0 pl j o) (hchk : Chk n ops.toList pl) {E0 : Env} {w0 : World} {listed : Array Bool} {E : Env} {a : Act} {w : World}
    (hi : Inv C n p ops c fr0 σ0 pl E0 w0 listed E a w) {Q : Exit → Act → World → Prop} {K : Act → World → Prop} {j : Nat} (hj : j ∈ Region.ready .any ops listed)
    (hK : ∀ E' a' w', Inv C n p ops c fr0 σ0 pl E0 w0 (listed.setIfInBounds j true) E' a' w' → K a' w') : wpOp C.P ops Q j K a w := by
  simp only [Region.ready, List.mem_filter, List.mem_range, Bool.and_eq_true, Bool.not_eq_true'] at hj
  obtain ⟨hlt, hjD, hrd⟩ := hj
  have hjl : j < listed.size := by rw [hi.size]; exact hlt
  obtain ⟨o, ho⟩ : ∃ o, ops[j]? = some o := ⟨ops[j], by simp [hlt]⟩
  have hoL : ops.toList[j]? = some o := by simpa using ho
  simp only [ho, Option.map_some, Option.getD_some] at hrd
  have hnd : ops.toList.length = ops.size := by simp
  -- what comes ahead of j was done
  have hpre : ∀ e ∈ directs o, listed.getD e true = true := fun e he => by
    simp only [directs, List.mem_map, List.mem_filter] at he
    obtain ⟨ed, ⟨h1, h2⟩, rfl⟩ := he
    rw [Array.all_eq_true_iff_forall_mem] at hrd
    have := hrd ed (by simpa using h1)
    simp only [h2, Bool.not_true, Bool.false_or] at this
    have hel : ed.on < listed.size := by
      have := hchk.lt j o hoL ed.on (by simp only [directs, List.mem_map, List.mem_filter]; exact ⟨ed, ⟨h1, h2⟩, rfl⟩)
      omega
    simp only [Array.getD_eq_getD_getElem?, Array.getElem?_eq_getElem hel, Option.getD_some] at this ⊢
    exact this
  obtain ⟨B, hB1, hB2⟩ := hchk.mask
  have hanc : ∀ k, k < ops.size → listed.getD k true = true → ∀ i, i < ops.size → B k i = true → listed.getD i true = true := by
    intro k
    induction k using Nat.strongRecOn with
    | _ k ih =>
      intro hk hD i hi' hb
      obtain ⟨q, hq⟩ : ∃ q, ops[k]? = some q := ⟨ops[k], by simp [hk]⟩
      rcases hB1 k q i (by simpa using hq) (by simpa using hi') hb with h1 | ⟨e, he, h1⟩
      · exact hi.down k q hq hD i h1
      · have hek := hchk.lt k q (by simpa using hq) e he
        exact ih e hek (by omega) (hi.down k q hq hD e he) i hi' h1
  have hbefore : ∀ i, i < j → listed.getD i true = false → ∀ q, ops[i]? = some q → pairOk ops.toList q o (pl i) (pl j) = true := fun i hij hiD q hq => by
    rcases hB2 i j q o hij (by simpa using hq) hoL with h1 | h1
    · rcases hB1 j o i hoL (by simp; omega) h1 with h2 | ⟨e, he, h2⟩
      · rw [hpre i h2] at hiD; cases hiD
      · have hej := hchk.lt j o hoL e he
        rw [hanc e (by omega) (hpre e he) i (by omega) h2] at hiD; cases hiD
    · exact h1
  have hafter : ∀ k, j < k → k < ops.size → listed.getD k true = true → ∀ q, ops[k]? = some q → pairOk ops.toList o q (pl j) (pl k) = true := fun k hjk hk hkD q hq => by
    rcases hB2 j k o q hjk hoL (by simpa using hq) with h1 | h1
    · rw [hanc k hk hkD j hlt h1] at hjD; cases hjD
    · exact h1
  obtain ⟨fr, σ, hfr, hσ, hw, hdo⟩ := (hsays j o hoL).says
  -- the frame and the memory that j looks at are those of the text's order
  have hF : ∀ t, t ∈ looksL ops.toList o → aget fr t = aget (frD n ops.toList pl (fun k => listed.getD k true) fr0 ops.size) t := fun t ht => by
    rw [hfr, ← frD_cut ops.size (by omega)]
    refine frD_congr hchk.dst ops.size fun k hk => ?_
    obtain ⟨q, hq⟩ : ∃ q, ops[k]? = some q := ⟨ops[k], by simp [hk]⟩
    have hqL : ops.toList[k]? = some q := by simpa using hq
    have hdst : ∀ (hn : noneIn (dstL q) (looksL ops.toList o) = true), (ops.toList[k]?).bind (·.dst) ≠ some t := fun hn he => by
      rw [hqL] at he; simp only [Option.bind_some] at he
      exact noneIn_spec hn (t := t) (by simp [dstL, he]) ht
    by_cases hkj : k < j
    · cases hD : listed.getD k true
      · have := hbefore k hkj hD q hq
        simp only [pairOk, Bool.and_eq_true] at this
        exact .inr (hdst this.1.1.1.1.1)
      · exact .inl (by simp [hkj])
    · by_cases hkj' : k = j
      · subst hkj'; exact .inl (by rw [hjD]; simp)
      · cases hD : listed.getD k true
        · exact .inl (by simp; omega)
        · have := hafter k (by omega) hk hD q hq
          simp only [pairOk, Bool.and_eq_true] at this
          exact .inr (hdst this.1.1.1.1.2)
  have hH : ∀ l, l ∈ (pl j).fp → aget σ l = aget (hpD pl (fun k => listed.getD k true) σ0 ops.size) l := fun l hl => by
    rw [hσ, ← hpD_cut ops.size (by omega)]
    refine hpD_congr ops.size fun k hk => ?_
    obtain ⟨q, hq⟩ : ∃ q, ops[k]? = some q := ⟨ops[k], by simp [hk]⟩
    have hupd : ∀ (hn : noneIn ((pl k).upd.map (·.1)) (pl j).fp = true), ulast (pl k).upd l = none := fun hn => by
      cases hu : ulast (pl k).upd l with
      | none => rfl
      | some e => exact absurd hl (noneIn_spec hn (ulast_mem hu))
    by_cases hkj : k < j
    · cases hD : listed.getD k true
      · have := hbefore k hkj hD q hq
        simp only [pairOk, Bool.and_eq_true] at this
        exact .inr (hupd this.1.1.2)
      · exact .inl (by simp [hkj])
    · by_cases hkj' : k = j
      · subst hkj'; exact .inl (by rw [hjD]; simp)
      · cases hD : listed.getD k true
        · exact .inl (by simp; omega)
        · have := hafter k (by omega) hk hD q hq
          simp only [pairOk, Bool.and_eq_true] at this
          exact .inr (hupd this.1.2)
  have hfrR : FR E n (restr (looksL ops.toList o) fr) a := ⟨hi.fr.size, hi.fr.defers, fun t x ht => by
    obtain ⟨h1, h2⟩ := restr_sub _ _ _ _ ht
    exact hi.fr.at_ t x (by rw [← hF t h1]; exact h2)⟩
  -- the flags after
  have hset : (fun k => (listed.setIfInBounds j true).getD k true) = fun k => k == j || listed.getD k true := funext fun k => by
    simp only [Array.getD_eq_getD_getElem?, Array.getElem?_setIfInBounds]
    by_cases hkj : k = j
    · subst hkj; simp [hjl]
    · have : (k == j) = false := by simpa using hkj
      simp [this, Ne.symm hkj]
  have hputF : ∀ t, aget (frD n ops.toList pl (fun k => (listed.setIfInBounds j true).getD k true) fr0 ops.size) t = aget (putF n (frD n ops.toList pl (fun k => listed.getD k true) fr0 ops.size) o.dst (pl j).x) t := fun t => by
    rw [hset, aget_putF n _ _ _ _ (fun e he => hchk.dst j e (by rw [hoL]; exact he))]
    have := frD_put (pl := pl) (fr0 := fr0) (t := t) hchk.dst hjD ops.size hlt fun k h1 h2 hD => by
      obtain ⟨q, hq⟩ : ∃ q, ops[k]? = some q := ⟨ops[k], by simp [h2]⟩
      have hp := hafter k h1 h2 hD q hq
      simp only [pairOk, Bool.and_eq_true] at hp
      rw [show ops.toList[k]? = some q by simpa using hq, hoL]
      simp only [Option.bind_some]
      by_cases hot : o.dst = some t
      · left; intro hqt
        exact noneIn_spec hp.1.1.1.2 (t := t) (by simp [dstL, hot]) (by simp [dstL, hqt])
      · exact .inr hot
    rw [this, hoL]; rfl
  have hputH : ∀ l, aget (hpD pl (fun k => (listed.setIfInBounds j true).getD k true) σ0 ops.size) l = aget ((hpD pl (fun k => listed.getD k true) σ0 ops.size).app (pl j).upd) l := fun l => by
    rw [hset]
    exact hpD_put hjD ops.size hlt fun k h1 h2 hD => by
      obtain ⟨q, hq⟩ : ∃ q, ops[k]? = some q := ⟨ops[k], by simp [h2]⟩
      have hp := hafter k h1 h2 hD q hq
      simp only [pairOk, Bool.and_eq_true] at hp
      cases hu : ulast (pl j).upd l with
      | none => exact .inr rfl
      | some e =>
        left
        cases hv : ulast (pl k).upd l with
        | none => rfl
        | some e' => exact absurd (ulast_mem hv) (noneIn_spec hp.2 (ulast_mem hu))
  have fin : ∀ E' v w', VR E' (pl j).x v → Holds E' ((hpD pl (fun k => listed.getD k true) σ0 ops.size).app (pl j).upd) w' → Adv E (hpD pl (fun k => listed.getD k true) σ0 ops.size) w E' ((hpD pl (fun k => listed.getD k true) σ0 ops.size).app (pl j).upd) w' →
      NewIn E E' (j :: c :: p) → K (a.put o.dst v) w' := fun E' v w' h1 h2 h3 h4 => by
    refine hK E' _ w' ⟨by simp [hi.size], hi.gl.mono h3.le, (putF_sound (hi.fr.mono h3.le) o.dst h1).congr hputF, h2.congr hputH, (hi.adv.trans h3).congr hputH, hi.new.trans (h4.up (List.suffix_cons _ _)), fun k hk hD => ?_, fun k q hq hD e he => ?_⟩
    · have hD' := congrFun hset k
      rw [hD', Bool.or_eq_false_iff] at hD
      exact (hi.fresh k hk hD.2).other h4 (by have := hD.1; simp at this; omega)
    · have hD' := congrFun hset k
      have hE' := congrFun hset e
      rw [hE', Bool.or_eq_true]
      rw [hD', Bool.or_eq_true] at hD
      rcases hD with h5 | h5
      · have : k = j := by simpa using h5
        subst this
        rw [ho] at hq; cases hq
        exact .inr (hpre e he)
      · exact .inr (hi.down k q hq h5 e he)
  unfold wpOp
  simp only [ho]
  rw [want_sound hfrR hw]
  rcases hdo with ⟨h1, h2, h3⟩ | ⟨h1, q, h2, h4, h5⟩
  · simp only [h1, Bool.false_eq_true, if_false]
    exact fin E undef w (by rw [h2]; exact .lit _) (by rw [h3]; exact hi.holds) (by rw [h3]; exact .refl _ _ _) (.refl _ _)
  · simp only [h1, if_true]
    refine .inl (det_wp hC hi.gl hfrR hi.holds (fun l e hl => ?_) (hi.fresh j hlt hjD) h2 fun v w' E' k1 k2 k3 k4 => ?_)
    · obtain ⟨k1, k2⟩ := restr_sub _ _ _ _ hl
      rw [← hH l k1]; exact k2
    · rw [h4] at k1; rw [h5] at k2 k3
      exact fin E' v w' k1 k2 k3 k4
include hC in
theorem any_all (hsays : ∀ (j : Nat) (o : Oper), ops.toList[j]? = some o → OpSays C n p ops.toList c fr0 σ0 pl j o) (hchk : Chk n ops.toList pl) {E0 : Env} {w0 : World} {Q : Exit → Act → World → Prop}
    (hQ : ∀ E a w, FR E n (frD n ops.toList pl (fun _ => true) fr0 ops.size) a → Holds E (hpD pl (fun _ => true) σ0 ops.size) w → Adv E0 σ0 w0 E (hpD pl (fun _ => true) σ0 ops.size) w → NewIn E0 E (c :: p) → GL C E → Q .normal a w) :
    ∀ (fuel : Nat) (listed : Array Bool) (E : Env) (a : Act) (w : World), countU (fun k => listed.getD k true) ops.size = fuel → Inv C n p ops c fr0 σ0 pl E0 w0 listed E a w → wpAny C.P .any ops Q fuel listed a w := by
  intro fuel
  have hall : ∀ (listed : Array Bool) (E : Env) (a : Act) (w : World), (∀ k, k < ops.size → listed.getD k true = true) → Inv C n p ops c fr0 σ0 pl E0 w0 listed E a w → Q .normal a w := fun listed E a w h hi => by
    have e1 : frD n ops.toList pl (fun k => listed.getD k true) fr0 ops.size = frD n ops.toList pl (fun _ => true) fr0 ops.size := frD_flag _ fun k hk => h k hk
    have e2 : hpD pl (fun k => listed.getD k true) σ0 ops.size = hpD pl (fun _ => true) σ0 ops.size := hpD_flag _ fun k hk => h k hk
    exact hQ E a w (e1 ▸ hi.fr) (e2 ▸ hi.holds) (e2 ▸ hi.adv) hi.new hi.gl
  induction fuel with
  | zero =>
    intro listed E a w hc hi
    have h := countU_zero _ hc
    refine ⟨?_, hall listed E a w h hi⟩
    simp only [Region.ready, List.filter_eq_nil_iff, List.mem_range, Bool.and_eq_true, not_and]
    intro k hk hb
    rw [h k hk] at hb; cases hb
  | succ fuel ih =>
    intro listed E a w hc hi
    refine ⟨fun hr => ?_, fun i hri => ?_⟩
    · -- some operation is not done, and the least of these is ready
      exfalso
      have key : ∀ k, k < ops.size → listed.getD k true = true := by
        intro k
        induction k using Nat.strongRecOn with
        | _ k ihk =>
          intro hk
          cases hD : listed.getD k true with
          | true => rfl
          | false =>
            exfalso
            have : k ∈ Region.ready .any ops listed := by
              simp only [Region.ready, List.mem_filter, List.mem_range, Bool.and_eq_true, Bool.not_eq_true']
              obtain ⟨o, ho⟩ : ∃ o, ops[k]? = some o := ⟨ops[k], by simp [hk]⟩
              refine ⟨hk, hD, ?_⟩
              simp only [ho, Option.map_some, Option.getD_some]
              rw [Array.all_eq_true_iff_forall_mem]
              intro e he
              cases hb : Region.binds .any e with
              | false => simp
              | true =>
                have hlt := hchk.lt k o (by simpa using ho) e.on (by simp only [directs, List.mem_map, List.mem_filter]; exact ⟨e, ⟨by simpa using he, hb⟩, rfl⟩)
                have h1 := ihk e.on hlt (by omega)
                have hel : e.on < listed.size := by rw [hi.size]; omega
                simp only [Array.getD_eq_getD_getElem?, Array.getElem?_eq_getElem hel, Option.getD_some] at h1 ⊢
                simp [h1]
            rw [hr] at this; cases this
      rw [countU_pos _ key] at hc; cases hc
    · refine any_step hC hsays hchk hi hri fun E' a' w' hi' => ih _ E' a' w' ?_ hi'
      have hri' := hri
      simp only [Region.ready, List.mem_filter, List.mem_range, Bool.and_eq_true, Bool.not_eq_true'] at hri'
      have hil : i < listed.size := by rw [hi.size]; exact hri'.1
      have hset : (fun k => (listed.setIfInBounds i true).getD k true) = fun k => k == i || listed.getD k true := funext fun k => by
        simp only [Array.getD_eq_getD_getElem?, Array.getElem?_setIfInBounds]
        by_cases hki : k = i
        · subst hki; simp [hil]
        · have : (k == i) = false := by simpa using hki
          simp [this, Ne.symm hki]
      have := (countU_set (D := fun k => listed.getD k true) (i := i) ops.size).2 hri'.1 hri'.2.1
      rw [hset]; omega
end
/-- What is to be computed. -/
inductive Holds1 (f : Unit → Bool) : Prop
  | mk (h : f () = true)
theorem AX.draw {C : Cx} (hC : C.Sound) {n : Nat} {p : Id} {c : Nat} {fr : Fr} {σ : Hp} {Q : PostK} {i : Nat} {ops : Array Oper} (hm : C.P.follows .mixedOrders = true)
    (h : opsW C n p ops.toList c ops.toList 0 fr σ [] fun log fr' σ' => Holds1 (fun _ => planOk n ops.toList log) ∧ Q .normal (c + 1) fr' σ') : AX C n p (.region i ops true) c fr σ Q := fun E w a hs => by
  refine wp_region_any hm ?_
  obtain ⟨pl, lg, _, h2, ⟨⟨h3⟩, h4⟩, h5⟩ := opsW_says (fr0 := fr) (σ0 := σ) ops.toList 0 rfl fr σ [] rfl (fun pl _ => ⟨rfl, rfl⟩) h
  simp only [Nat.zero_add] at h2 h4
  rw [h2] at h3
  have hchk : Chk n ops.toList pl := planOk_spec h3
  have hw : ∀ k, (Array.replicate ops.size false).getD k true = !decide (k < ops.size) := fun k => by
    simp only [Array.getD_eq_getD_getElem?, Array.getElem?_replicate]
    by_cases hk : k < ops.size <;> simp [hk]
  have e0 : ∀ m, m ≤ ops.size → frD n ops.toList pl (fun k => (Array.replicate ops.size false).getD k true) fr m = fr := fun m hm => by
    induction m with
    | zero => rfl
    | succ m ih =>
      have : (Array.replicate ops.size false).getD m true = false := by rw [hw]; simp; omega
      rw [frD]; simp only [this]; exact ih (by omega)
  have e1 : ∀ m, m ≤ ops.size → hpD pl (fun k => (Array.replicate ops.size false).getD k true) σ m = σ := fun m hm => by
    induction m with
    | zero => rfl
    | succ m ih =>
      have : (Array.replicate ops.size false).getD m true = false := by rw [hw]; simp; omega
      rw [hpD]; simp only [this]; exact ih (by omega)
  have hcount : ∀ m, m ≤ ops.size → countU (fun k => (Array.replicate ops.size false).getD k true) m = m := fun m hm => by
    induction m with
    | zero => rfl
    | succ m ih =>
      have : (Array.replicate ops.size false).getD m true = false := by rw [hw]; simp; omega
      simp only [countU, ih (by omega), this]; rfl
  refine any_all hC (fun j o ho => h5 j o (Nat.zero_le _) ho) hchk (E0 := E) (w0 := { w with drawn := w.drawn + 1 }) (fun E' a' w' g1 g2 g3 g4 g5 => ?_) ops.size _ E a _ (hcount _ (Nat.le_refl _)) ?_
  · have hsz : ops.toList.length = ops.size := by simp
    rw [hsz] at h4
    refine ⟨.normal, c + 1, _, _, E', h4, rfl, ⟨g5, g1, g2, fun k hk => (hs.fresh k (by omega)).other g4 (by omega)⟩, (Adv.drew E σ w _).trans g3, g4.up (List.suffix_cons _ _)⟩
  · refine ⟨by simp, hs.gl, by rw [e0 _ (Nat.le_refl _)]; exact hs.fr, by rw [e1 _ (Nat.le_refl _)]; exact hs.holds.world rfl, by rw [e1 _ (Nat.le_refl _)]; exact .refl _ _ _, .refl _ _, fun k hk _ => (hs.fresh c (Nat.le_refl _)).sub (List.suffix_cons _ _), fun k o hk hD => ?_⟩
    rw [hw] at hD
    have : k < ops.size := by rw [Array.getElem?_eq_some_iff] at hk; exact hk.1
    simp [this] at hD
end
end Go.AS
