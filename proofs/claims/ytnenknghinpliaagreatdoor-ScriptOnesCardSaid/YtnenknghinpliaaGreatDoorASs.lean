/- Regions whose order is drawn: the walk, and why every order does the same. -/
import Derived.Test.YtnenknghinpliaaGreatDoorASr
namespace Go.AS
noncomputable section

structure PE where
  want : Bool
  x : AV
  upd : Upd
  fp : List Nat
  deriving Inhabited

/-- The slots that an operation looks at. -/
def looksL (all : List Oper) (o : Oper) : List Nat :=
  (o.op.operands.toList.filterMap fun | .tmp t => some t | _ => none) ++
  (match o.guard with
   | some (g, _) => match all[g]? with
     | some q => match q.dst with
       | some d => [d]
       | none => []
     | none => []
   | none => [])
def opsW (C : Cx) (n : Nat) (p : Id) (all : List Oper) (c : Nat) : List Oper → Nat → Fr → Hp → List PE → (List PE → Fr → Hp → Prop) → Prop
  | [], _, fr, σ, log, K => K log fr σ
  | o :: r, k, fr, σ, log, K => match wantE all (restr (looksL all o) fr) o.guard with
    | some b => match b with
      | true => ∃ q, DetR C (k :: c :: p) (restr (looksL all o) fr) (restr (fpR C fr σ o) σ) o q ∧ opsW C n p all c r (k + 1) (putF n fr o.dst q.x) (σ.app q.upd) (log ++ [⟨true, q.x, q.upd, fpR C fr σ o⟩]) K
      | false => opsW C n p all c r (k + 1) (putF n fr o.dst (.lit undef)) σ (log ++ [⟨false, .lit undef, [], []⟩]) K
    | none => False

/-! ### Overlays: what is known where some of the operations were done. -/
def frD (n : Nat) (ops : List Oper) (pl : Nat → PE) (D : Nat → Bool) (fr0 : Fr) : Nat → Fr
  | 0 => fr0
  | k + 1 => match D k with
    | true => putF n (frD n ops pl D fr0 k) ((ops[k]?).bind (·.dst)) (pl k).x
    | false => frD n ops pl D fr0 k
def hpD (pl : Nat → PE) (D : Nat → Bool) (σ0 : Hp) : Nat → Hp
  | 0 => σ0
  | k + 1 => match D k with
    | true => (hpD pl D σ0 k).app (pl k).upd
    | false => hpD pl D σ0 k
def usF (n : Nat) (ops : List Oper) (k t : Nat) : Bool := ((ops[k]?).bind (·.dst)) == some t
theorem ne_or {j k : Nat} {b : Bool} (h : k < j) : (k == j || b) = b := by
  have : (k == j) = false := by simp; omega
  simp [this]
theorem aget_putF (n : Nat) (fr : Fr) (d : Option Tmp) (x : AV) (t : Nat) (hd : ∀ e, d = some e → e < n) : aget (putF n fr d x) t = if d = some t then some x else aget fr t := by
  cases d with
  | none => simp [putF]
  | some e =>
    have : Nat.blt e n = true := by simpa using hd e rfl
    simp only [putF, this, aget_aset, Option.some.injEq]
    by_cases h : t = e
    · simp [h]
    · simp [h, Ne.symm h]
section
variable {n : Nat} {ops : List Oper} {pl : Nat → PE} (hdst : ∀ (k : Nat) (e : Nat), (ops[k]?).bind (·.dst) = some e → e < n)
include hdst
theorem frD_congr {D D' : Nat → Bool} {fr0 : Fr} {t : Nat} : ∀ m, (∀ k, k < m → D k = D' k ∨ (ops[k]?).bind (·.dst) ≠ some t) → aget (frD n ops pl D fr0 m) t = aget (frD n ops pl D' fr0 m) t
  | 0, _ => rfl
  | m + 1, h => by
    have ih := frD_congr (fr0 := fr0) m fun k hk => h k (by omega)
    have one : ∀ (D : Nat → Bool), (ops[m]?).bind (·.dst) ≠ some t → aget (frD n ops pl D fr0 (m + 1)) t = aget (frD n ops pl D fr0 m) t := fun D hne => by
      simp only [frD]; cases D m
      · rfl
      · simp only; rw [aget_putF n _ _ _ _ (hdst m), if_neg hne]
    rcases h m (by omega) with h1 | h1
    · simp only [frD, h1]
      cases D' m
      · exact ih
      · simp only; rw [aget_putF n _ _ _ _ (hdst m), aget_putF n _ _ _ _ (hdst m), ih]
    · rw [one D h1, one D' h1, ih]
/-- Operation j is done now, others behind it were done before it. -/
theorem frD_put {D : Nat → Bool} {fr0 : Fr} {t j : Nat} (hj : D j = false) : ∀ m, j < m → (∀ k, j < k → k < m → D k = true → (ops[k]?).bind (·.dst) ≠ some t ∨ (ops[j]?).bind (·.dst) ≠ some t) →
    aget (frD n ops pl (fun k => k == j || D k) fr0 m) t = if (ops[j]?).bind (·.dst) = some t then some (pl j).x else aget (frD n ops pl D fr0 m) t
  | 0, h, _ => by omega
  | m + 1, h, hk => by
    by_cases hm : j = m
    · subst hm
      have e : aget (frD n ops pl (fun k => k == j || D k) fr0 j) t = aget (frD n ops pl D fr0 j) t := frD_congr hdst j fun k hk => .inl (ne_or hk)
      simp only [frD, hj, beq_self_eq_true, Bool.true_or]
      rw [aget_putF n _ _ _ _ (hdst j), e]
    · have ih := frD_put (fr0 := fr0) hj m (by omega) fun k h1 h2 => hk k h1 (by omega)
      have hb : (m == j) = false := by simp; omega
      simp only [frD, hb, Bool.false_or]
      cases hD : D m
      · exact ih
      · simp only
        rw [aget_putF n _ _ _ _ (hdst m), aget_putF n _ _ _ _ (hdst m), ih]
        rcases hk m (by omega) (by omega) hD with h1 | h1
        · simp [h1]
        · simp [h1]
end
theorem hpD_congr {pl : Nat → PE} {D D' : Nat → Bool} {σ0 : Hp} {l : Nat} : ∀ m, (∀ k, k < m → D k = D' k ∨ ulast (pl k).upd l = none) → aget (hpD pl D σ0 m) l = aget (hpD pl D' σ0 m) l
  | 0, _ => rfl
  | m + 1, h => by
    have ih := hpD_congr (σ0 := σ0) m fun k hk => h k (by omega)
    have one : ∀ (D : Nat → Bool), ulast (pl m).upd l = none → aget (hpD pl D σ0 (m + 1)) l = aget (hpD pl D σ0 m) l := fun D hne => by
      simp only [hpD]; cases D m
      · rfl
      · simp only; rw [aget_app, hne]; simp
    rcases h m (by omega) with h1 | h1
    · simp only [hpD, h1]
      cases D' m
      · exact ih
      · simp only; rw [aget_app, aget_app, ih]
    · rw [one D h1, one D' h1, ih]
theorem hpD_put {pl : Nat → PE} {D : Nat → Bool} {σ0 : Hp} {l j : Nat} (hj : D j = false) : ∀ m, j < m → (∀ k, j < k → k < m → D k = true → ulast (pl k).upd l = none ∨ ulast (pl j).upd l = none) →
    aget (hpD pl (fun k => k == j || D k) σ0 m) l = aget ((hpD pl D σ0 m).app (pl j).upd) l
  | 0, h, _ => by omega
  | m + 1, h, hk => by
    by_cases hm : j = m
    · subst hm
      have e : aget (hpD pl (fun k => k == j || D k) σ0 j) l = aget (hpD pl D σ0 j) l := hpD_congr j fun k hk => .inl (ne_or hk)
      simp only [hpD, hj, beq_self_eq_true, Bool.true_or]
      rw [aget_app, aget_app, e]
    · have ih := hpD_put (σ0 := σ0) hj m (by omega) fun k h1 h2 => hk k h1 (by omega)
      have hb : (m == j) = false := by simp; omega
      simp only [hpD, hb, Bool.false_or]
      cases hD : D m
      · exact ih
      · simp only
        rw [aget_app, aget_app, aget_app, ih, aget_app]
        rcases hk m (by omega) (by omega) hD with h1 | h1
        · simp [h1]
        · simp [h1]

/-! ### The demand: operations that are not ordered do not meet. -/
def directs (o : Oper) : List Nat := (o.after.toList.filter (Region.binds .any)).map (·.on)
def maskOf (ms ds : List Nat) : Nat := ds.foldl (fun m d => m ||| (1 <<< d) ||| ms.getD d 0) 0
def masks : List Oper → List Nat → List Nat
  | [], acc => acc
  | o :: r, acc => masks r (acc ++ [maskOf acc (directs o)])
def okMask (ops : List Oper) (ms : List Nat) : Bool :=
  (List.range ops.length).all fun j => match ops[j]? with
    | some o => ((directs o).all fun e => decide (e < j)) && (List.range ops.length).all fun i => !(ms.getD j 0).testBit i || (directs o).contains i || (directs o).any fun e => (ms.getD e 0).testBit i
    | none => true
def noneIn (xs ys : List Nat) : Bool := xs.all fun x => !ys.contains x
def dstL (o : Oper) : List Nat := match o.dst with | some d => [d] | none => []
def pairOk (all : List Oper) (a b : Oper) (x y : PE) : Bool :=
  noneIn (dstL a) (looksL all b) && noneIn (dstL b) (looksL all a) && noneIn (dstL a) (dstL b) &&
  noneIn (x.upd.map (·.1)) y.fp && noneIn (y.upd.map (·.1)) x.fp && noneIn (x.upd.map (·.1)) (y.upd.map (·.1))
def planOk (n : Nat) (ops : List Oper) (pl : List PE) : Bool :=
  (ops.all fun o => (dstL o).all fun d => decide (d < n)) && okMask ops (masks ops []) &&
  (List.range ops.length).all fun j => (List.range j).all fun i => ((masks ops []).getD j 0).testBit i ||
    match ops[i]?, ops[j]?, pl[i]?, pl[j]? with
    | some a, some b, some x, some y => pairOk ops a b x y
    | _, _, _, _ => false

/-! ### From the walk in the text's order: what each operation does. -/
structure OpSays (C : Cx) (n : Nat) (p : Id) (ops : List Oper) (c : Nat) (fr0 : Fr) (σ0 : Hp) (pl : Nat → PE) (k : Nat) (o : Oper) : Prop where
  says : ∃ fr σ, (∀ t, aget fr t = aget (frD n ops pl (fun _ => true) fr0 k) t) ∧ (∀ l, aget σ l = aget (hpD pl (fun _ => true) σ0 k) l) ∧
    wantE ops (restr (looksL ops o) fr) o.guard = some (pl k).want ∧
    (((pl k).want = false ∧ (pl k).x = .lit undef ∧ (pl k).upd = []) ∨
      ((pl k).want = true ∧ ∃ q, DetR C (k :: c :: p) (restr (looksL ops o) fr) (restr (pl k).fp σ) o q ∧ q.x = (pl k).x ∧ q.upd = (pl k).upd))
theorem frD_pl {n : Nat} {ops : List Oper} {pl pl' : Nat → PE} {D : Nat → Bool} {fr0 : Fr} : ∀ m, (∀ k, k < m → pl k = pl' k) → frD n ops pl D fr0 m = frD n ops pl' D fr0 m
  | 0, _ => rfl
  | m + 1, h => by simp only [frD, frD_pl m fun k hk => h k (by omega), h m (by omega)]
theorem hpD_pl {pl pl' : Nat → PE} {D : Nat → Bool} {σ0 : Hp} : ∀ m, (∀ k, k < m → pl k = pl' k) → hpD pl D σ0 m = hpD pl' D σ0 m
  | 0, _ => rfl
  | m + 1, h => by simp only [hpD, hpD_pl m fun k hk => h k (by omega), h m (by omega)]
theorem opsW_says {C : Cx} {n : Nat} {p : Id} {ops : List Oper} {c : Nat} {fr0 : Fr} {σ0 : Hp} {K : List PE → Fr → Hp → Prop} : ∀ (l : List Oper) (k : Nat), ops.drop k = l → ∀ (fr : Fr) (σ : Hp) (log : List PE), log.length = k →
    (∀ pl : Nat → PE, (∀ j, j < k → log[j]? = some (pl j)) → fr = frD n ops pl (fun _ => true) fr0 k ∧ σ = hpD pl (fun _ => true) σ0 k) → opsW C n p ops c l k fr σ log K →
    ∃ (pl : Nat → PE) (lg : List PE), (∀ j, j < k → log[j]? = some (pl j)) ∧ lg = (List.range (k + l.length)).map pl ∧ K lg (frD n ops pl (fun _ => true) fr0 (k + l.length)) (hpD pl (fun _ => true) σ0 (k + l.length)) ∧
      ∀ j o, k ≤ j → ops[j]? = some o → OpSays C n p ops c fr0 σ0 pl j o
  | [], k, hd, fr, σ, log, hlen, hst, h => by
    have hpl : ∀ j, j < k → log[j]? = some (log[j]?.getD default) := fun j hj => by
      rw [List.getElem?_eq_getElem (by omega)]; simp
    obtain ⟨h1, h2⟩ := hst (fun j => log[j]?.getD default) hpl
    refine ⟨fun j => log[j]?.getD default, log, hpl, ?_, ?_, fun j o hj ho => ?_⟩
    · apply List.ext_getElem?; intro i
      simp only [List.length_nil, Nat.add_zero, List.getElem?_map]
      by_cases hi : i < k
      · rw [hpl i hi, List.getElem?_range hi]; simp
      · rw [List.getElem?_eq_none (by omega), List.getElem?_eq_none (by simp; omega)]; simp
    · simp only [List.length_nil, Nat.add_zero, ← h1, ← h2]; exact h
    · have : ops.length ≤ k := by simpa using hd
      rw [List.getElem?_eq_none (by omega)] at ho; cases ho
  | o :: r, k, hd, fr, σ, log, hlen, hst, h => by
    have hk : ops[k]? = some o := by have := congrArg (·[0]?) hd; simpa using this
    have hd' : ops.drop (k + 1) = r := by have := congrArg (List.drop 1) hd; simpa [Nat.add_comm] using this
    unfold opsW at h
    -- one more is known
    have more : ∀ (e : PE) (fr' : Fr) (σ' : Hp), (∀ pl : Nat → PE, pl k = e → fr' = putF n fr o.dst (pl k).x) → (∀ pl : Nat → PE, pl k = e → σ' = σ.app (pl k).upd) → ∀ pl : Nat → PE, (∀ j, j < k + 1 → (log ++ [e])[j]? = some (pl j)) →
        fr' = frD n ops pl (fun _ => true) fr0 (k + 1) ∧ σ' = hpD pl (fun _ => true) σ0 (k + 1) := by
      intro e fr' σ' hf hs pl hpl
      have he : pl k = e := by
        have := hpl k (by omega)
        rw [List.getElem?_append_right (by omega)] at this
        simp [hlen] at this; exact this.symm
      obtain ⟨h1, h2⟩ := hst pl fun j hj => by
        have := hpl j (by omega)
        rwa [List.getElem?_append_left (by omega)] at this
      refine ⟨?_, ?_⟩
      · simp only [frD, hk, Option.bind_some, ← h1]; exact hf pl he
      · simp only [hpD, ← h2]; exact hs pl he
    have fin : ∀ (e : PE) (fr' : Fr) (σ' : Hp), (∀ pl : Nat → PE, pl k = e → fr' = putF n fr o.dst (pl k).x) → (∀ pl : Nat → PE, pl k = e → σ' = σ.app (pl k).upd) → opsW C n p ops c r (k + 1) fr' σ' (log ++ [e]) K →
        wantE ops (restr (looksL ops o) fr) o.guard = some e.want → ((e.want = false ∧ e.x = .lit undef ∧ e.upd = []) ∨ (e.want = true ∧ ∃ q, DetR C (k :: c :: p) (restr (looksL ops o) fr) (restr e.fp σ) o q ∧ q.x = e.x ∧ q.upd = e.upd)) →
        ∃ (pl : Nat → PE) (lg : List PE), (∀ j, j < k → log[j]? = some (pl j)) ∧ lg = (List.range (k + (o :: r).length)).map pl ∧ K lg (frD n ops pl (fun _ => true) fr0 (k + (o :: r).length)) (hpD pl (fun _ => true) σ0 (k + (o :: r).length)) ∧
          ∀ j o, k ≤ j → ops[j]? = some o → OpSays C n p ops c fr0 σ0 pl j o := by
      intro e fr' σ' hf hs hrec hw hdo
      obtain ⟨pl, lg, h1, h2, h3, h4⟩ := opsW_says r (k + 1) hd' fr' σ' (log ++ [e]) (by simp [hlen]) (more e fr' σ' hf hs) hrec
      have he : pl k = e := by
        have := h1 k (by omega)
        rw [List.getElem?_append_right (by omega)] at this
        simp [hlen] at this; exact this.symm
      have h1' : ∀ j, j < k → log[j]? = some (pl j) := fun j hj => by
        have := h1 j (by omega)
        rwa [List.getElem?_append_left (by omega)] at this
      obtain ⟨g1, g2⟩ := hst pl h1'
      have hl : k + (o :: r).length = k + 1 + r.length := by simp; omega
      refine ⟨pl, lg, h1', by rw [hl]; exact h2, by rw [hl]; exact h3, fun j o' hj ho' => ?_⟩
      by_cases hjk : j = k
      · subst hjk
        rw [hk] at ho'; cases ho'
        refine ⟨fr, σ, fun t => by rw [g1], fun l => by rw [g2], by rw [he]; exact hw, ?_⟩
        rw [he]; exact hdo
      · exact h4 j o' (by omega) ho'
    split at h
    · rename_i b hb
      split at h
      · obtain ⟨q, hq, h⟩ := h
        exact fin ⟨true, q.x, q.upd, fpR C fr σ o⟩ _ _ (fun pl e => by rw [e]) (fun pl e => by rw [e]) h hb (.inr ⟨rfl, q, hq, rfl, rfl⟩)
      · exact fin ⟨false, .lit undef, [], []⟩ _ _ (fun pl e => by rw [e]) (fun pl e => by rw [e]; rfl) h hb (.inl ⟨rfl, rfl, rfl⟩)
    · exact h.elim
end
end Go.AS
