/- Runs that ask the program alone; maps. -/
import Derived.Test.YtnenknghinpliaaGreatDoorASl
namespace Go.AS
noncomputable section

/-- A run that asks nothing but the program. -/
def pureP (P : Program) {α : Type} : Sem α → Option α
  | .pure a => some a
  | .mark _ k => pureP P k
  | .program k => pureP P (k P)
  | _ => none
theorem pureP_sound {P : Program} {α : Type} : ∀ {s : Sem α} {a : α}, pureP P s = some a → ∀ w, s.run P w = .ok a w := by
  intro s
  induction s with
  | pure b => intro a h w; simp only [pureP, Option.some.injEq] at h; subst h; rfl
  | mark m k ih => intro a h w; simp only [pureP] at h; simp only [Sem.run]; exact ih h w
  | program k ih => intro a h w; simp only [pureP] at h; simp only [Sem.run]; exact ih P h w
  | _ => intro a h; simp [pureP] at h

/-- Comparisons, of structs too. -/
def cmpP (P : Program) (B : Tb) (op : BinOp) (t : TypeId) (xo yo : Operand) (x y : AV) : Option AV :=
  match cmpE B op t xo yo x y with
  | some z => some z
  | none => match valN 3 x, valN 3 y with
    | some (.agg a), some (.agg b) => match pureP P (do eqGuard op t xo yo (.agg a) (.agg b); binOp op t (.agg a) (.agg b)) with
      | some z => some (.lit z)
      | none => none
    | _, _ => none
theorem cmpP_sound {P : Program} {B : Tb} [TbOk B P] {op : BinOp} {t : TypeId} {xo yo : Operand} {E : Env} {w : World} {x y z : AV} {u v : Value} (hx : VR E x u) (hy : VR E y v) (h : cmpP P B op t xo yo x y = some z) :
    ∃ r, (do eqGuard op t xo yo u v; binOp op t u v : Sem Value).run P w = .ok r w ∧ VR E z r := by
  unfold cmpP at h
  split at h
  · rename_i z' hz; cases h; exact cmp_sound hx hy hz
  · split at h
    · rename_i a b ha hb
      have := valN_sound hx ha; subst this
      have := valN_sound hy hb; subst this
      split at h
      · rename_i r hr; cases h
        exact ⟨r, pureP_sound hr w, .lit _⟩
      · cases h
    · cases h

/-! Keys. -/
def findNowK (kd : TypeDesc) (k : Value) : List Value → Nat → Option (Option Nat)
  | [], _ => some none
  | q :: r, i => match Instr.sameNow kd k q with
    | some true => some (some i)
    | some false => findNowK kd k r (i + 1)
    | none => none
/-- A key's value. -/
def keyE (x : AV) : Option Value := match x.val? with
  | some v => some v
  | none => valN 6 x
theorem keyE_sound {E : Env} {x : AV} {v u : Value} (h : VR E x v) (k : keyE x = some u) : v = u := by
  unfold keyE at k
  split at k
  · rename_i h1; cases k; exact val_sound h h1
  · exact valN_sound h k
/-- Are two keys the same? -/
def eqK (P : Program) (B : Tb) (kt : TypeId) (k q : Value) : Option Bool := match k, q with
  | .agg xs, .agg ys => match eqArr B kt xs.toList ys.toList with
    | some b => some b
    | none => pureP P (Op.equal kt k q)
  | _, _ => pureP P (Op.equal kt k q)
theorem eqK_sound {P : Program} {B : Tb} [TbOk B P] {kt : TypeId} {k q : Value} {b : Bool} (h : eqK P B kt k q = some b) (w : World) : (Op.equal kt k q).run P w = .ok b w := by
  unfold eqK at h
  split at h
  · split at h
    · rename_i h1; cases h; exact (eqArr_sound w h1).2
    · exact pureP_sound h w
  · exact pureP_sound h w
/-- An array of plain elements may be a key. -/
def chkArr (B : Tb) (kt : TypeId) (cs : Array Value) : Bool := match ti B kt with
  | some T => match T.desc with
    | .array n e => match ti B e with
      | some U => flatD U.desc && (!U.agg && (Nat.beq U.size 1 && Nat.ble n cs.toList.length))
      | none => false
    | _ => false
  | none => false
def chkK (P : Program) (B : Tb) (empty : Bool) (kt : TypeId) (k : Value) : Option Unit := match k with
  | .agg cs => match chkArr B kt cs with
    | true => some ()
    | false => pureP P (Instr.checkKey empty 10000 kt k)
  | _ => pureP P (Instr.checkKey empty 10000 kt k)
theorem chkK_sound {P : Program} {B : Tb} [TbOk B P] {empty : Bool} {kt : TypeId} {k : Value} {u : Unit} (h : chkK P B empty kt k = some u) (w : World) : (Instr.checkKey empty 10000 kt k).run P w = .ok u w := by
  unfold chkK at h
  split at h
  · rename_i cs
    split at h
    · rename_i hc
      unfold chkArr at hc
      split at hc
      · rename_i T hT
        split at hc
        · rename_i n e hd
          split at hc
          · rename_i U hU
            simp only [Bool.and_eq_true, Bool.not_eq_true'] at hc
            obtain ⟨hf, ha, hs, hx⟩ := hc
            have hs := Nat.eq_of_beq_eq_true hs
            have hx := Nat.le_of_ble_eq_true hx
            rw [show (10000 : Nat) = 9998 + 2 from rfl, Instr.checkKey]
            simp only [Sem.run_bind, run_ti_underlying hT, hd, Result.andThen_ok, Std.Legacy.Range.forIn_eq_forIn_range', Std.Legacy.Range.size, Nat.sub_zero, Nat.add_sub_cancel, Nat.div_one]
            have hl : ∀ i ∈ List.range' 0 n 1, i < n := fun i hi => by simpa using (List.mem_range'_1.1 hi).2
            generalize List.range' 0 n 1 = l at hl ⊢
            have he : ∀ v, (Instr.checkKey empty (9998 + 1) e v).run P w = .ok () w := fun v => by
              rw [Instr.checkKey]
              simp only [Sem.run_bind, run_ti_underlying hU, Result.andThen_ok]
              unfold flatD at hf
              split at hf
              all_goals first
                | (cases hf; done)
                | (rename_i hq; rw [hq]; rfl)
            induction l with
            | nil => simp
            | cons i l ih =>
              have hi : i < n := hl i (by simp)
              have px := part_flat (P := P) hU ha w (cs := cs) (i := i) (Array.getElem?_eq_getElem (by simpa using Nat.lt_of_lt_of_le hi hx))
              have ih := ih fun j hj => hl j (by simp [hj])
              simp only [List.forIn_cons, Sem.run_bind, run_ti_size hU, hs, px, he, Result.andThen_ok, Sem.run_pure] at ih ⊢
              exact ih
          · cases hc
        · cases hc
      · cases hc
    · exact pureP_sound h w
  · exact pureP_sound h w
def askK (P : Program) (B : Tb) (kt : TypeId) (k : Value) : List Value → Nat → Option (Option Nat)
  | [], _ => some none
  | q :: r, i => match eqK P B kt k q with
    | some true => some (some i)
    | some false => askK P B kt k r (i + 1)
    | none => none
def findK (P : Program) (B : Tb) (kt : TypeId) (kd : TypeDesc) (k : Value) (ks : List Value) : Option (Option Nat) :=
  match findNowK kd k ks 0 with
  | some r => some r
  | none => askK P B kt k ks 0
def hit (es : List MapEntry) (i : Nat) (r : Option Nat) : Option (Nat × Value) :=
  match r with
  | some j => some (j, ((es[j - i]?).map (·.val)).getD undef)
  | none => none
theorem hit_succ {e : MapEntry} {es : List MapEntry} {i : Nat} {r : Option Nat} (h : ∀ j, r = some j → i + 1 ≤ j) : hit es (i + 1) r = hit (e :: es) i r := by
  cases r with
  | none => rfl
  | some j =>
    have := h j rfl
    simp only [hit]
    obtain ⟨d, rfl⟩ : ∃ d, j = i + 1 + d := ⟨j - (i + 1), by omega⟩
    rw [show i + 1 + d - (i + 1) = d by omega, show i + 1 + d - i = d + 1 by omega]; simp
theorem findNow_some {kd : TypeDesc} {k : Value} : ∀ {es : List MapEntry} {i : Nat} {r : Option Nat}, findNowK kd k (es.map (·.key)) i = some r → Instr.findNow kd k es i = some (hit es i r) ∧ ∀ j, r = some j → i ≤ j ∧ j - i < es.length
  | [], i, r, h => by cases h; exact ⟨rfl, fun _ h => by cases h⟩
  | e :: es, i, r, h => by
    rw [List.map_cons] at h
    unfold findNowK at h
    unfold Instr.findNow
    split at h
    · rename_i hs; cases h; rw [hs]; exact ⟨by simp [hit], fun j hj => by cases hj; simp⟩
    · rename_i hs; rw [hs]
      obtain ⟨h1, h2⟩ := findNow_some h
      refine ⟨by simp only; rw [h1, hit_succ fun j hj => (h2 j hj).1], fun j hj => ?_⟩
      have := h2 j hj
      simp only [List.length_cons]; omega
    · cases h
theorem findNow_none {kd : TypeDesc} {k : Value} : ∀ {es : List MapEntry} {i : Nat}, findNowK kd k (es.map (·.key)) i = none → Instr.findNow kd k es i = none
  | [], i, h => by cases h
  | e :: es, i, h => by
    rw [List.map_cons] at h
    unfold findNowK at h
    unfold Instr.findNow
    split at h
    · cases h
    · rename_i hs; rw [hs]; exact findNow_none h
    · rename_i hs; rw [hs]
theorem ask_run {P : Program} {B : Tb} [TbOk B P] {kt : TypeId} {k : Value} : ∀ {es : List MapEntry} {i : Nat} {r : Option Nat}, askK P B kt k (es.map (·.key)) i = some r → (∀ w, (Instr.findAsking kt k es i).run P w = .ok (hit es i r) w) ∧ ∀ j, r = some j → i ≤ j ∧ j - i < es.length
  | [], i, r, h => by cases h; exact ⟨fun w => rfl, fun _ h => by cases h⟩
  | e :: es, i, r, h => by
    rw [List.map_cons] at h
    unfold askK at h
    split at h
    · rename_i hs; cases h
      refine ⟨fun w => ?_, fun j hj => by cases hj; simp⟩
      unfold Instr.findAsking
      simp only [Sem.run_bind, eqK_sound hs w, Result.andThen_ok, if_true, Sem.run_pure]
      simp [hit]
    · rename_i hs
      obtain ⟨h1, h2⟩ := ask_run h
      refine ⟨fun w => ?_, fun j hj => ?_⟩
      · unfold Instr.findAsking
        simp only [Sem.run_bind, eqK_sound hs w, Result.andThen_ok, Bool.false_eq_true, if_false]
        rw [h1 w, hit_succ fun j hj => (h2 j hj).1]
      · have := h2 j hj
        simp only [List.length_cons]; omega
    · cases h
theorem find_run {P : Program} {B : Tb} [TbOk B P] {kt : TypeId} {K : TI} (hK : ti B kt = some K) {k : Value} {es : List MapEntry} {ks : List Value} (hk : es.map (·.key) = ks) {r : Option Nat} (h : findK P B kt K.desc k ks = some r) (w : World) :
    (Instr.findKey kt k es).run P w = .ok (hit es 0 r) w ∧ ∀ j, r = some j → j < es.length := by
  subst hk
  unfold findK at h
  unfold Instr.findKey
  simp only [Sem.run_bind, run_ti_underlying hK, Result.andThen_ok]
  split at h
  · rename_i q hq; cases h
    obtain ⟨h1, h2⟩ := findNow_some hq
    rw [h1]
    exact ⟨rfl, fun j hj => by have := (h2 j hj).2; omega⟩
  · rename_i hq
    rw [findNow_none hq]
    obtain ⟨h1, h2⟩ := ask_run h
    exact ⟨h1 w, fun j hj => by have := (h2 j hj).2; omega⟩

/-! Looking up. -/
def mapView (look : Nat → Option Ent) : AV → Option (List Value × List AV)
  | .lit (.map none) => some ([], [])
  | .mp l i => match look l with
    | some e => match decide (e.id = i) with
      | true => match e.obj with
        | .map _ _ _ ks vs => some (ks, vs)
        | _ => none
      | false => none
    | none => none
  | .mpv ks vs => some (ks, vs)
  | _ => none
theorem mapView_sound {E : Env} {τ : Hp} {w : World} (hh : Holds E τ w) {look : Nat → Option Ent} (hl : ∀ l e, look l = some e → aget τ l = some e) {x : AV} {v : Value} (hx : VR E x v) {ks : List Value} {vs : List AV} (h : mapView look x = some (ks, vs)) :
    (v = .map none ∧ ks = [] ∧ vs = []) ∨ ∃ b es clock us, v = .map (some b) ∧ w.heap[b]? = some (.map es clock) ∧ es.toList.map (·.key) = ks ∧ es.toList.map (·.val) = us ∧ RR E .vs vs us := by
  unfold mapView at h
  split at h
  · cases h; exact .inl ⟨hx.lit_inv, rfl, rfl⟩
  · rename_i l i
    split at h
    · rename_i e he
      split at h
      · rename_i hid
        split at h
        · rename_i pu' bs' c' ks' vs' hobj; cases h
          cases hx with
          | mp _ hρ =>
            obtain ⟨L, h1, h2⟩ := hh.own l e (hl l e he)
            rw [of_decide_eq_true hid, hρ] at h1; cases h1
            rw [hobj] at h2
            cases h2 with
            | map h hk hu hv hb hd => exact .inr ⟨_, _, _, _, rfl, h, hk, hu, hv.mono (E.sel_le _)⟩
        · cases h
      · cases h
    · cases h
  · cases h
    cases hx with
    | mpv h hk hu hv => exact .inr ⟨_, _, _, _, rfl, hh.imm _ _ h, hk, hu, hv.mono E.pure_le⟩
  · cases h
def lookupE (P : Program) (B : Tb) (T : TI) (look : Nat → Option Ent) (x key : AV) (commaOk : Bool) : Option AV :=
  match T.desc with
  | .map kt et => match keyE key, mapView look x, ti B kt, ti B et with
    | some k, some (ks, vs), some K, some U => match chkK P B ks.isEmpty kt k with
      | some _ => match findK P B kt K.desc k ks with
        | some (some j) => match vs[j]? with
          | some y => match commaOk with
            | true => some (.tup [y, .lit (.bool true)])
            | false => some y
          | none => none
        | some none => match U.zero with
          | some z => match commaOk with
            | true => some (.tup [.lit z, .lit (.bool false)])
            | false => some (.lit z)
          | none => none
        | none => none
      | none => none
    | _, _, _, _ => none
  | _ => none
theorem lookup_sound {P : Program} {B : Tb} [TbOk B P] {t : TypeId} {T : TI} (hT : ti B t = some T) {E : Env} {τ : Hp} {w : World} (hh : Holds E τ w) {look : Nat → Option Ent} (hl : ∀ l e, look l = some e → aget τ l = some e) {x key y : AV} {v k : Value}
    (hx : VR E x v) (hk : VR E key k) {c : Bool} (h : lookupE P B T look x key c = some y) : ∃ u, (Instr.lookup t v k c).run P w = .ok u w ∧ VR E y u := by
  unfold lookupE at h
  split at h
  · rename_i kt et hd
    split at h
    · rename_i kv ks vs K U hkv hmv hK hU
      have := keyE_sound hk hkv; subst this
      split at h
      · rename_i hck
        have hund := run_ti_underlying hT w
        rw [hd] at hund
        have hes : ∃ es : List MapEntry, es.map (·.key) = ks ∧ RR E .vs vs (es.map (·.val)) ∧ (∀ c, (Instr.lookup t v k c).run P w = (do
            Instr.checkKey ks.isEmpty 10000 kt k
            let (v, ok) ← match ← Instr.findKey kt k es with
              | some (_, v) => pure (v, true)
              | none => pure (← zeroValue et, false)
            pure (if c then .tuple #[v, .bool ok] else v) : Sem Value).run P w) := by
          rcases mapView_sound hh hl hx hmv with ⟨rfl, rfl, rfl⟩ | ⟨b, es, clock, us, rfl, h1, h2, h3, h4⟩
          · refine ⟨[], rfl, .vnil, fun c => ?_⟩
            simp only [Instr.lookup, Sem.run_bind, hund, Result.andThen_ok, Sem.run_pure]
            rfl
          · refine ⟨es.toList, h2, h3 ▸ h4, fun c => ?_⟩
            have hem : es.isEmpty = ks.isEmpty := by rw [← h2]; cases es; rename_i l; cases l <;> rfl
            have hg : (getObj b).run P w = .ok (.map es clock) w := by simp only [getObj, Sem.run, h1]
            simp only [Instr.lookup, Sem.run_bind, hund, Result.andThen_ok, hg, Sem.run_pure, hem]
            rfl
        obtain ⟨es, hks, hvs, hrun⟩ := hes
        split at h
        · rename_i j hj
          obtain ⟨f1, f2⟩ := find_run hK hks hj w
          split at h
          · rename_i z hz
            obtain ⟨u, hu, hzu⟩ := hvs.vs_get j z hz
            have hhit : hit es 0 (some j) = some (j, u) := by
              simp only [hit, Nat.sub_zero]
              rw [List.getElem?_map] at hu
              rw [hu]; rfl
            rw [hhit] at f1
            split at h <;> cases h
            · refine ⟨.tuple #[u, .bool true], ?_, .tup (.vcons hzu (.vcons (.lit _) .vnil))⟩
              rw [hrun]
              simp only [Sem.run_bind, chkK_sound hck w, Result.andThen_ok, f1, Sem.run_pure, if_true]
            · refine ⟨u, ?_, hzu⟩
              rw [hrun]
              simp only [Sem.run_bind, chkK_sound hck w, Result.andThen_ok, f1, Sem.run_pure, Bool.false_eq_true, if_false]
          · cases h
        · rename_i hj
          obtain ⟨f1, f2⟩ := find_run hK hks hj w
          have hhit : hit es 0 none = none := rfl
          rw [hhit] at f1
          split at h
          · rename_i z hz
            split at h <;> cases h
            · refine ⟨.tuple #[z, .bool false], ?_, .tup (.vcons (.lit _) (.vcons (.lit _) .vnil))⟩
              rw [hrun]
              simp only [Sem.run_bind, chkK_sound hck w, Result.andThen_ok, f1, run_ti_zero hU w hz, Sem.run_pure, if_true]
            · refine ⟨z, ?_, .lit _⟩
              rw [hrun]
              simp only [Sem.run_bind, chkK_sound hck w, Result.andThen_ok, f1, run_ti_zero hU w hz, Sem.run_pure, Bool.false_eq_true, if_false]
          · cases h
        · cases h
      · cases h
    · cases h
  · cases h

/-! Making, and storing. -/
def mapUpdE (P : Program) (B : Tb) (T : TI) (look : Nat → Option Ent) (x key y : AV) : Option Upd :=
  match T.desc with
  | .map kt _ => match x, keyE key, ti B kt with
    | .mp l i, some k, some K => match look l with
      | some e => match decide (e.id = i) with
        | true => match e.obj with
          | .map pu bs ck ks vs => match chkK P B false kt k with
            | some _ => match findK P B kt K.desc k ks with
              | some (some j) => match ks[j]? with
                | some q => match Instr.sameBits 10000 q k with
                  | true => some [(l, ⟨i, .map (pu && noLab y) bs ck (ks.set j k) (vs.set j y)⟩)]
                  | false => none
                | none => none
              | some none => some [(l, ⟨i, .map (pu && noLab y) (bs ++ [ck]) (ck + 1) (ks ++ [k]) (vs ++ [y])⟩)]
              | none => none
            | none => none
          | _ => none
        | false => none
      | none => none
    | _, _, _ => none
  | _ => none
theorem RR.vs_set {E : Env} {y : AV} {u : Value} (hy : VR E y u) : ∀ (xs : List AV) (j : Nat) {vs : List Value}, RR E .vs xs vs → RR E .vs (xs.set j y) (vs.set j u)
  | [], j, vs, h => by obtain rfl := h.vs_nil_inv; exact .vnil
  | x :: xs, 0, vs, h => by obtain ⟨v, vs', _, h2, rfl⟩ := h.vs_cons_inv; exact .vcons hy h2
  | x :: xs, j + 1, vs, h => by obtain ⟨v, vs', h1, h2, rfl⟩ := h.vs_cons_inv; exact .vcons h1 (RR.vs_set hy xs j h2)
theorem RR.vs_snoc {E : Env} {y : AV} {u : Value} (hy : VR E y u) : ∀ (xs : List AV) {vs : List Value}, RR E .vs xs vs → RR E .vs (xs ++ [y]) (vs ++ [u])
  | [], vs, h => by obtain rfl := h.vs_nil_inv; exact .vcons hy .vnil
  | x :: xs, vs, h => by obtain ⟨v, vs', h1, h2, rfl⟩ := h.vs_cons_inv; exact .vcons h1 (RR.vs_snoc hy xs h2)
theorem mapUpd_sound {P : Program} {B : Tb} [TbOk B P] {t : TypeId} {T : TI} (hT : ti B t = some T) {E : Env} {τ : Hp} {w : World} (hh : Holds E τ w) {look : Nat → Option Ent} (hl : ∀ l e, look l = some e → aget τ l = some e) {x key y : AV} {v k u : Value}
    (hx : VR E x v) (hk : VR E key k) (hy : VR E y u) {upd : Upd} (h : mapUpdE P B T look x key y = some upd) :
    ∃ w', (Instr.mapUpdate t v k u).run P w = .ok () w' ∧ Holds E (τ.app upd) w' ∧ Adv E τ w E (τ.app upd) w' := by
  unfold mapUpdE at h
  split at h
  · rename_i kt et hd
    split at h
    · rename_i l i kv K hkv hK
      have := keyE_sound hk hkv; subst this
      split at h
      · rename_i e he
        split at h
        · rename_i hid
          have hid := of_decide_eq_true hid
          split at h
          · rename_i pu bs ck ks vs hobj
            split at h
            · rename_i hck
              have hund := run_ti_underlying hT w
              rw [hd] at hund
              cases hx with
              | mp _ hρ =>
                obtain ⟨L, h1, h2⟩ := hh.own l e (hl l e he)
                rw [hid, hρ] at h1; cases h1
                rw [hobj] at h2
                cases h2 with
                | map hw hks hus hvs hb hnd hbs =>
                  rename_i b base sz cap es us
                  have hvs := hvs.mono (E.sel_and_le pu (noLab y))
                  have hy : VR (E.sel (pu && noLab y)) y u := by
                    cases hnl : noLab y
                    · rw [Bool.and_false]; exact hy
                    · cases pu
                      · exact hy
                      · exact hy.pure_of (by simp [noLabs, hnl])
                  have hg : (getObj b).run P w = .ok (.map es ck) w := by simp only [getObj, Sem.run, hw]
                  have hset : ∀ o : Array MapEntry × Nat, (setObj b (.map o.1 o.2)).run P w = .ok () { w with heap := w.heap.setIfInBounds b (.map o.1 o.2) } := fun o => by simp only [setObj, Sem.run, hw]
                  have hlt : b < w.heap.size := by rw [Array.getElem?_eq_some_iff] at hw; exact hw.1
                  have fin : ∀ (es' : Array MapEntry) (clock' : Nat) (bs' : List Nat) (ks' : List Value) (vs' : List AV) (us' : List Value), es'.toList.map (·.key) = ks' → es'.toList.map (·.val) = us' → RR (E.sel (pu && noLab y)) .vs vs' us' → (∀ e ∈ es'.toList, e.born < clock') →
                      (es'.toList.map (·.born)).Nodup → es'.toList.map (·.born) = bs' → (Instr.mapUpdate t (.map (some b)) k u).run P w = .ok () { w with heap := w.heap.setIfInBounds b (.map es' clock') } → upd = [(l, ⟨i, .map (pu && noLab y) bs' clock' ks' vs'⟩)] →
                      ∃ w', (Instr.mapUpdate t (.map (some b)) k u).run P w = .ok () w' ∧ Holds E (τ.app upd) w' ∧ Adv E τ w E (τ.app upd) w' := by
                    intro es' clock' bs' ks' vs' us' g1 g2 g3 g4 g5 g8 g6 g7
                    have hw' : (w.heap.setIfInBounds b (.map es' clock'))[b]? = some (.map es' clock') := by simp [hlt]
                    obtain ⟨q1, q2⟩ := hh.write (w' := { w with heap := w.heap.setIfInBounds b (.map es' clock') }) (hl l e he) (by rw [hid]; exact hρ) rfl (.map (pu && noLab y) bs' clock' ks' vs') (.map hw' g1 g2 g3 g4 g5 g8) (by simp)
                      (fun c hc => by simp only [Array.getElem?_setIfInBounds, Ne.symm hc, if_false]) rfl rfl rfl
                    rw [hid] at q1 q2
                    refine ⟨_, g6, ?_, ?_⟩ <;> (subst g7; assumption)
                  split at h
                  · rename_i j hj
                    obtain ⟨f1, f2⟩ := find_run hK hks hj w
                    have hjlt := f2 j rfl
                    split at h
                    · rename_i q hq
                      split at h
                      · rename_i hsb; cases h
                        have hq' : (es[j]?).map (·.key) = some q := by
                          rw [← hks, List.getElem?_map] at hq; simpa using hq
                        have hjs : j < es.size := by simpa using hjlt
                        have hbo : (es.modify j fun e => { e with key := k, val := u }).toList.map (·.born) = es.toList.map (·.born) := by
                          apply List.ext_getElem?; intro m
                          simp only [List.getElem?_map, Array.getElem?_toList, Array.getElem?_modify]
                          split
                          · simp [Option.map_map, Function.comp_def]
                          · rfl
                        refine fin (es.modify j fun e => { e with key := k, val := u }) ck bs _ _ (us.set j u) ?_ ?_ (RR.vs_set hy vs j hvs) ?_ ?_ (hbo.trans hbs) ?_ rfl
                        · rw [← hks]; apply List.ext_getElem?; intro m
                          simp only [List.getElem?_map, Array.getElem?_toList, Array.getElem?_modify, List.getElem?_set, List.length_map, Array.length_toList]
                          by_cases hm : j = m
                          · subst hm; simp [hjs]
                          · simp [hm]
                        · rw [← hus]; apply List.ext_getElem?; intro m
                          simp only [List.getElem?_map, Array.getElem?_toList, Array.getElem?_modify, List.getElem?_set, List.length_map, Array.length_toList]
                          by_cases hm : j = m
                          · subst hm; simp [hjs]
                          · simp [hm]
                        · intro e' he'
                          obtain ⟨m, hm⟩ := List.getElem?_of_mem he'
                          simp only [Array.getElem?_toList, Array.getElem?_modify] at hm
                          split at hm
                          · rename_i hjm; subst hjm
                            cases hem : es[j]? with
                            | none => rw [hem] at hm; cases hm
                            | some e0 =>
                              rw [hem] at hm; simp at hm; subst hm
                              exact hb e0 (List.mem_of_getElem? (by simpa using hem))
                          · exact hb e' (List.mem_of_getElem? (by simpa using hm))
                        · rw [hbo]; exact hnd
                        · have hkey : (Option.map (fun x => x.key) es[j]?).getD k = q := by rw [hq']; rfl
                          simp only [Instr.mapUpdate, Sem.run_bind, hund, Result.andThen_ok, hg, chkK_sound hck w, f1, hit, hkey, Instr.keyThatStays, hsb, if_true, Sem.run_pure]
                          exact hset (_, _)
                      · cases h
                    · cases h
                  · rename_i hj; cases h
                    obtain ⟨f1, f2⟩ := find_run hK hks hj w
                    refine fin (es.push { key := k, val := u, born := ck }) (ck + 1) (bs ++ [ck]) _ _ (us ++ [u]) (by simp [hks]) (by simp [hus]) (RR.vs_snoc hy vs hvs) ?_ ?_ (by simp [hbs]) ?_ rfl
                    · intro e' he'
                      simp only [Array.toList_push, List.mem_append, List.mem_singleton] at he'
                      rcases he' with he' | rfl
                      · have := hb e' he'; omega
                      · simp
                    · simp only [Array.toList_push, List.map_append, List.map_cons, List.map_nil]
                      rw [List.nodup_append]
                      refine ⟨hnd, by simp, fun a ha b hb' => ?_⟩
                      obtain ⟨e0, he0, rfl⟩ := List.mem_map.1 ha
                      simp at hb'; subst hb'
                      have := hb e0 he0
                      omega
                    · simp only [Instr.mapUpdate, Sem.run_bind, hund, Result.andThen_ok, hg, chkK_sound hck w, f1, hit]
                      exact hset (_, _)
                  · cases h
            · cases h
          · cases h
        · cases h
      · cases h
    · cases h
  · cases h
def mapDelE (P : Program) (B : Tb) (T : TI) (look : Nat → Option Ent) (x key : AV) : Option Upd :=
  match T.desc with
  | .map kt _ => match x, keyE key, ti B kt with
    | .mp l i, some k, some K => match look l with
      | some e => match decide (e.id = i) with
        | true => match e.obj with
          | .map pu bs ck ks vs => match chkK P B ks.isEmpty kt k with
            | some _ => match findK P B kt K.desc k ks with
              | some (some j) => some [(l, ⟨i, .map pu (bs.eraseIdx j) ck (ks.eraseIdx j) (vs.eraseIdx j)⟩)]
              | some none => some [(l, ⟨i, .map pu bs ck ks vs⟩)]
              | none => none
            | none => none
          | _ => none
        | false => none
      | none => none
    | _, _, _ => none
  | _ => none
theorem RR.vs_erase {E : Env} : ∀ (xs : List AV) (j : Nat) {vs : List Value}, RR E .vs xs vs → RR E .vs (xs.eraseIdx j) (vs.eraseIdx j)
  | [], j, vs, h => by obtain rfl := h.vs_nil_inv; exact .vnil
  | x :: xs, 0, vs, h => by obtain ⟨v, vs', _, h2, rfl⟩ := h.vs_cons_inv; exact h2
  | x :: xs, j + 1, vs, h => by obtain ⟨v, vs', h1, h2, rfl⟩ := h.vs_cons_inv; exact .vcons h1 (RR.vs_erase xs j h2)
theorem erase_map {α β : Type} (f : α → β) : ∀ (l : List α) (j : Nat), (l.eraseIdx j).map f = (l.map f).eraseIdx j
  | [], _ => rfl
  | _ :: _, 0 => rfl
  | x :: l, j + 1 => by simp only [List.eraseIdx_cons_succ, List.map_cons, erase_map f l j]
theorem mapDel_sound {P : Program} {B : Tb} [TbOk B P] {t t2 rt : TypeId} {T : TI} (hT : ti B t = some T) {E : Env} {τ : Hp} {w : World} (hh : Holds E τ w) {look : Nat → Option Ent} (hl : ∀ l e, look l = some e → aget τ l = some e) {x key : AV} {v k : Value}
    (hx : VR E x v) (hk : VR E key k) {upd : Upd} (h : mapDelE P B T look x key = some upd) :
    ∃ w', (Builtin.delete_ #[t, t2] rt #[v, k]).run P w = .ok (.tuple #[]) w' ∧ Holds E (τ.app upd) w' ∧ Adv E τ w E (τ.app upd) w' := by
  unfold mapDelE at h
  split at h
  · rename_i kt et hd
    split at h
    · rename_i l i kv K hkv hK
      have := keyE_sound hk hkv; subst this
      split at h
      · rename_i e he
        split at h
        · rename_i hid
          have hid := of_decide_eq_true hid
          split at h
          · rename_i pu bs ck ks vs hobj
            split at h
            · rename_i hck
              have hund := run_ti_underlying hT w
              rw [hd] at hund
              cases hx with
              | mp _ hρ =>
                obtain ⟨L, h1, h2⟩ := hh.own l e (hl l e he)
                rw [hid, hρ] at h1; cases h1
                rw [hobj] at h2
                cases h2 with
                | map hw hks hus hvs hb hnd hbs =>
                  rename_i b base sz cap es us
                  have hemp : es.isEmpty = ks.isEmpty := by rw [← hks]; simp [Array.isEmpty]
                  have hg : (getObj b).run P w = .ok (.map es ck) w := by simp only [getObj, Sem.run, hw]
                  have hset : ∀ o : Array MapEntry × Nat, (setObj b (.map o.1 o.2)).run P w = .ok () { w with heap := w.heap.setIfInBounds b (.map o.1 o.2) } := fun o => by simp only [setObj, Sem.run, hw]
                  have hlt : b < w.heap.size := by rw [Array.getElem?_eq_some_iff] at hw; exact hw.1
                  have fin : ∀ (es' : Array MapEntry) (bs' : List Nat) (ks' : List Value) (vs' : List AV) (us' : List Value), es'.toList.map (·.key) = ks' → es'.toList.map (·.val) = us' → RR (E.sel pu) .vs vs' us' → (∀ e ∈ es'.toList, e.born < ck) →
                      (es'.toList.map (·.born)).Nodup → es'.toList.map (·.born) = bs' → (Builtin.delete_ #[t, t2] rt #[.map (some b), k]).run P w = .ok (.tuple #[]) { w with heap := w.heap.setIfInBounds b (.map es' ck) } → upd = [(l, ⟨i, .map pu bs' ck ks' vs'⟩)] →
                      ∃ w', (Builtin.delete_ #[t, t2] rt #[.map (some b), k]).run P w = .ok (.tuple #[]) w' ∧ Holds E (τ.app upd) w' ∧ Adv E τ w E (τ.app upd) w' := by
                    intro es' bs' ks' vs' us' g1 g2 g3 g4 g5 g8 g6 g7
                    have hw' : (w.heap.setIfInBounds b (.map es' ck))[b]? = some (.map es' ck) := by simp [hlt]
                    obtain ⟨q1, q2⟩ := hh.write (w' := { w with heap := w.heap.setIfInBounds b (.map es' ck) }) (hl l e he) (by rw [hid]; exact hρ) rfl (.map pu bs' ck ks' vs') (.map hw' g1 g2 g3 g4 g5 g8) (by simp)
                      (fun c hc => by simp only [Array.getElem?_setIfInBounds, Ne.symm hc, if_false]) rfl rfl rfl
                    rw [hid] at q1 q2
                    refine ⟨_, g6, ?_, ?_⟩ <;> (subst g7; assumption)
                  split at h
                  · rename_i j hj; cases h
                    obtain ⟨f1, f2⟩ := find_run hK hks hj w
                    have hl2 : (es.eraseIdxIfInBounds j).toList = es.toList.eraseIdx j := by
                      rw [Array.eraseIdxIfInBounds]
                      have := f2 j rfl
                      split
                      · simp
                      · rename_i hn; exact absurd (by simpa using this) hn
                    refine fin (es.eraseIdxIfInBounds j) (bs.eraseIdx j) _ _ (us.eraseIdx j) ?_ ?_ (RR.vs_erase vs j hvs) ?_ ?_ (by rw [hl2, ← hbs, erase_map]) ?_ rfl
                    · rw [hl2, ← hks, erase_map]
                    · rw [hl2, ← hus, erase_map]
                    · intro e' he'; rw [hl2] at he'; exact hb e' (List.mem_of_mem_eraseIdx he')
                    · rw [hl2, erase_map]; exact hnd.sublist (List.eraseIdx_sublist ..)
                    · simp only [Builtin.delete_, List.getElem?_toArray, List.getElem?_cons_zero, List.getElem?_cons_succ, Sem.run_bind, hund, Result.andThen_ok, hg, hemp, chkK_sound hck w, f1, hit]
                      rw [hset (_, _)]; rfl
                  · rename_i hj; cases h
                    obtain ⟨f1, f2⟩ := find_run hK hks hj w
                    refine fin es bs _ _ us hks hus hvs hb hnd hbs ?_ rfl
                    simp only [Builtin.delete_, List.getElem?_toArray, List.getElem?_cons_zero, List.getElem?_cons_succ, Sem.run_bind, hund, Result.andThen_ok, hg, hemp, chkK_sound hck w, f1, hit]
                    rw [hset (_, _)]; rfl
                  · cases h
            · cases h
          · cases h
        · cases h
      · cases h
    · cases h
  · cases h
theorem makeMap_sound {P : Program} {t : TypeId} {E : Env} {τ : Hp} {w : World} (hh : Holds E τ w) {p : Id} (hp : Fresh E p) (d : Nat) : Ret P (Instr.makeMap t none) E τ w p (.mp d p) [(d, ⟨p, .map true [] 0 [] []⟩)] := by
  have hle : E.le (E.name p (.at w.heap.size 0 0 0)) := Env.name_le (hp p (List.suffix_refl _))
  obtain ⟨q1, q2⟩ := hh.new hp (.map #[] 0) 0 0 0 d (.map true [] 0 [] []) (.map (es := #[]) (clock := 0) (us := []) (by show (w.heap.push _)[w.heap.size]? = _; simp) rfl rfl .vnil (by simp) (by simp) rfl)
  exact ⟨.map (some w.heap.size), _, _, by simp [Instr.makeMap, newObj, Sem.run], .mp d (Env.name_self ..), q1, q2, Env.name_newIn⟩
/-! An entry that is there, or is made: its value, and its stamp; storing by the stamp. -/
def mapEntE (P : Program) (B : Tb) (T : TI) (look : Nat → Option Ent) (x key : AV) : Option (AV × Upd) :=
  match T.desc with
  | .map kt et => match x, keyE key, ti B kt, ti B et with
    | .mp l i, some k, some K, some U => match look l with
      | some e => match decide (e.id = i) with
        | true => match e.obj with
          | .map pu bs ck ks vs => match chkK P B false kt k with
            | some _ => match findK P B kt K.desc k ks with
              | some (some j) => match ks[j]?, vs[j]?, bs[j]? with
                | some q, some y, some b => match Instr.sameBits 10000 q k with
                  | true => some (.tup [y, .lit (.int .i64 b)], [(l, ⟨i, .map pu bs ck (ks.set j k) vs⟩)])
                  | false => none
                | _, _, _ => none
              | some none => match U.zero with
                | some z => some (.tup [.lit z, .lit (.int .i64 ck)], [(l, ⟨i, .map pu (bs ++ [ck]) (ck + 1) (ks ++ [k]) (vs ++ [.lit z])⟩)])
                | none => none
              | none => none
            | none => none
          | _ => none
        | false => none
      | none => none
    | _, _, _, _ => none
  | _ => none
theorem mapEnt_sound {P : Program} {B : Tb} [TbOk B P] {t : TypeId} {T : TI} (hT : ti B t = some T) {E : Env} {τ : Hp} {w : World} (hh : Holds E τ w) {look : Nat → Option Ent} (hl : ∀ l e, look l = some e → aget τ l = some e) {x key y : AV} {v k : Value}
    (hx : VR E x v) (hk : VR E key k) {upd : Upd} (h : mapEntE P B T look x key = some (y, upd)) :
    ∃ u w', (Instr.mapEntry t v k).run P w = .ok u w' ∧ VR E y u ∧ Holds E (τ.app upd) w' ∧ Adv E τ w E (τ.app upd) w' := by
  unfold mapEntE at h
  split at h
  · rename_i kt et hd
    split at h
    · rename_i l i kv K U hkv hK hU
      have := keyE_sound hk hkv; subst this
      split at h
      · rename_i e he
        split at h
        · rename_i hid
          have hid := of_decide_eq_true hid
          split at h
          · rename_i pu bs ck ks vs hobj
            split at h
            · rename_i hck
              have hund := run_ti_underlying hT w
              rw [hd] at hund
              cases hx with
              | mp _ hρ =>
                obtain ⟨L, h1, h2⟩ := hh.own l e (hl l e he)
                rw [hid, hρ] at h1; cases h1
                rw [hobj] at h2
                cases h2 with
                | map hw hks hus hvs hb hnd hbs =>
                  rename_i b base sz cap es us
                  have hg : (getObj b).run P w = .ok (.map es ck) w := by simp only [getObj, Sem.run, hw]
                  have hset : ∀ o : Array MapEntry × Nat, (setObj b (.map o.1 o.2)).run P w = .ok () { w with heap := w.heap.setIfInBounds b (.map o.1 o.2) } := fun o => by simp only [setObj, Sem.run, hw]
                  have hlt : b < w.heap.size := by rw [Array.getElem?_eq_some_iff] at hw; exact hw.1
                  have fin : ∀ (es' : Array MapEntry) (clock' : Nat) (bs' : List Nat) (ks' : List Value) (vs' : List AV) (us' : List Value) (u : Value), es'.toList.map (·.key) = ks' → es'.toList.map (·.val) = us' → RR (E.sel pu) .vs vs' us' → (∀ e ∈ es'.toList, e.born < clock') →
                      (es'.toList.map (·.born)).Nodup → es'.toList.map (·.born) = bs' → VR E y u → (Instr.mapEntry t (.map (some b)) k).run P w = .ok u { w with heap := w.heap.setIfInBounds b (.map es' clock') } → upd = [(l, ⟨i, .map pu bs' clock' ks' vs'⟩)] →
                      ∃ u w', (Instr.mapEntry t (.map (some b)) k).run P w = .ok u w' ∧ VR E y u ∧ Holds E (τ.app upd) w' ∧ Adv E τ w E (τ.app upd) w' := by
                    intro es' clock' bs' ks' vs' us' u g1 g2 g3 g4 g5 g8 g9 g6 g7
                    have hw' : (w.heap.setIfInBounds b (.map es' clock'))[b]? = some (.map es' clock') := by simp [hlt]
                    obtain ⟨q1, q2⟩ := hh.write (w' := { w with heap := w.heap.setIfInBounds b (.map es' clock') }) (hl l e he) (by rw [hid]; exact hρ) rfl (.map pu bs' clock' ks' vs') (.map hw' g1 g2 g3 g4 g5 g8) (by simp)
                      (fun c hc => by simp only [Array.getElem?_setIfInBounds, Ne.symm hc, if_false]) rfl rfl rfl
                    rw [hid] at q1 q2
                    refine ⟨u, _, g6, g9, ?_, ?_⟩ <;> (subst g7; assumption)
                  split at h
                  · rename_i j hj
                    obtain ⟨f1, f2⟩ := find_run hK hks hj w
                    have hjlt := f2 j rfl
                    split at h
                    · rename_i q y' b0 hq hy' hb0
                      split at h
                      · rename_i hsb; cases h
                        have hq' : (es[j]?).map (·.key) = some q := by
                          rw [← hks, List.getElem?_map] at hq; simpa using hq
                        have hbj : (es[j]?).map (·.born) = some b0 := by
                          rw [← hbs, List.getElem?_map] at hb0; simpa using hb0
                        have hjs : j < es.size := by simpa using hjlt
                        obtain ⟨u, hu, hyu⟩ := hvs.vs_get j y' hy'
                        have hbo : (es.modify j fun e => { e with key := k }).toList.map (·.born) = es.toList.map (·.born) := by
                          apply List.ext_getElem?; intro m
                          simp only [List.getElem?_map, Array.getElem?_toList, Array.getElem?_modify]
                          split
                          · simp [Option.map_map, Function.comp_def]
                          · rfl
                        have hva : (es.modify j fun e => { e with key := k }).toList.map (·.val) = es.toList.map (·.val) := by
                          apply List.ext_getElem?; intro m
                          simp only [List.getElem?_map, Array.getElem?_toList, Array.getElem?_modify]
                          split
                          · simp [Option.map_map, Function.comp_def]
                          · rfl
                        refine fin (es.modify j fun e => { e with key := k }) ck bs _ _ us (.tuple #[u, .int .i64 b0]) ?_ (hva.trans hus) hvs ?_ ?_ (hbo.trans hbs) (.tup (.vcons (hyu.mono (E.sel_le _)) (.vcons (.lit _) .vnil))) ?_ rfl
                        · rw [← hks]; apply List.ext_getElem?; intro m
                          simp only [List.getElem?_map, Array.getElem?_toList, Array.getElem?_modify, List.getElem?_set, List.length_map, Array.length_toList]
                          by_cases hm : j = m
                          · subst hm; simp [hjs]
                          · simp [hm]
                        · intro e' he'
                          obtain ⟨m, hm⟩ := List.getElem?_of_mem he'
                          simp only [Array.getElem?_toList, Array.getElem?_modify] at hm
                          split at hm
                          · rename_i hjm; subst hjm
                            cases hem : es[j]? with
                            | none => rw [hem] at hm; cases hm
                            | some e0 =>
                              rw [hem] at hm; simp at hm; subst hm
                              exact hb e0 (List.mem_of_getElem? (by simpa using hem))
                          · exact hb e' (List.mem_of_getElem? (by simpa using hm))
                        · rw [hbo]; exact hnd
                        · have hkey : (Option.map (fun x => x.key) es[j]?).getD k = q := by rw [hq']; rfl
                          have hval : (Option.map (fun x => x.val) (es.toList[j - 0]?)).getD undef = u := by
                            rw [← hus, List.getElem?_map] at hu
                            rw [Nat.sub_zero, hu]; rfl
                          simp only [Instr.mapEntry, Sem.run_bind, hund, Result.andThen_ok, hg, chkK_sound hck w, f1, hit, hkey, hval, Instr.keyThatStays, hsb, if_true, Sem.run_pure, hset (_, _)]
                          have hbj2 : (es[j]?).map (fun x => (x.born : Int)) = some (b0 : Int) := by
                            cases hc : es[j]? with
                            | none => rw [hc] at hbj; cases hbj
                            | some e0 => rw [hc] at hbj; simp at hbj ⊢; omega
                          rw [hbj2]; rfl
                      · cases h
                    · cases h
                  · rename_i hj
                    obtain ⟨f1, f2⟩ := find_run hK hks hj w
                    split at h
                    · rename_i z hz; cases h
                      refine fin (es.push { key := k, val := z, born := ck }) (ck + 1) (bs ++ [ck]) _ _ (us ++ [z]) (.tuple #[z, .int .i64 ck]) (by simp [hks]) (by simp [hus]) (RR.vs_snoc (.lit z) vs hvs) ?_ ?_ (by simp [hbs]) (.tup (.vcons (.lit _) (.vcons (.lit _) .vnil))) ?_ rfl
                      · intro e' he'
                        simp only [Array.toList_push, List.mem_append, List.mem_singleton] at he'
                        rcases he' with he' | rfl
                        · have := hb e' he'; omega
                        · simp
                      · simp only [Array.toList_push, List.map_append, List.map_cons, List.map_nil]
                        rw [List.nodup_append]
                        refine ⟨hnd, by simp, fun a ha b hb' => ?_⟩
                        obtain ⟨e0, he0, rfl⟩ := List.mem_map.1 ha
                        simp at hb'; subst hb'
                        have := hb e0 he0
                        omega
                      · simp only [Instr.mapEntry, Sem.run_bind, hund, Result.andThen_ok, hg, chkK_sound hck w, f1, hit, run_ti_zero hU w hz, hset (_, _), Sem.run_pure]
                        rfl
                    · cases h
                  · cases h
            · cases h
          · cases h
        · cases h
      · cases h
    · cases h
  · cases h
def bornAt (n : Int) : List Nat → Nat → Option Nat
  | [], _ => none
  | b :: r, j => match decide ((b : Int) = n) with
    | true => some j
    | false => bornAt n r (j + 1)
theorem bornAt_find {n : Int} : ∀ {es : List MapEntry} {i j : Nat}, bornAt n (es.map (·.born)) i = some j → i ≤ j ∧ es.findIdx? (fun e => (e.born : Int) == n) = some (j - i) ∧ j - i < es.length
  | [], i, j, h => by cases h
  | e :: es, i, j, h => by
    rw [List.map_cons] at h
    unfold bornAt at h
    split at h
    · rename_i hb; cases h
      have hb := of_decide_eq_true hb
      refine ⟨Nat.le_refl _, ?_, by simp⟩
      simp [List.findIdx?_cons, hb]
    · rename_i hb
      have hb := of_decide_eq_false hb
      obtain ⟨h1, h2, h3⟩ := bornAt_find h
      refine ⟨by omega, ?_, by simp only [List.length_cons]; omega⟩
      have : ((e.born : Int) == n) = false := by simpa using hb
      rw [List.findIdx?_cons, this, h2]
      simp; omega
def entStoreE (look : Nat → Option Ent) (x s y : AV) : Option Upd :=
  match x, s with
  | .mp l i, .lit (.int _ n) => match look l with
    | some e => match decide (e.id = i) with
      | true => match e.obj with
        | .map pu bs ck ks vs => match bornAt n bs 0 with
          | some j => some [(l, ⟨i, .map (pu && noLab y) bs ck ks (vs.set j y)⟩)]
          | none => none
        | _ => none
      | false => none
    | none => none
  | _, _ => none
theorem entStore_sound {P : Program} {t : TypeId} {E : Env} {τ : Hp} {w : World} (hh : Holds E τ w) {look : Nat → Option Ent} (hl : ∀ l e, look l = some e → aget τ l = some e) {x s y : AV} {v sv u : Value}
    (hx : VR E x v) (hs : VR E s sv) (hy : VR E y u) {upd : Upd} (h : entStoreE look x s y = some upd) :
    ∃ w', (Instr.entryStore t v sv u).run P w = .ok () w' ∧ Holds E (τ.app upd) w' ∧ Adv E τ w E (τ.app upd) w' := by
  unfold entStoreE at h
  split at h
  · rename_i l i n0 n
    have := hs.lit_inv; subst this
    split at h
    · rename_i e he
      split at h
      · rename_i hid
        have hid := of_decide_eq_true hid
        split at h
        · rename_i pu bs ck ks vs hobj
          split at h
          · rename_i j hj; cases h
            cases hx with
            | mp _ hρ =>
              obtain ⟨L, h1, h2⟩ := hh.own l e (hl l e he)
              rw [hid, hρ] at h1; cases h1
              rw [hobj] at h2
              cases h2 with
              | map hw hks hus hvs hb hnd hbs =>
                rename_i b base sz cap es us
                have hvs := hvs.mono (E.sel_and_le pu (noLab y))
                have hy : VR (E.sel (pu && noLab y)) y u := by
                  cases hnl : noLab y
                  · rw [Bool.and_false]; exact hy
                  · cases pu
                    · exact hy
                    · exact hy.pure_of (by simp [noLabs, hnl])
                rw [← hbs] at hj
                obtain ⟨_, hf, hjl⟩ := bornAt_find hj
                rw [Nat.sub_zero] at hf hjl
                have hjs : j < es.size := by simpa using hjl
                have hlt : b < w.heap.size := by rw [Array.getElem?_eq_some_iff] at hw; exact hw.1
                have hg : (getObj b).run P w = .ok (.map es ck) w := by simp only [getObj, Sem.run, hw]
                have hset : ∀ o : Array MapEntry × Nat, (setObj b (.map o.1 o.2)).run P w = .ok () { w with heap := w.heap.setIfInBounds b (.map o.1 o.2) } := fun o => by simp only [setObj, Sem.run, hw]
                have hfa : es.findIdx? (fun e => (e.born : Int) == n) = some j := by rw [← List.findIdx?_toArray] at hf; simpa using hf
                have hbo : (es.modify j fun e => { e with val := u }).toList.map (·.born) = es.toList.map (·.born) := by
                  apply List.ext_getElem?; intro m
                  simp only [List.getElem?_map, Array.getElem?_toList, Array.getElem?_modify]
                  split
                  · simp [Option.map_map, Function.comp_def]
                  · rfl
                have hke : (es.modify j fun e => { e with val := u }).toList.map (·.key) = es.toList.map (·.key) := by
                  apply List.ext_getElem?; intro m
                  simp only [List.getElem?_map, Array.getElem?_toList, Array.getElem?_modify]
                  split
                  · simp [Option.map_map, Function.comp_def]
                  · rfl
                have hw' : (w.heap.setIfInBounds b (.map (es.modify j fun e => { e with val := u }) ck))[b]? = some (.map (es.modify j fun e => { e with val := u }) ck) := by simp [hlt]
                obtain ⟨q1, q2⟩ := hh.write (w' := { w with heap := w.heap.setIfInBounds b (.map (es.modify j fun e => { e with val := u }) ck) }) (hl l e he) (by rw [hid]; exact hρ) rfl (.map (pu && noLab y) bs ck ks (vs.set j y))
                  (.map (us := us.set j u) hw' (hke.trans hks) (by
                    rw [← hus]; apply List.ext_getElem?; intro m
                    simp only [List.getElem?_map, Array.getElem?_toList, Array.getElem?_modify, List.getElem?_set, List.length_map, Array.length_toList]
                    by_cases hm : j = m
                    · subst hm; simp [hjs]
                    · simp [hm]) (RR.vs_set hy vs j hvs) (by
                    intro e' he'
                    obtain ⟨m, hm⟩ := List.getElem?_of_mem he'
                    simp only [Array.getElem?_toList, Array.getElem?_modify] at hm
                    split at hm
                    · rename_i hjm; subst hjm
                      cases hem : es[j]? with
                      | none => rw [hem] at hm; cases hm
                      | some e0 =>
                        rw [hem] at hm; simp at hm; subst hm
                        exact hb e0 (List.mem_of_getElem? (by simpa using hem))
                    · exact hb e' (List.mem_of_getElem? (by simpa using hm))) (by rw [hbo]; exact hnd) (hbo.trans hbs)) (by simp)
                  (fun c hc => by simp only [Array.getElem?_setIfInBounds, Ne.symm hc, if_false]) rfl rfl rfl
                rw [hid] at q1 q2
                refine ⟨_, ?_, q1, q2⟩
                simp only [Instr.entryStore, Sem.run_bind, hg, Result.andThen_ok, asInt, asIntOf, Sem.run_pure, hfa]
                exact hset (_, _)
          · cases h
        · cases h
      · cases h
    · cases h
  · cases h
/-! Slices that are made. -/
def makeSliceE (B : Tb) (T : TI) (n c : Int) (d : Nat) (p : Id) : Option Res :=
  match T.desc with
  | .slice e => match ti B e with
    | some U => match zeroE B U e with
      | some z => match decide (0 ≤ n ∧ n ≤ c ∧ c ≤ 1152921504606846976 ∧ c.toNat * U.bytes ≤ 140737488355328 ∧ z.fsz = U.size ∧ 0 < U.size) with
        | true => some ⟨.slc d p 0 n.toNat, [(d, ⟨p, .row true U.size (List.replicate n.toNat z)⟩)], true⟩
        | false => none
      | none => none
    | none => none
  | _ => none
theorem zeros_list (zero : Array Value) (hz : 0 < zero.size) : ∀ n : Nat, ((Array.range (n * zero.size)).map fun i => zero[i % zero.size]!).toList = (List.replicate n zero.toList).flatten
  | 0 => by simp
  | n + 1 => by
    have ih := zeros_list zero hz n
    simp only [Array.toList_map, Array.toList_range] at ih ⊢
    rw [Nat.succ_mul, List.range_add, List.map_append, ih, List.replicate_succ', List.flatten_append]
    congr 1
    simp only [List.map_map, List.flatten_cons, List.flatten_nil, List.append_nil]
    apply List.ext_getElem?
    intro j
    simp only [List.getElem?_map, Array.getElem?_toList]
    by_cases hj : j < zero.size
    · rw [List.getElem?_range hj]
      simp only [Option.map_some, Function.comp]
      rw [Nat.mul_comm, Nat.mul_add_mod, Nat.mod_eq_of_lt hj, getElem!_pos zero j hj, Array.getElem?_eq_getElem hj]
    · rw [List.getElem?_eq_none (by simp; omega), Array.getElem?_eq_none (by omega)]; rfl
theorem RR.cs_replicate {E : Env} {z : AV} {l : List Value} (h : RR E .cs [z] l) : ∀ n : Nat, RR E .cs (List.replicate n z) (List.replicate n l).flatten
  | 0 => .cnil
  | n + 1 => by
    rw [List.replicate_succ, List.replicate_succ, List.flatten_cons]
    obtain ⟨v, cs', h1, h2, rfl⟩ := h.cs_cons_inv
    obtain rfl := h2.cs_nil_inv
    rw [List.append_nil] at *
    exact .ccons h1 (RR.cs_replicate h n)
theorem run_askRoom' {P : Program} {w : World} (n : Nat) : (askRoom n).run P w = .ok () w := by unfold askRoom; split <;> rfl
theorem makeSlice_sound {P : Program} {B : Tb} [TbOk B P] {t : TypeId} {T : TI} (hT : ti B t = some T) {E : Env} {τ : Hp} {w : World} (hh : Holds E τ w) {p : Id} (hp : Fresh E p) {k k' : IntKind} {n c : Int} {d : Nat} {r : Res} (h : makeSliceE B T n c d p = some r) :
    Ret P (Instr.makeSlice t (.int k n) (.int k' c)) E τ w p r.x r.upd := by
  unfold makeSliceE at h
  split at h
  · rename_i e hd
    split at h
    · rename_i U hU
      split at h
      · rename_i z hz
        split at h
        · rename_i hcond; cases h
          obtain ⟨h0, h1, h2, h3, h4, h5⟩ := of_decide_eq_true hcond
          obtain ⟨zv, hz1, hz2, hz3⟩ := zero_sound hz
          obtain ⟨iU, hiU, hi1, hi2, hi3⟩ := run_ti_info hU w
          have hzs : zv.cells.size = U.size := by
            have := (hz3 E).cs_length
            simp only [AV.fszs, Array.length_toList] at this
            omega
          have hle : E.le (E.name p (.at w.heap.size 0 U.size c.toNat)) := Env.name_le (hp p (List.suffix_refl _))
          have hwl : IntKind.i64.wrap n = n := wrap_inR (by
            have e1 : (-(2 ^ (IntKind.i64.bits - 1) : Int)) = -9223372036854775808 := by decide
            have e2 : (2 ^ (IntKind.i64.bits - 1) : Int) = 9223372036854775808 := by decide
            have g1 : -(2 ^ (IntKind.i64.bits - 1) : Int) ≤ n := by rw [e1]; omega
            have g2 : n < (2 ^ (IntKind.i64.bits - 1) : Int) := by rw [e2]; omega
            show (decide (-(2 ^ (IntKind.i64.bits - 1) : Int) ≤ n) && decide (n < (2 ^ (IntKind.i64.bits - 1) : Int))) = true
            rw [decide_eq_true g1, decide_eq_true g2]; rfl)
          have hwc : IntKind.i64.wrap c = c := wrap_inR (by
            have e1 : (-(2 ^ (IntKind.i64.bits - 1) : Int)) = -9223372036854775808 := by decide
            have e2 : (2 ^ (IntKind.i64.bits - 1) : Int) = 9223372036854775808 := by decide
            have g1 : -(2 ^ (IntKind.i64.bits - 1) : Int) ≤ c := by rw [e1]; omega
            have g2 : c < (2 ^ (IntKind.i64.bits - 1) : Int) := by rw [e2]; omega
            show (decide (-(2 ^ (IntKind.i64.bits - 1) : Int) ≤ c) && decide (c < (2 ^ (IntKind.i64.bits - 1) : Int))) = true
            rw [decide_eq_true g1, decide_eq_true g2]; rfl)
          generalize hcells : ((Array.range (c.toNat * zv.cells.size)).map fun i => zv.cells[i % zv.cells.size]!) = cells
          have hlist : cells.toList = (List.replicate c.toNat zv.cells.toList).flatten := by rw [← hcells]; exact zeros_list zv.cells (by omega) c.toNat
          have hsize : cells.size = c.toNat * U.size := by rw [← hcells, Array.size_map, Array.size_range, hzs]
          have hrun : (Instr.makeSlice t (.int k n) (.int k' c)).run P w = .ok (.slice (some ⟨w.heap.size, 0, none⟩) n.toNat c.toNat) (World.alloc w (.cells cells e)) := by
            have hb : ¬ ((U.bytes : Int) * c > 2 ^ 48) := by
              have : ((c.toNat * U.bytes : Nat) : Int) ≤ 140737488355328 := by omega
              have hc : ((c.toNat : Nat) : Int) = c := by omega
              rw [Int.natCast_mul, hc, Int.mul_comm] at this
              omega
            have hnc : ¬ c < 0 := by omega
            have hnn : ¬ n < 0 := by omega
            have hnl : ¬ n > c := by omega
            have hpow : (2 : Int) ^ 48 = 281474976710656 := by decide
            by_cases hz0 : c.toNat * U.size = 0
            · have hce : ((Array.range 0).map fun i => (#[] : Array Value)[i % (#[] : Array Value).size]!) = cells := by
                have : cells = #[] := Array.eq_empty_of_size_eq_zero (by omega)
                rw [this]; simp
              simp only [Instr.makeSlice, asInt, asIntOf, Sem.run_bind, Sem.run_pure, run_ti_underlying hT, Result.andThen_ok, hd, hiU, hi2, hwl, hwc, hnc, hnn, hnl, hb, decide_false, Bool.or_self, Bool.false_eq_true, if_false, run_askRoom', run_ti_size hU, hz0, if_true, newRow, hce, run_newObj]
              rfl
            · have hce : ((Array.range (c.toNat * U.size)).map fun i => zv.cells[i % zv.cells.size]!) = cells := by
                rw [← hcells, hzs]
              simp only [Instr.makeSlice, asInt, asIntOf, Sem.run_bind, Sem.run_pure, run_ti_underlying hT, Result.andThen_ok, hd, hiU, hi2, hwl, hwc, hnc, hnn, hnl, hb, decide_false, Bool.or_self, Bool.false_eq_true, if_false, run_askRoom', run_ti_size hU, hz0, run_ti_zero hU _ hz1, newRow, hce, run_newObj]
              rfl
          obtain ⟨q1, q2⟩ := hh.new hp (.cells cells e) 0 U.size c.toNat d (.row true U.size (List.replicate n.toNat z))
            (.row (cs := (List.replicate n.toNat zv.cells.toList).flatten) (rest := (List.replicate (c.toNat - n.toNat) zv.cells.toList).flatten) (c := cells) (t := e) (fz := (0, 0)) (by show (w.heap.push _)[w.heap.size]? = _; simp)
              (RR.cs_replicate (hz3 _) _) (by rw [hlist, List.drop_zero, ← List.flatten_append, List.replicate_append_replicate]; congr 2; omega)
              (fun y hy => by rw [List.eq_of_mem_replicate hy]; exact h4) (by simp; omega) (by rw [hsize]; omega) (free_zero _ _)
              (fun u hu => by
                obtain ⟨l, hl1, hl2⟩ := List.mem_flatten.1 hu
                rw [List.eq_of_mem_replicate hl1] at hl2
                exact hz2 u hl2))
          refine ⟨_, _, _, hrun, ?_, q1, q2, Env.name_newIn⟩
          have hs := RR.slc (E := E.name p (.at w.heap.size 0 U.size c.toNat)) d (i := p) (off := 0) (len := n.toNat) (c := c.toNat) (Env.name_self ..) (by omega) (by omega)
          simpa using hs
        · cases h
      · cases h
    · cases h
  · cases h

def capE (T : TI) : AV → Option Nat
  | .lit v => match T.desc, v with
    | .slice _, .slice _ _ c => some c
    | _, _ => none
  | .lst ex _ xs => match T.desc, ex with
    | .slice _, true => some xs.length
    | _, _ => none
  | _ => none
theorem cap_sound {P : Program} {B : Tb} [TbOk B P] {t rt : TypeId} {T : TI} (hT : ti B t = some T) {E : Env} {x : AV} {v : Value} (hx : VR E x v) {n : Nat} (h : capE T x = some n) (w : World) : (Builtin.cap_ #[t] rt #[v]).run P w = .ok (.int .i64 n) w := by
  unfold capE at h
  split at h
  · have := hx.lit_inv; subst this
    split at h
    · rename_i hd; cases h
      simp [Builtin.cap_, run_ti_underlying hT, hd, goInt]
    · cases h
  · split at h
    · rename_i hd; cases h
      rcases lst_invP hx with ⟨rfl, a, c, rfl, h0⟩ | ⟨b, off, cp, c, t', fz, cs, rest, rfl, h1, h2, h3, h4, h5, h6, h7⟩
      · rw [h0 rfl]; simp [Builtin.cap_, run_ti_underlying hT, hd, goInt]
      · rw [h6 rfl]; simp [Builtin.cap_, run_ti_underlying hT, hd, goInt]
    · cases h
  · cases h

/-! So many zeros appended to nothing. -/
def emptyS : AV → Bool
  | .lit v => match v with
    | .slice _ 0 0 => true
    | _ => false
  | .lst true _ [] => true
  | _ => false
def appendZE (B : Tb) (T T2 : TI) (dst src : AV) (d : Nat) (pre : Id) : Option Res :=
  match T.desc, T2.desc with
  | .slice e, .int _ => match ti B e, src with
    | some U, .lit (.int _ n) => match zeroE B U e, emptyS dst with
      | some z, true => match decide (0 < n ∧ n.toNat * U.bytes ≤ 140737488355328 ∧ n.toNat ≤ 1152921504606846976 ∧ z.fsz = U.size ∧ 0 < U.size) with
        | true => some ⟨.slc d pre 0 n.toNat, [(d, ⟨pre, .row true U.size (List.replicate n.toNat z)⟩)], true⟩
        | false => none
      | _, _ => none
    | _, _ => none
  | _, _ => none
theorem i64_small {n : Nat} (h : n ≤ 1152921504606846976) : IntKind.i64.wrap (n : Int) = n := wrap_inR (by
  have e1 : (-(2 ^ (IntKind.i64.bits - 1) : Int)) = -9223372036854775808 := by decide
  have e2 : (2 ^ (IntKind.i64.bits - 1) : Int) = 9223372036854775808 := by decide
  have g1 : -(2 ^ (IntKind.i64.bits - 1) : Int) ≤ n := by rw [e1]; omega
  have g2 : (n : Int) < (2 ^ (IntKind.i64.bits - 1) : Int) := by rw [e2]; omega
  show (decide (-(2 ^ (IntKind.i64.bits - 1) : Int) ≤ (n : Int)) && decide ((n : Int) < (2 ^ (IntKind.i64.bits - 1) : Int))) = true
  rw [decide_eq_true g1, decide_eq_true g2]; rfl)
theorem appendZ_sound {P : Program} {B : Tb} [TbOk B P] {t t2 rt : TypeId} {T T2 : TI} (hT : ti B t = some T) (hT2 : ti B t2 = some T2) {E : Env} {τ : Hp} {w : World} (hh : Holds E τ w) {dst src : AV} {d : Nat} {pre : Id} (hp : Fresh E pre) {dv sv : Value} (hdv : VR E dst dv) (hsv : VR E src sv) {r : Res}
    (h : appendZE B T T2 dst src d pre = some r) : Ret P (Builtin.append_ #[t, t2] rt #[dv, sv]) E τ w pre r.x r.upd := by
  unfold appendZE at h
  split at h
  · rename_i e k hd hd2
    split at h
    · rename_i U k' n hU
      have := hsv.lit_inv; subst this
      split at h
      · rename_i z hz hxs
        split at h
        · rename_i hcond; cases h
          obtain ⟨h0, h1, h2, h3, h4⟩ := of_decide_eq_true hcond
          obtain ⟨zv, hz1, hz2, hz3⟩ := zero_sound hz
          obtain ⟨iU, hiU, hi1, hi2, hi3⟩ := run_ti_info hU w
          obtain ⟨iU2, hiU2, hj1, hj2, hj3⟩ := run_ti_info hU { w with drawn := w.drawn + 1 }
          have hzs : zv.cells.size = U.size := by
            have := (hz3 E).cs_length
            simp only [AV.fszs, Array.length_toList] at this
            omega
          obtain ⟨m, rfl⟩ : ∃ m : Nat, n = m := ⟨n.toNat, by omega⟩
          simp only [Int.toNat_natCast] at h1 h2 ⊢
          obtain ⟨a, rfl⟩ : ∃ a : Option Addr, dv = .slice a 0 0 := by
            unfold emptyS at hxs
            split at hxs
            · have := hdv.lit_inv; subst this
              split at hxs
              · exact ⟨_, rfl⟩
              · cases hxs
            · rcases lst_invP hdv with ⟨_, a, c, rfl, hc⟩ | ⟨b, off, cp, c, t', fz, cs, rest, rfl, g1, g2, g3, g4, g5, g6, g7⟩
              · rw [hc rfl]; exact ⟨_, rfl⟩
              · rw [g6 rfl]; exact ⟨_, rfl⟩
            · cases hxs
          have hnc := nextslicecap_le (need := m) (old := 0) (by omega)
          have hroom : ¬ (Builtin.nextslicecap m 0 * U.bytes > 2 ^ 48) := by
            have hm : Builtin.nextslicecap m 0 * U.bytes ≤ 2 * m * U.bytes := Nat.mul_le_mul_right _ hnc
            rw [Nat.mul_assoc] at hm
            have hpow : (2 : Nat) ^ 48 = 281474976710656 := by decide
            omega
          obtain ⟨newCap, hcut, hge⟩ : ∃ newCap, (choose (.appendCap m 0 e)).run P w = .ok newCap { w with drawn := w.drawn + 1 } ∧ m ≤ newCap := by
            refine ⟨(Question.appendCap m 0 e).cut (w.tape w.drawn (.appendCap m 0 e)), ?_, ?_⟩
            · rw [run_choose]; simp only [Question.forced, Bool.false_eq_true, if_false]
            · simp only [Question.cut]; omega
          generalize hcells : Builtin.zeroCells zv.cells m ++ Builtin.zeroCells zv.cells (newCap - m) = cells
          have hlist : cells.toList = (List.replicate m zv.cells.toList).flatten ++ (List.replicate (newCap - m) zv.cells.toList).flatten := by
            rw [← hcells, Array.toList_append]
            unfold Builtin.zeroCells
            rw [zeros_list zv.cells (by omega), zeros_list zv.cells (by omega)]
          have hsize : cells.size = newCap * U.size := by
            rw [← hcells]; simp only [Builtin.zeroCells, Array.size_append, Array.size_map, Array.size_range, hzs, ← Nat.add_mul]
            rw [show m + (newCap - m) = newCap by omega]
          have hrun : (Builtin.append_ #[t, t2] rt #[.slice a 0 0, .int k' m]).run P w = .ok (.slice (some ⟨w.heap.size, 0, none⟩) m newCap) (World.alloc { w with drawn := w.drawn + 1 } (.cells cells e)) := by
            have hneg : ¬ ((m : Int) < 0) := by omega
            have hbig : ¬ ((m : Int) * U.bytes > 2 ^ 48) := by
              have : ((m * U.bytes : Nat) : Int) ≤ 140737488355328 := by omega
              have hpow : (2 : Int) ^ 48 = 281474976710656 := by decide
              rw [Int.natCast_mul] at this; omega
            have hle : ¬ (m ≤ 0) := by omega
            have hmax : ¬ ((m : Int) > IntKind.i64.max) := by
              have : IntKind.i64.max = 9223372036854775807 := by decide
              omega
            have hms : ¬ (m * U.size = 0) := by
              intro h; rcases Nat.mul_eq_zero.1 h with h | h <;> omega
            have hold : ∀ w', (Builtin.firstCells U.size 0 (.slice a 0 0)).run P w' = .ok #[] w' := fun w' => by
              cases a <;> simp [Builtin.firstCells, loadCells, loadCellsFrom]
            simp only [Builtin.append_, List.getElem?_toArray, List.getElem?_cons_zero, List.getElem?_cons_succ, Sem.run_bind, run_ti_underlying hT, Result.andThen_ok, hd, run_ti_size hU, run_ti_underlying hT2, hd2, Sem.run_pure, asInt, asIntOf, i64_small h2,
              hneg, if_false, if_true, hiU, hi2, hbig, Int.toNat_natCast, Nat.zero_add, hle, hmax, false_and, hroom, hcut, hiU2, hj2, run_askRoom', hold, Bool.not_true, Bool.false_eq_true, hms, run_ti_zero hU _ hz1, newRow, run_newObj, Array.empty_append, hcells]
            rfl
          have hh1 : Holds E τ { w with drawn := w.drawn + 1 } := hh.world rfl
          have hle : E.le (E.name pre (.at w.heap.size 0 U.size newCap)) := Env.name_le (hp pre (List.suffix_refl _))
          obtain ⟨q1, q2⟩ := hh1.new hp (.cells cells e) 0 U.size newCap d (.row true U.size (List.replicate m z))
            (.row (cs := (List.replicate m zv.cells.toList).flatten) (rest := (List.replicate (newCap - m) zv.cells.toList).flatten) (c := cells) (t := e) (fz := (0, 0)) (by show (w.heap.push _)[w.heap.size]? = _; simp)
              (RR.cs_replicate (hz3 _) _) (by rw [hlist, List.drop_zero])
              (fun y hy => by rw [List.eq_of_mem_replicate hy]; exact h3) (by simp; omega) (by rw [hsize]; omega) (free_zero _ _)
              (fun u hu => by
                obtain ⟨l, hl1, hl2⟩ := List.mem_flatten.1 hu
                rw [List.eq_of_mem_replicate hl1] at hl2
                exact hz2 u hl2))
          refine ⟨_, _, _, hrun, ?_, q1, (Adv.drew E τ w (w.drawn + 1)).trans q2, Env.name_newIn⟩
          have hs := RR.slc (E := E.name pre (.at w.heap.size 0 U.size newCap)) d (i := pre) (off := 0) (len := m) (c := newCap) (Env.name_self ..) (by omega) (by omega)
          simpa using hs
        · cases h
      · cases h
    · cases h
  · cases h
end
end Go.AS
