/- Appends; new slices. -/
import Derived.Test.YtnenknghinpliaaGreatDoorASg
namespace Go.AS
noncomputable section

/-- A piece at a block that was owned before: another name, another view. -/
theorem Holds.move {E : Env} {σ : Hp} {w w' : World} (hh : Holds E σ w) {l : Nat} {e : Ent} {L L' : Loc} {b : Nat} (he : aget σ l = some e) (hL : E.ρ e.id = some L) (hb : L.blk? = some b) (hb' : L'.blk? = some b)
    {p : Id} (hp : Fresh E p) (ob : AObj) (hob : ObjR (E.name p L') w' ob L') (hs : w'.heap.size = w.heap.size) (hk : ∀ c, c ≠ b → w'.heap[c]? = w.heap[c]?) (ho : w'.os = w.os) (ht : w'.tape = w.tape) (hou : w'.output = w.output) :
    Holds (E.name p L') (aset σ l ⟨p, ob⟩) w' ∧ Adv E σ w (E.name p L') (aset σ l ⟨p, ob⟩) w' := by
  have hle : E.le (E.name p L') := Env.name_le (hp p (List.suffix_refl _))
  have hob' : Own E σ b := ⟨l, e, L, he, hL, hb⟩
  have hown : ∀ c, Own (E.name p L') (aset σ l ⟨p, ob⟩) c → Own E σ c := fun c hc => by
    rcases own_aset hc with ⟨L2, h1, h2⟩ | h1
    · rw [Env.name_self] at h1; cases h1
      rw [hb'] at h2; cases h2; exact hob'
    · exact h1.le hh hle
  refine ⟨⟨fun c o h => ?_, fun l' e' h => ?_, fun c hc => hh.apart c (hown c hc), ?_⟩, ⟨hle, ho, ht, hou, by omega, fun c _ hc => hk c (fun e => hc (e ▸ hob')), fun c hc => .inl (hown c hc), fun c hc => .inl hc⟩⟩
  · rw [hk c (fun e => by have := hh.apart b hob'; rw [← e] at this; have h' : E.m c = some o := h; rw [h'] at this; cases this)]; exact hh.imm c o h
  · rw [aget_aset] at h
    split at h
    · cases h; exact ⟨L', Env.name_self .., hob⟩
    · rename_i hne
      obtain ⟨L2, h1, h2⟩ := hh.own l' e' h
      exact ⟨L2, hle.ρ _ _ h1, h2.keep hle fun c hc => hk c fun ec => hne (hh.inj l' l e' e L2 L b h he h1 hL (ec ▸ hc) hb)⟩
  · intro l1 l2 e1 e2 L1 L2 c h1 h2 h3 h4 h5 h6
    rw [aget_aset] at h1 h2
    split at h1 <;> split at h2
    · subst_vars; rfl
    · rename_i e1 _; cases h1
      rw [Env.name_self] at h3; cases h3
      obtain ⟨M2, h8, _⟩ := hh.own _ _ h2
      have := hle.ρ _ _ h8; rw [h4] at this; cases this
      rw [hb'] at h5; cases h5
      exact e1.trans (hh.inj _ _ _ _ _ _ _ he h2 hL h8 hb h6)
    · rename_i e2; cases h2
      rw [Env.name_self] at h4; cases h4
      obtain ⟨M1, h8, _⟩ := hh.own _ _ h1
      have := hle.ρ _ _ h8; rw [h3] at this; cases this
      rw [hb'] at h6; cases h6
      exact (hh.inj _ _ _ _ _ _ _ h1 he h8 hL h5 hb).trans e2.symm
    · obtain ⟨M1, h7, _⟩ := hh.own _ _ h1
      obtain ⟨M2, h8, _⟩ := hh.own _ _ h2
      have e1 := hle.ρ _ _ h7
      have e2 := hle.ρ _ _ h8
      rw [h3] at e1; rw [h4] at e2
      cases e1; cases e2
      exact hh.inj _ _ _ _ _ _ _ h1 h2 h7 h8 h5 h6

structure Res where
  x : AV
  upd : Upd
  ok : Bool

/-- What 'append' takes from its second argument. -/
def srcElems (look : Nat → Option Ent) (U : TI) : AV → Option (Bool × List AV)
  | .lit (.string s) => match U.desc with
    | .int .u8 => if U.size = 1 then some (true, s.data.toList.map fun b => .lit (.int .u8 b.toNat)) else none
    | _ => none
  | x => elemsP look U.size x
theorem fszs_bytes (l : List UInt8) : ∀ y ∈ l.map (fun b => AV.lit (.int .u8 b.toNat)), y.fsz = 1 := by
  intro y hy; obtain ⟨b, _, rfl⟩ := List.mem_map.1 hy; rfl
theorem cs_bytes {E : Env} : ∀ l : List UInt8, RR E .cs (l.map fun b => AV.lit (.int .u8 b.toNat)) (l.map fun b => .int .u8 b.toNat)
  | [] => .cnil
  | b :: l => by simpa [Value.cells] using RR.ccons (RR.lit (E := E) (.int .u8 b.toNat)) (cs_bytes l)
/-- What is loaded from it. -/
theorem srcElems_sound {P : Program} {E : Env} {τ : Hp} {w : World} (hh : Holds E τ w) {look : Nat → Option Ent} (hl : ∀ l e, look l = some e → aget τ l = some e) {U : TI} {x : AV} {v : Value} {pu : Bool} {ys : List AV}
    (hx : VR E x v) (h : srcElems look U x = some (pu, ys)) : (∀ y ∈ ys, y.fsz = U.size) ∧ ∃ cs, RR (E.sel pu) .cs ys cs ∧ (∀ u ∈ cs, u.oneCell' = true) ∧ (∀ w', w'.heap = w.heap → (Builtin.lenOf v).run P w' = .ok ys.length w') ∧
      (∀ w', w'.heap = w.heap → (Builtin.firstCells U.size ys.length v).run P w' = .ok cs.toArray w') := by
  unfold srcElems at h
  split at h
  · rename_i s
    have := hx.lit_inv; subst this
    split at h
    · split at h
      · rename_i hsz; cases h
        rw [hsz]
        refine ⟨fszs_bytes _, _, cs_bytes _, fun u hu => ?_, fun w' _ => ?_, fun w' _ => ?_⟩
        · obtain ⟨b, _, rfl⟩ := List.mem_map.1 hu; rfl
        · have : s.size = (s.data.toList.map fun b => AV.lit (.int .u8 b.toNat)).length := by rw [List.length_map, Array.length_toList]; rfl
          simp only [Builtin.lenOf, Sem.run_pure, this]
        · simp only [Builtin.firstCells, Sem.run_pure]
          congr 1
          have h2 : (s.data.toList.map fun b => AV.lit (.int .u8 b.toNat)).length = s.size := by rw [List.length_map, Array.length_toList]; rfl
          rw [h2, ByteArray.extract_zero_size]
          apply Array.ext'; simp
      · cases h
    · cases h
  · obtain ⟨h1, a, c, rfl, h2, h3⟩ := elemsP_sound hh hl hx h
    refine ⟨h1, ?_⟩
    rcases h3 with rfl | ⟨b, o, cells, t, fz, cs, rest, rfl, g1, g2, g3, g4⟩
    · refine ⟨[], .cnil, by simp, fun w' _ => by simp [Builtin.lenOf], fun w' _ => ?_⟩
      cases a <;> simp [Builtin.firstCells, loadCells, loadCellsFrom]
    · refine ⟨cs, g2, g4, fun w' _ => by simp [Builtin.lenOf], fun w' hw => ?_⟩
      have hlen : ys.length * U.size = cs.length := by rw [g2.cs_length, AV.fszs_uniform h1]
      simp only [Builtin.firstCells, hlen]
      exact run_load_cells (by rw [hw]; exact g1) g3

theorem growBy_le (n : Nat) : ∀ (r c : Nat), c ≤ 2 * n → 256 ≤ c → Builtin.growBy n r c ≤ 2 * n
  | 0, c, h, _ => h
  | r + 1, c, h, h2 => by
    unfold Builtin.growBy
    split
    · exact h
    · exact growBy_le n r _ (by omega) (by omega)
theorem nextslicecap_le {need old : Nat} (h : old < need) : Builtin.nextslicecap need old ≤ 2 * need := by
  unfold Builtin.nextslicecap
  split
  · omega
  · split
    · omega
    · exact growBy_le need 4 old (by omega) (by omega)

/-- 'append': the elements known on both sides. -/
def appendE (B : Tb) (T T2 : TI) (look : Nat → Option Ent) (dst src : AV) (d : Nat) (pre : Id) : Option Res :=
  match T.desc, T2.desc with
  | _, .int _ => none
  | .slice e, _ => match ti B e with
    | some U => match U.zero, srcElems look U src with
      | some z, some (py, ys) => if z.cells.size = U.size then match normS U dst with
        | .slc l i off len => match elemsP look U.size (.slc l i off len) with
          | some (px, xs) => some ⟨.slc l pre 0 (xs ++ ys).length, [(l, ⟨pre, .row (px && py) U.size (xs ++ ys)⟩)], decide ((xs ++ ys).length * U.bytes ≤ 140737488355328 ∧ (xs ++ ys).length ≤ 1152921504606846976)⟩
          | none => none
        | .lst true sz xs => if sz = U.size then match xs with
          | [] => some ⟨.slc d pre 0 ys.length, [(d, ⟨pre, .row py U.size ys⟩)], decide (ys.length * U.bytes ≤ 140737488355328 ∧ ys.length ≤ 1152921504606846976)⟩
          | x :: xs => match ys with
            | [] => some ⟨dst, [], true⟩
            | y :: ys => some ⟨.slc d pre 0 (x :: xs ++ (y :: ys)).length, [(d, ⟨pre, .row py U.size (x :: xs ++ (y :: ys))⟩)], decide ((x :: xs ++ (y :: ys)).length * U.bytes ≤ 140737488355328 ∧ (x :: xs ++ (y :: ys)).length ≤ 1152921504606846976)⟩
          else none
        | _ => none
        else none
      | _, _ => none
    | none => none
  | _, _ => none
/-- It grows into a new block. -/
theorem append_grow {P : Program} {B : Tb} [TbOk B P] {t t2 rt : TypeId} {T T2 U : TI} {e : TypeId} (hT : ti B t = some T) (hT2 : ti B t2 = some T2) (hd : T.desc = .slice e) (hU : ti B e = some U) (hni : ∀ k, T2.desc ≠ .int k) {z : Value} (hz : U.zero = some z)
    (hzs : z.cells.size = U.size) {E : Env} {τ : Hp} {w : World} (hh : Holds E τ w) {xs ys : List AV} {cx cy : List Value} {a : Option Addr} {cap : Nat} {s : Value} {pu : Bool} (hx : RR (E.sel pu) .cs xs cx) (hy : RR (E.sel pu) .cs ys cy)
    (hox : ∀ u ∈ cx, u.oneCell' = true) (hoy : ∀ u ∈ cy, u.oneCell' = true) (hxs : ∀ y ∈ xs, y.fsz = U.size) (hys : ∀ y ∈ ys, y.fsz = U.size) (hrx : ∀ w', w'.heap = w.heap → (Builtin.firstCells U.size xs.length (.slice a xs.length cap)).run P w' = .ok cx.toArray w')
    (hry : ∀ w', w'.heap = w.heap → (Builtin.lenOf s).run P w' = .ok ys.length w') (hry2 : ∀ w', w'.heap = w.heap → (Builtin.firstCells U.size ys.length s).run P w' = .ok cy.toArray w') (hcap : cap < (xs ++ ys).length)
    (hb1 : (xs ++ ys).length * U.bytes ≤ 140737488355328) (hb2 : (xs ++ ys).length ≤ 1152921504606846976) (l : Nat) {pre : Id} (hp : Fresh E pre) :
    Ret P (Builtin.append_ #[t, t2] rt #[.slice a xs.length cap, s]) E τ w pre (.slc l pre 0 (xs ++ ys).length) [(l, ⟨pre, .row pu U.size (xs ++ ys)⟩)] := by
  have hlen : (xs ++ ys).length = xs.length + ys.length := by simp
  obtain ⟨iU, hiU, hi1, hi2, hi3⟩ := run_ti_info hU w
  have hnc := nextslicecap_le hcap
  have hroom : ¬ (Builtin.nextslicecap (xs.length + ys.length) cap * U.bytes > 2 ^ 48) := by
    rw [← hlen]
    have : Builtin.nextslicecap (xs ++ ys).length cap * U.bytes ≤ 2 * (xs ++ ys).length * U.bytes := Nat.mul_le_mul_right _ hnc
    rw [Nat.mul_assoc] at this
    omega
  obtain ⟨newCap, hcut, hge⟩ : ∃ newCap, (choose (.appendCap (xs.length + ys.length) cap e)).run P w = .ok newCap { w with drawn := w.drawn + 1 } ∧ xs.length + ys.length ≤ newCap := by
    refine ⟨(Question.appendCap (xs.length + ys.length) cap e).cut (w.tape w.drawn (.appendCap (xs.length + ys.length) cap e)), ?_, ?_⟩
    · rw [run_choose]; simp only [Question.forced, Bool.false_eq_true, if_false]
    · simp only [Question.cut]; omega
  have hcxl : cx.length = xs.length * U.size := by rw [hx.cs_length, AV.fszs_uniform hxs]
  have hcyl : cy.length = ys.length * U.size := by rw [hy.cs_length, AV.fszs_uniform hys]
  generalize hzc : Builtin.zeroCells z.cells (newCap - (xs.length + ys.length)) = zc
  have hzcl : zc.size = (newCap - (xs.length + ys.length)) * U.size := by rw [← hzc]; simp [Builtin.zeroCells, hzs]
  have hh1 : Holds E τ { w with drawn := w.drawn + 1 } := hh.world rfl
  have hrun : (Builtin.append_ #[t, t2] rt #[.slice a xs.length cap, s]).run P w =
      .ok (.slice (some ⟨w.heap.size, 0, none⟩) (xs.length + ys.length) newCap) (World.alloc { w with drawn := w.drawn + 1 } (.cells (cx.toArray ++ cy.toArray ++ zc) e)) := by
    obtain ⟨iU2, hiU2, _, _, _⟩ := run_ti_info hU { w with drawn := w.drawn + 1 }
    have hnot : ¬ (xs.length + ys.length ≤ cap) := by omega
    have h63 : ¬ (((xs.length + ys.length : Nat) : Int) > IntKind.i64.max) := by
      have : IntKind.i64.max = 9223372036854775807 := by decide
      omega
    simp only [Builtin.append_, List.getElem?_toArray, List.getElem?_cons_zero, List.getElem?_cons_succ, Sem.run_bind, run_ti_underlying hT, Result.andThen_ok, hd, run_ti_size hU, run_ti_underlying hT2, Sem.run_pure,
      Bool.false_eq_true, if_false, hry w rfl, hnot, h63, false_and, hiU, hiU2, hi2, hroom, hcut, run_askRoom, hrx { w with drawn := w.drawn + 1 } rfl, hry2 { w with drawn := w.drawn + 1 } rfl, Bool.not_false, if_true, run_ti_zero hU _ hz, hzc, newRow, run_newObj]
    rfl
  have hfit : 0 + newCap * U.size ≤ (cx.toArray ++ cy.toArray ++ zc).size := by
    simp only [Array.size_append, List.size_toArray, hcxl, hcyl, hzcl, ← Nat.add_mul]
    rw [show xs.length + ys.length + (newCap - (xs.length + ys.length)) = newCap by omega]; omega
  have hle : E.le (E.name pre (.at w.heap.size 0 U.size newCap)) := Env.name_le (hp pre (List.suffix_refl _))
  obtain ⟨q1, q2⟩ := hh1.new hp (.cells (cx.toArray ++ cy.toArray ++ zc) e) 0 U.size newCap l (.row pu U.size (xs ++ ys))
    (.row (cs := cx ++ cy) (rest := zc.toList) (c := cx.toArray ++ cy.toArray ++ zc) (t := e) (fz := (0, 0)) (by show (w.heap.push _)[w.heap.size]? = _; simp) ((RR.cs_append hx hy).mono (hle.sel _)) (by simp)
      (fun y hy => (List.mem_append.1 hy).elim (hxs y) (hys y)) (by simp; omega) hfit (free_zero _ _) (fun u hu => (List.mem_append.1 hu).elim (hox u) (hoy u)))
  refine ⟨_, _, _, hrun, ?_, q1, (Adv.drew E τ w (w.drawn + 1)).trans q2, Env.name_newIn⟩
  have := RR.slc (E := E.name pre (.at w.heap.size 0 U.size newCap)) l (i := pre) (off := 0) (len := (xs ++ ys).length) (c := newCap) (Env.name_self ..) (by omega) (by omega)
  rw [hlen] at this ⊢
  simpa using this
/-- There is room: it is written where it stands. -/
theorem append_room {P : Program} {B : Tb} [TbOk B P] {t t2 rt : TypeId} {T T2 U : TI} {e : TypeId} (hT : ti B t = some T) (hT2 : ti B t2 = some T2) (hd : T.desc = .slice e) (hU : ti B e = some U) (hni : ∀ k, T2.desc ≠ .int k)
    {w : World} {n m cap b o : Nat} {s : Value} {cy : List Value} {c : Array Value} {te : TypeId} {fz : Nat × Nat} (hw : w.heap[b]? = some (.cells c te fz)) (hcy : cy.length = m * U.size) (hoy : ∀ u ∈ cy, u.oneCell' = true)
    (hry : (Builtin.lenOf s).run P w = .ok m w) (hry2 : (Builtin.firstCells U.size m s).run P w = .ok cy.toArray w) (hcap : n + m ≤ cap) (hfit : o + cap * U.size ≤ c.size) (hf : free fz o (o + cap * U.size)) :
    ∃ w', (Builtin.append_ #[t, t2] rt #[.slice (some ⟨b, o, none⟩) n cap, s]).run P w = .ok (.slice (some ⟨b, o, none⟩) (n + m) cap) w' ∧
      w'.heap[b]? = some (.cells (spl c.toList (o + n * U.size) cy).toArray te fz) ∧ w'.heap.size = w.heap.size ∧ (∀ k, k ≠ b → w'.heap[k]? = w.heap[k]?) ∧ w'.os = w.os ∧ w'.tape = w.tape ∧ w'.output = w.output := by
  have hle : n * U.size + m * U.size ≤ cap * U.size := by rw [← Nat.add_mul]; exact Nat.mul_le_mul_right _ hcap
  obtain ⟨w', h1, h2⟩ := run_storeCells_spl (P := P) (b := b) (off := o + n * U.size) cy 0 c w hw (by omega) hoy (fun j hj1 hj2 => hf j (by omega) (by omega))
  refine ⟨w', ?_, h2⟩
  simp only [Builtin.append_, List.getElem?_toArray, List.getElem?_cons_zero, List.getElem?_cons_succ, Sem.run_bind, run_ti_underlying hT, Result.andThen_ok, hd, run_ti_size hU, run_ti_underlying hT2, Sem.run_pure,
    Bool.false_eq_true, if_false, hry, hcap, if_true, Bool.not_false, hry2, add_none, h1]
/-- Nothing is appended to what has no room. -/
theorem append_none {P : Program} {B : Tb} [TbOk B P] {t t2 rt : TypeId} {T T2 U : TI} {e : TypeId} (hT : ti B t = some T) (hT2 : ti B t2 = some T2) (hd : T.desc = .slice e) (hU : ti B e = some U) (hni : ∀ k, T2.desc ≠ .int k)
    {w : World} {n cap : Nat} {a : Option Addr} {s : Value} (hry : (Builtin.lenOf s).run P w = .ok 0 w) (hry2 : (Builtin.firstCells U.size 0 s).run P w = .ok #[] w) (hcap : n ≤ cap) :
    (Builtin.append_ #[t, t2] rt #[.slice a n cap, s]).run P w = .ok (.slice a n cap) w := by
  cases a <;> simp [Builtin.append_, run_ti_underlying hT, hd, run_ti_size hU, run_ti_underlying hT2, hry, hcap, hry2, storeCells]

theorem append_sound {P : Program} {B : Tb} [TbOk B P] {t t2 rt : TypeId} {T T2 : TI} (hT : ti B t = some T) (hT2 : ti B t2 = some T2) {E : Env} {τ : Hp} {w : World} (hh : Holds E τ w) {look : Nat → Option Ent}
    (hl : ∀ l e, look l = some e → aget τ l = some e) {dst src : AV} {d : Nat} {pre : Id} (hp : Fresh E pre) {dv sv : Value} (hdv : VR E dst dv) (hsv : VR E src sv) {r : Res} (h : appendE B T T2 look dst src d pre = some r)
    (hok : r.ok = true) : Ret P (Builtin.append_ #[t, t2] rt #[dv, sv]) E τ w pre r.x r.upd := by
  unfold appendE at h
  split at h
  · cases h
  · rename_i e hd hni
    have hni2 : ∀ k, T2.desc ≠ .int k := fun k hk => hni k hk
    split at h
    · rename_i U hU
      split at h
      · rename_i z py ys hz hys
        split at h
        · rename_i hzs
          obtain ⟨hyf, cy, hcy, hoy, hry, hry2⟩ := srcElems_sound (P := P) hh hl hsv hys
          have hcyl : cy.length = ys.length * U.size := by rw [hcy.cs_length, AV.fszs_uniform hyf]
          have hdv' := normS_sound (U := U) hdv
          split at h
          · rename_i l i off len hnorm
            rw [hnorm] at hdv'
            split at h
            · rename_i px xs hxs
              cases h
              simp only [decide_eq_true_eq] at hok
              obtain ⟨hb1, hb2⟩ := hok
              obtain ⟨hxf, a, c, rfl, hlc, hcase⟩ := elemsP_sound hh hl hdv' hxs
              have hcy := hcy.mono (show (E.sel py).le (E.sel (px && py)) by rw [Bool.and_comm]; exact E.sel_and_le py px)
              have hread : ∃ cx, RR (E.sel px) .cs xs cx ∧ (∀ u ∈ cx, u.oneCell' = true) ∧ ∀ w', w'.heap = w.heap → (Builtin.firstCells U.size xs.length (.slice a xs.length c)).run P w' = .ok cx.toArray w' := by
                rcases hcase with rfl | ⟨b, o, cells, t', fz, cs, rest, rfl, g1, g2, g3, g4⟩
                · refine ⟨[], .cnil, by simp, fun w' _ => ?_⟩
                  cases a <;> simp [Builtin.firstCells, loadCells, loadCellsFrom]
                · refine ⟨cs, g2, g4, fun w' hw => ?_⟩
                  have hlen : xs.length * U.size = cs.length := by rw [g2.cs_length, AV.fszs_uniform hxf]
                  simp only [Builtin.firstCells, hlen]
                  exact run_load_cells (by rw [hw]; exact g1) g3
              obtain ⟨cx, hcx, hox, hrx⟩ := hread
              have hcx := hcx.mono (E.sel_and_le px py)
              by_cases hroom : c < (xs ++ ys).length
              · exact append_grow hT hT2 hd hU hni2 hz hzs hh hcx hcy hox hoy hxf hyf hrx hry hry2 hroom hb1 hb2 l hp
              · have hcap : xs.length + ys.length ≤ c := by simp at hroom; omega
                -- the piece that is written
                have hent : ∃ en sz zs, look l = some en ∧ en.id = i ∧ en.obj = .row px sz zs ∧ sz = U.size ∧ off + len ≤ zs.length ∧ (zs.drop off).take len = xs := by
                  unfold elemsP at hxs
                  simp only at hxs
                  split at hxs
                  · rename_i en hen
                    split at hxs
                    · rename_i hid
                      split at hxs
                      · rename_i px' sz zs hobj
                        split at hxs
                        · rename_i hc; cases hxs; exact ⟨en, sz, zs, hen, hid, hobj, hc.1, hc.2, rfl⟩
                        · cases hxs
                      · cases hxs
                    · cases hxs
                  · cases hxs
                obtain ⟨en, sz, zs, hen, hid, hobj, rfl, hle, hxeq⟩ := hent
                have hget := hl l en hen
                have hlen : xs.length = len := by rw [← hxeq]; simp; omega
                rcases slc_inv hdv' with ⟨rfl, ⟨a', ha'⟩, L, hL⟩ | ⟨b, base, sz', cap, c', hv, h1, h5, h6⟩
                · have ha2 : a = a' ∧ c = 0 := by injection ha' with e1 e2 e3; exact ⟨e1, e3⟩
                  obtain ⟨rfl, rfl⟩ := ha2
                  have hy0 : ys = [] := List.eq_nil_of_length_eq_zero (by omega)
                  subst hy0
                  have hx0 : xs = [] := List.eq_nil_of_length_eq_zero hlen
                  subst hx0
                  have hcy0 : cy = [] := hcy.cs_nil_inv
                  subst hcy0
                  obtain ⟨q1, q2⟩ := hh.ghost hp l (px && py) U.size
                  exact ⟨_, w, _, append_none hT hT2 hd hU hni2 (hry w rfl) (hry2 w rfl) (Nat.le_refl _), .slcZ l 0 a (Env.name_self ..), q1, q2, Env.name_newIn⟩
                · cases hv
                  obtain ⟨L, h2, h3⟩ := hh.own l en hget
                  rw [hid, h1] at h2; cases h2
                  rw [hobj] at h3
                  cases h3 with
                  | row hw hr hc hs hn hb hf ho hzz =>
                    rename_i cells te fz cs rest
                    have hcU : off * U.size + c * U.size ≤ cap * U.size := by rw [← Nat.add_mul]; exact Nat.mul_le_mul_right _ h6
                    have hf' : free fz (base + off * U.size) (base + off * U.size + c * U.size) := fun j hj1 hj2 => hf j (by omega) (by omega)
                    obtain ⟨w', g1, g2, g3, g4, g5, g6, g7⟩ := append_room (P := P) (rt := rt) (s := sv) hT hT2 hd hU hni2 (n := xs.length) (m := ys.length) (cap := c) hw hcyl hoy (hry w rfl) (hry2 w rfl) hcap (by omega) hf'
                    -- what stands there now
                    have e1 : zs = zs.take off ++ (xs ++ (zs.drop off).drop xs.length) := by
                      have e0 := List.take_append_drop xs.length (zs.drop off)
                      rw [hxeq] at e0
                      rw [e0, List.take_append_drop]
                    have hr' := hr.mono (E.sel_and_le px py)
                    rw [e1] at hr'
                    obtain ⟨d1, d23, rfl, k1, k2⟩ := hr'.cs_append_inv
                    obtain ⟨d2, d3, rfl, k3, k4⟩ := k2.cs_append_inv
                    have hl1 : d1.length = off * U.size := by
                      rw [k1.cs_length, AV.fszs_uniform fun y hy => hs y (List.mem_of_mem_take hy), List.length_take, Nat.min_eq_left (by omega)]
                    have hl2 : d2.length = xs.length * U.size := by rw [k3.cs_length, AV.fszs_uniform hxf]
                    have hdrop : cells.toList.drop (base + off * U.size) = d2 ++ (d3 ++ rest) := by
                      rw [← List.drop_drop, hc, ← hl1, List.append_assoc, List.drop_left]; simp
                    have hsum : xs.length * U.size + ys.length * U.size ≤ c * U.size := by rw [← Nat.add_mul]; exact Nat.mul_le_mul_right _ hcap
                    have hclen : base + off * U.size + (d2.length + (d3 ++ rest).length) = cells.size := by
                      have := congrArg List.length hdrop
                      simp only [List.length_drop, Array.length_toList, List.length_append] at this ⊢
                      omega
                    have hle : E.le (E.name pre (.at b (base + off * U.size) U.size c)) := Env.name_le (hp pre (List.suffix_refl _))
                    have hspl : (spl cells.toList (base + off * U.size + xs.length * U.size) cy).drop (base + off * U.size) = (d2 ++ cy) ++ (d3 ++ rest).drop cy.length := by
                      have hpre : cells.toList = cells.toList.take (base + off * U.size) ++ (d2 ++ (d3 ++ rest)) := by rw [← hdrop, List.take_append_drop]
                      have hbl : (cells.toList.take (base + off * U.size)).length = base + off * U.size := by simp; omega
                      rw [hpre, spl_right (by omega), hbl, List.drop_append, List.drop_eq_nil_of_le (by omega), hbl]
                      simp only [Nat.sub_self, List.drop_zero, List.nil_append]
                      rw [show base + off * U.size + xs.length * U.size - (base + off * U.size) = d2.length by omega, spl_right (Nat.le_refl _)]
                      simp [spl]
                    have hob : ObjR (E.name pre (.at b (base + off * U.size) U.size c)) w' (.row (px && py) U.size (xs ++ ys)) (.at b (base + off * U.size) U.size c) := by
                      refine .row g2 ((RR.cs_append k3 hcy).mono (hle.sel _)) hspl (fun y hy => (List.mem_append.1 hy).elim (hxf y) (hyf y)) (by simp; omega) ?_ hf' (fun u hu => (List.mem_append.1 hu).elim (fun h => ho u (by simp [h])) (hoy u))
                      rw [List.size_toArray, spl_length (by simp; omega)]; simp; omega
                    obtain ⟨q1, q2⟩ := hh.move hget (by rw [hid]; exact h1) rfl rfl hp (.row (px && py) U.size (xs ++ ys)) hob g3 g4 g5 g6 g7
                    refine ⟨_, w', _, g1, ?_, q1, q2, Env.name_newIn⟩
                    have := RR.slc (E := E.name pre (.at b (base + off * U.size) U.size c)) l (i := pre) (off := 0) (len := (xs ++ ys).length) (c := c) (Env.name_self ..) (by omega) (by omega)
                    simpa using this
            · cases h
          · rename_i sz xs hnorm
            rw [hnorm] at hdv'
            split at h
            · rename_i hsz; subst hsz
              split at h
              · cases h
                simp only [decide_eq_true_eq] at hok
                obtain ⟨hb1, hb2⟩ := hok
                rcases lst_inv hdv' with ⟨_, a, c, rfl, hc0⟩ | ⟨b, off, cp, cells, t', fz, cs, rest, rfl, h1, h2, h3, h4, h5, h6, ho⟩
                · have hc0 := hc0 rfl; subst hc0
                  by_cases hy0 : ys = []
                  · subst hy0
                    obtain rfl := hcy.cs_nil_inv
                    obtain ⟨q1, q2⟩ := hh.ghost hp d py U.size
                    exact ⟨_, w, _, append_none hT hT2 hd hU hni2 (hry w rfl) (hry2 w rfl) (Nat.le_refl _), .slcZ d 0 a (Env.name_self ..), q1, q2, Env.name_newIn⟩
                  · have hpos := List.length_pos_iff.2 hy0
                    have := append_grow (rt := rt) hT hT2 hd hU hni2 hz hzs hh (xs := []) (cx := []) (a := a) (cap := 0) (s := sv) .cnil hcy (by simp) hoy (by simp) hyf (fun w' _ => by cases a <;> simp [Builtin.firstCells, loadCells, loadCellsFrom])
                      hry hry2 (by simpa using hpos) (by simpa using hb1) (by simpa using hb2) d hp
                    simpa using this
                · have h6 := h6 rfl; simp only [List.length_nil] at h6; subst h6
                  by_cases hy0 : ys = []
                  · subst hy0
                    obtain rfl := hcy.cs_nil_inv
                    obtain ⟨q1, q2⟩ := hh.ghost hp d py U.size
                    exact ⟨_, w, _, append_none hT hT2 hd hU hni2 (hry w rfl) (hry2 w rfl) (Nat.le_refl _), .slcZ d 0 _ (Env.name_self ..), q1, q2, Env.name_newIn⟩
                  · have hpos := List.length_pos_iff.2 hy0
                    have := append_grow (rt := rt) hT hT2 hd hU hni2 hz hzs hh (xs := []) (cx := []) (a := some ⟨b, off, none⟩) (cap := 0) (s := sv) .cnil hcy (by simp) hoy (by simp) hyf (fun w' _ => by simp [Builtin.firstCells, loadCells, loadCellsFrom])
                      hry hry2 (by simpa using hpos) (by simpa using hb1) (by simpa using hb2) d hp
                    simpa using this
              · rename_i x xs
                split at h
                · cases h
                  obtain rfl := hcy.cs_nil_inv
                  have hcap : ∃ a n c, dv = .slice a n c ∧ n ≤ c := by
                    unfold normS at hnorm
                    split at hnorm
                    · cases hnorm
                    · subst hnorm
                      rcases lst_inv hdv with ⟨hc, _⟩ | ⟨b, off, cp, cells, t', fz, cs, rest, rfl, h1, h2, h3, h4, h5, h6, ho⟩
                      · cases hc
                      · exact ⟨_, _, _, rfl, h5⟩
                  obtain ⟨a, n, c, rfl, hnc⟩ := hcap
                  exact ⟨_, w, E, append_none hT hT2 hd hU hni2 (hry w rfl) (hry2 w rfl) hnc, hdv, hh, .refl _ _ _, .refl _ _⟩
                · rename_i y ys
                  cases h
                  simp only [decide_eq_true_eq] at hok
                  obtain ⟨hb1, hb2⟩ := hok
                  rcases lst_invP hdv' with ⟨hc, _⟩ | ⟨b, off, cp, cells, t', fz, cs, rest, rfl, h1, h2, h3, h4, h5, h6, ho⟩
                  · cases hc
                  · have h6 := h6 rfl; subst h6
                    refine append_grow (rt := rt) hT hT2 hd hU hni2 hz hzs hh (h2.mono (E.pure_le_sel py)) hcy ho hoy h4 hyf (fun w' hw => ?_) hry hry2 (by simp) hb1 hb2 d hp
                    have hlen : (x :: xs).length * U.size = cs.length := by rw [h2.cs_length, AV.fszs_uniform h4]
                    simp only [Builtin.firstCells, hlen]
                    exact run_load_cells (by rw [hw]; exact hh.imm _ _ h1) h3
            · cases h
          · cases h
        · cases h
      · cases h
    · cases h
  · cases h
end
end Go.AS
