/- 'copy'; lists of cells stored in rows; pointers compared. -/
import Derived.Test.YtnenknghinpliaaGreatDoorASar
import Derived.LaidEql
import Derived.Laws.IdiomRangeMap
namespace Go.AS
noncomputable section

/-- Cells stored within an element of a row. -/
theorem cells_sub {P : Program} {E : Env} {τ : Hp} {w : World} (hh : Holds E τ w) {l : Nat} {e : Ent} (hget : aget τ l = some e) {i : Id} (hid : e.id = i) {b base sz cap : Nat} (h1 : E.ρ i = some (.at b base sz cap)) {pu : Bool} {rz : Nat} {xs : List AV} (hobj : e.obj = .row pu rz xs)
    {k s : Nat} {x' x'' y : AV} {u : Value} (hk : xs[k]? = some x') (hset : x'.setAt s u.cells.size true y = some x'') (hyE : VR E y u) (hou : ∀ z ∈ u.cells.toList, z.oneCell' = true) {cy : List Value} (hcy : u.cells.toList = cy) :
    ∃ w', (storeCells ⟨b, base + k * sz + s, none⟩ cy).run P w = .ok () w' ∧ Holds E (τ.app [(l, ⟨i, .row (pu && noLab y) rz (xs.set k x'')⟩)]) w' ∧ Adv E τ w E (τ.app [(l, ⟨i, .row (pu && noLab y) rz (xs.set k x'')⟩)]) w' := by
  obtain ⟨L, h2, h3⟩ := hh.own l e hget
  rw [hid, h1] at h2; cases h2
  rw [hobj] at h3
  cases h3 with
  | row hw hr hc hs hn hb hf ho hzz =>
    rename_i c t' fz cs rest
    have hr := hr.mono (E.sel_and_le pu (noLab y))
    have hy : VR (E.sel (pu && noLab y)) y u := by
      cases hnl : noLab y
      · rw [Bool.and_false]; exact hyE
      · cases pu
        · exact hyE
        · exact hyE.pure_of (by simp [noLabs, hnl])
    obtain ⟨vx, h4, rx, h5, h6⟩ := hr.cs_elem hs hk
    obtain ⟨h7, v'', h8, h9⟩ := setAt_sound x' h4 hset hy rfl (fun h => by cases h)
    have hklt : k < xs.length := by rw [List.getElem?_eq_some_iff] at hk; exact hk.1
    have hv''sz : v''.cells.size = sz := by
      have : v''.cells.toList.length = vx.cells.toList.length := by rw [h9, spl_length h7]
      simpa [h6] using this
    obtain ⟨h10, h11⟩ := RR.cs_setElem h8 hv''sz xs k hr hs hklt
    have hksz : k * sz + sz ≤ cap * sz := by rw [← Nat.succ_mul]; exact Nat.mul_le_mul_right _ (by omega)
    have hul : u.cells.toList.length = u.cells.size := by simp
    have h7' : s + u.cells.size ≤ sz := by simp at h7; omega
    obtain ⟨w', g1, g2, g3, g4, g5, g6, g7⟩ := run_storeCells_spl (P := P) (w := w) (b := b) (off := base + k * sz + s) u.cells.toList 0 c hw (by omega) hou (fun j hj1 hj2 => hf j (by omega) (by omega))
    rw [Nat.add_zero] at g2
    have hcl : c.toList.length = c.size := by simp
    have hcsl : cs.length + rest.length = c.size - base := by
      have := congrArg List.length hc; simp at this; omega
    have hcs' : spl cs (k * sz) v''.cells.toList = spl cs (k * sz + s) u.cells.toList := by
      have hvx : vx.cells.toList = (cs.drop (k * sz)).take sz := by
        rw [h5, List.take_left' (by simpa using h6)]
      rw [h9, hvx, spl_spl h11 (by omega)]
    have hob : ObjR E w' (.row (pu && noLab y) sz (xs.set k x'')) (.at b base sz cap) := by
      refine .row g2 h10 (rest := rest) ?_ ?_ (by simpa using hn) ?_ hf ?_
      · rw [hcs']
        have hpre : c.toList = c.toList.take base ++ (cs ++ rest) := by rw [← hc, List.take_append_drop]
        have hbl : (c.toList.take base).length = base := by simp; omega
        show (spl c.toList (base + k * sz + s) u.cells.toList).drop base = _
        rw [hpre, spl_right (by omega), hbl, List.drop_append, List.drop_eq_nil_of_le (by omega), hbl]
        simp only [Nat.sub_self, List.drop_zero, List.nil_append]
        rw [show base + k * sz + s - base = k * sz + s by omega, spl_left (by omega)]
      · intro z hz
        rcases List.mem_or_eq_of_mem_set hz with hz | rfl
        · exact hs z hz
        · rw [← h8.size]; exact hv''sz
      · rw [List.size_toArray, spl_length (by simp; omega), hcl]; exact hb
      · rw [hcs']; intro z hz
        rcases List.mem_append.1 hz with hz | hz
        · exact ho z (List.mem_of_mem_take hz)
        · rcases List.mem_append.1 hz with hz | hz
          · exact hou z hz
          · exact ho z (List.mem_of_mem_drop hz)
    obtain ⟨q1, q2⟩ := hh.write hget (by rw [hid]; exact h1) rfl (.row (pu && noLab y) sz (xs.set k x'')) hob g3 g4 g5 g6 g7
    rw [hid] at q1 q2
    refine ⟨w', by rw [← hcy]; exact g1, q1, q2⟩
/-- Elements stored in a row. -/
theorem cells_row {P : Program} {E : Env} {τ : Hp} {w : World} (hh : Holds E τ w) {l : Nat} {e : Ent} (hget : aget τ l = some e) {i : Id} (hid : e.id = i) {b base sz cap : Nat} (h1 : E.ρ i = some (.at b base sz cap)) {pu py : Bool} {rz : Nat} {xs ys : List AV} (hobj : e.obj = .row pu rz xs)
    {k : Nat} (hk : k + ys.length ≤ xs.length) {cy : List Value} (hyc : RR (E.sel py) .cs ys cy) (hyf : ∀ y ∈ ys, y.fsz = rz) (hoy : ∀ z ∈ cy, z.oneCell' = true) :
    ∃ w', (storeCells ⟨b, base + k * sz, none⟩ cy).run P w = .ok () w' ∧ Holds E (τ.app [(l, ⟨i, .row (pu && py) rz (xs.take k ++ (ys ++ xs.drop (k + ys.length)))⟩)]) w' ∧ Adv E τ w E (τ.app [(l, ⟨i, .row (pu && py) rz (xs.take k ++ (ys ++ xs.drop (k + ys.length)))⟩)]) w' := by
  obtain ⟨L, h2, h3⟩ := hh.own l e hget
  rw [hid, h1] at h2; cases h2
  rw [hobj] at h3
  cases h3 with
  | row hw hr hc hs hn hb hf ho hzz =>
    rename_i c t' fz cs rest
    have hr := hr.mono (E.sel_and_le pu py)
    have hyc : RR (E.sel (pu && py)) .cs ys cy := by
      cases py
      · rw [Bool.and_false]; exact hyc
      · exact hyc.mono (E.pure_le_sel _)
    have hul : cy.length = ys.length * sz := by rw [hyc.cs_length, AV.fszs_uniform hyf]
    obtain ⟨d1, d2, d3, rfl, q1, q2, q3, q4, q5⟩ := cs_cut hr hs hk
    have hkle : (k + ys.length) * sz ≤ cap * sz := Nat.mul_le_mul_right _ (by omega)
    rw [Nat.add_mul] at hkle
    obtain ⟨w', g1, g2, g3, g4, g5, g6, g7⟩ := run_storeCells_spl (P := P) (w := w) (b := b) (off := base + k * sz) cy 0 c hw (by omega) hoy (fun j hj1 hj2 => hf j (by omega) (by omega))
    rw [Nat.add_zero] at g2
    have hcl : c.toList.length = c.size := by simp
    have hcsl : (d1 ++ (d2 ++ d3)).length + rest.length = c.size - base := by
      have := congrArg List.length hc; simp at this ⊢; omega
    have hcs' : spl (d1 ++ (d2 ++ d3)) (k * sz) cy = d1 ++ (cy ++ d3) := by
      unfold spl
      rw [← q1, List.take_left, List.drop_append, List.drop_eq_nil_of_le (by omega), List.nil_append, Nat.add_sub_cancel_left, hul, ← q2, List.drop_left]
    have hob : ObjR E w' (.row (pu && py) sz (xs.take k ++ (ys ++ xs.drop (k + ys.length)))) (.at b base sz cap) := by
      refine .row g2 (RR.cs_append q3 (RR.cs_append hyc q5)) (rest := rest) ?_ ?_ ?_ ?_ hf ?_
      · rw [← hcs']
        have hpre : c.toList = c.toList.take base ++ ((d1 ++ (d2 ++ d3)) ++ rest) := by rw [← hc, List.take_append_drop]
        have hbl : (c.toList.take base).length = base := by simp; omega
        show (spl c.toList (base + k * sz) cy).drop base = _
        rw [hpre, spl_right (by omega), hbl, List.drop_append, List.drop_eq_nil_of_le (by omega), hbl]
        simp only [Nat.sub_self, List.drop_zero, List.nil_append]
        rw [show base + k * sz - base = k * sz by omega, spl_left (by simp [q1, q2, hul])]
      · intro z hz
        rcases List.mem_append.1 hz with hz | hz
        · exact hs z (List.mem_of_mem_take hz)
        · rcases List.mem_append.1 hz with hz | hz
          · exact hyf z hz
          · exact hs z (List.mem_of_mem_drop hz)
      · simp; omega
      · rw [List.size_toArray, spl_length (by rw [hul, hcl]; omega), hcl]; omega
      · intro z hz
        rcases List.mem_append.1 hz with hz | hz
        · exact ho z (List.mem_append_left _ hz)
        · rcases List.mem_append.1 hz with hz | hz
          · exact hoy z hz
          · exact ho z (List.mem_append_right _ (List.mem_append_right _ hz))
    obtain ⟨q1, q2⟩ := hh.write hget (by rw [hid]; exact h1) rfl (.row (pu && py) sz (xs.take k ++ (ys ++ xs.drop (k + ys.length)))) hob g3 g4 g5 g6 g7
    rw [hid] at q1 q2
    exact ⟨w', g1, q1, q2⟩

def copyE (B : Tb) (T : TI) (look : Nat → Option Ent) (dst src : AV) : Option Res :=
  match T.desc with
  | .slice e => match ti B e with
    | some U => match srcElems look U src with
      | some (py, ys) => match ys with
        | [] => match dst with
          | .slc .. | .lst .. | .sub .. | .lit (.slice ..) => some ⟨.lit (.int .i64 0), [], true⟩
          | _ => none
        | y :: yr => match dst with
          | .slc l i off n => match look l with
            | some en => match decide (en.id = i) with
              | true => match en.obj with
                | .row pu sz xs => match Nat.beq sz U.size && (Nat.ble (y :: yr).length n && Nat.ble (off + (y :: yr).length) xs.length) with
                  | true => some ⟨.lit (.int .i64 (y :: yr).length), [(l, ⟨i, .row (pu && py) sz (xs.take off ++ ((y :: yr) ++ xs.drop (off + (y :: yr).length)))⟩)], true⟩
                  | false => none
                | _ => none
              | false => none
            | none => none
          | .sub l i k s n => match look l with
            | some en => match decide (en.id = i) with
              | true => match en.obj with
                | .row pu sz xs => match Nat.beq 1 U.size && Nat.ble (y :: yr).length n with
                  | true => match xs[k]? with
                    | some x => match x.setAt s (y :: yr).length true (.agg (y :: yr)) with
                      | some x' => some ⟨.lit (.int .i64 (y :: yr).length), [(l, ⟨i, .row (pu && noLab (.agg (y :: yr))) sz (xs.set k x')⟩)], true⟩
                      | none => none
                    | none => none
                  | false => none
                | _ => none
              | false => none
            | none => none
          | _ => none
      | none => none
    | none => none
  | _ => none
theorem run_copy {P : Program} {B : Tb} [TbOk B P] {t t2 rt : TypeId} {T U : TI} {e : TypeId} (hT : ti B t = some T) (hd : T.desc = .slice e) (hU : ti B e = some U) {w : World} {a : Option Addr} {dl dc m : Nat} {sv : Value} {cy : List Value}
    (hlen : (Builtin.lenOf sv).run P w = .ok m w) (hcells : (Builtin.firstCells U.size m sv).run P w = .ok cy.toArray w) (hm : m ≤ dl) :
    (Builtin.copy_ #[t, t2] rt #[.slice a dl dc, sv]).run P w = ((match a with | some a => storeCells a cy | none => pure () : Sem Unit).run P w).andThen fun _ w' => .ok (.int .i64 m) w' := by
  have hmin : Nat.min m dl = m := Nat.min_eq_left hm
  cases a <;> simp [Builtin.copy_, run_ti_underlying hT, hd, run_ti_size hU, hlen, hmin, hcells, goInt]
theorem copy_sound {P : Program} {B : Tb} [TbOk B P] {t t2 rt : TypeId} {T : TI} (hT : ti B t = some T) {E : Env} {τ : Hp} {w : World} (hh : Holds E τ w) {look : Nat → Option Ent}
    (hl : ∀ l e, look l = some e → aget τ l = some e) {dst src : AV} {dv sv : Value} (hdv : VR E dst dv) (hsv : VR E src sv) {r : Res} (h : copyE B T look dst src = some r) {p : Id} :
    Ret P (Builtin.copy_ #[t, t2] rt #[dv, sv]) E τ w p r.x r.upd := by
  unfold copyE at h
  split at h
  · rename_i e hd
    split at h
    · rename_i U hU
      split at h
      · rename_i py ys hys
        obtain ⟨hyf, cy, hyc, hoy, hln, hfc⟩ := srcElems_sound (P := P) hh hl hsv hys
        split at h
        · obtain rfl := hyc.cs_nil_inv
          have fin : ∀ a n c, dv = .slice a n c → r = ⟨.lit (.int .i64 0), [], true⟩ → Ret P (Builtin.copy_ #[t, t2] rt #[dv, sv]) E τ w p r.x r.upd := by
            rintro a n c rfl rfl
            refine Ret.pure hh (v := .int .i64 0) ?_ (.lit _)
            rw [run_copy hT hd hU (hln w rfl) (hfc w rfl) (Nat.zero_le _)]
            cases a <;> simp [storeCells]
          split at h
          · cases h
            rcases slc_inv hdv with ⟨rfl, ⟨a, rfl⟩, _⟩ | ⟨b, base, sz, cap, c, rfl, _⟩
            · exact fin _ _ _ rfl rfl
            · exact fin _ _ _ rfl rfl
          · cases h
            rcases lst_invP hdv with ⟨rfl, a, c, rfl, _⟩ | ⟨b, off, cp, c, t, fz, cs, rest, rfl, _⟩
            · exact fin _ _ _ rfl rfl
            · exact fin _ _ _ rfl rfl
          · cases h
            obtain ⟨b, base, sz, cap, c, _, rfl, _⟩ := hdv.sub_inv
            exact fin _ _ _ rfl rfl
          · cases h
            have := hdv.lit_inv; subst this
            exact fin _ _ _ rfl rfl
          · cases h
        · rename_i y yr
          split at h
          · rename_i l i off n
            split at h
            · rename_i en he
              split at h
              · rename_i hid
                have hid := of_decide_eq_true hid
                split at h
                · rename_i pu sz xs hobj
                  split at h
                  · rename_i hc; cases h
                    simp only [Bool.and_eq_true] at hc
                    have hsz := Nat.eq_of_beq_eq_true hc.1
                    have hn := Nat.le_of_ble_eq_true hc.2.1
                    have hle := Nat.le_of_ble_eq_true hc.2.2
                    subst hsz
                    rcases slc_inv hdv with ⟨rfl, _⟩ | ⟨b, base, sz, cap, c, rfl, h1, h5, h6⟩
                    · simp at hn
                    · obtain ⟨L, k2, k3⟩ := hh.own l en (hl l en he)
                      rw [hid, h1] at k2; cases k2
                      obtain ⟨w', g1, g2, g3⟩ := cells_row (P := P) (py := py) hh (hl l en he) hid h1 hobj hle hyc hyf hoy
                      refine ⟨.int .i64 (y :: yr).length, w', E, ?_, .lit _, g2, g3, .refl _ _⟩
                      rw [run_copy hT hd hU (hln w rfl) (hfc w rfl) hn, g1]; rfl
                  · cases h
                · cases h
              · cases h
            · cases h
          · rename_i l i k s n
            split at h
            · rename_i en he
              split at h
              · rename_i hid
                have hid := of_decide_eq_true hid
                split at h
                · rename_i pu sz xs hobj
                  split at h
                  · rename_i hc
                    rw [Bool.and_eq_true] at hc
                    have hsz := Nat.eq_of_beq_eq_true hc.1
                    have hn := Nat.le_of_ble_eq_true hc.2
                    split at h
                    · rename_i x hx
                      split at h
                      · rename_i x' hx'; cases h
                        obtain ⟨b, base, sz', cap, c, h1, rfl, h5⟩ := hdv.sub_inv
                        have hag : VR E (.agg (y :: yr)) (.agg cy.toArray) := .agg (hyc.mono (E.sel_le _))
                        have hcl : (Value.agg cy.toArray).cells.size = (y :: yr).length := by
                          have := hyc.cs_length
                          rw [AV.fszs_uniform hyf, ← hsz, Nat.mul_one] at this
                          simpa [Value.cells] using this
                        obtain ⟨w', g1, g2, g3⟩ := cells_sub (P := P) hh (hl l en he) hid h1 hobj hx (by rw [hcl]; exact hx') hag (by simpa [Value.cells] using hoy) (cy := cy) (by simp [Value.cells])
                        refine ⟨.int .i64 (y :: yr).length, w', E, ?_, .lit _, g2, g3, .refl _ _⟩
                        rw [run_copy hT hd hU (hln w rfl) (hfc w rfl) hn, g1]; rfl
                      · cases h
                    · cases h
                  · cases h
                · cases h
              · cases h
            · cases h
          · cases h
      · cases h
    · cases h
  · cases h

/-! builtin clear of a slice. -/
def clearE (B : Tb) (T : TI) (look : Nat → Option Ent) (x : AV) : Option Upd :=
  match T.desc with
  | .slice e => match ti B e with
    | some U => match zeroE B U e with
      | some z => match Nat.beq z.fsz U.size with
        | true => match x with
          | .slc l i off n => match n with
            | 0 => some []
            | k + 1 => match look l with
              | some en => match decide (en.id = i) with
                | true => match en.obj with
                  | .row pu sz xs => match Nat.beq sz U.size && Nat.ble (off + (k + 1)) xs.length with
                    | true => some [(l, ⟨i, .row (pu && true) sz (xs.take off ++ (List.replicate (k + 1) z ++ xs.drop (off + (List.replicate (k + 1) z).length)))⟩)]
                    | false => none
                  | _ => none
                | false => none
              | none => none
          | .lst _ _ [] => some []
          | .lit (.slice _ 0 _) => some []
          | _ => none
        | false => none
      | none => none
    | none => none
  | _ => none
theorem run_clear0 {P : Program} {B : Tb} [TbOk B P] {t rt : TypeId} {T : TI} (hT : ti B t = some T) {w : World} (a : Option Addr) (c : Nat) : (Builtin.clear_ #[t] rt #[.slice a 0 c]).run P w = .ok (.tuple #[]) w := by
  cases a <;> simp [Builtin.clear_, run_ti_underlying hT]
theorem clear_sound {P : Program} {B : Tb} [TbOk B P] {t rt : TypeId} {T : TI} (hT : ti B t = some T) {E : Env} {τ : Hp} {w : World} (hh : Holds E τ w) {look : Nat → Option Ent}
    (hl : ∀ l e, look l = some e → aget τ l = some e) {x : AV} {v : Value} (hx : VR E x v) {upd : Upd} (h : clearE B T look x = some upd) {p : Id} :
    Ret P (Builtin.clear_ #[t] rt #[v]) E τ w p (.lit (.tuple #[])) upd := by
  unfold clearE at h
  split at h
  · rename_i e hd
    split at h
    · rename_i U hU
      split at h
      · rename_i z hz
        split at h
        · rename_i hsz
          have hsz := Nat.eq_of_beq_eq_true hsz
          have fin : ∀ a c, v = .slice a 0 c → upd = [] → Ret P (Builtin.clear_ #[t] rt #[v]) E τ w p (.lit (.tuple #[])) upd := by
            rintro a c rfl rfl
            exact Ret.pure hh (v := .tuple #[]) (run_clear0 hT a c) (.lit _)
          split at h
          · rename_i l i off n
            split at h
            · cases h
              rcases slc_inv hx with ⟨_, ⟨a, rfl⟩, _⟩ | ⟨b, base, sz, cap, c, rfl, _⟩
              · exact fin _ _ rfl rfl
              · exact fin _ _ rfl rfl
            · rename_i k
              split at h
              · rename_i en he
                split at h
                · rename_i hid
                  have hid := of_decide_eq_true hid
                  split at h
                  · rename_i pu rz xs hobj
                    split at h
                    · rename_i hc; cases h
                      rw [Bool.and_eq_true] at hc
                      have hrz := Nat.eq_of_beq_eq_true hc.1
                      have hle := Nat.le_of_ble_eq_true hc.2
                      obtain ⟨zv, hz1, hz2, hz3⟩ := zero_sound hz
                      rcases slc_inv hx with ⟨h0, _⟩ | ⟨b, base, sz, cap, c, rfl, h1, h5, h6⟩
                      · cases h0
                      · obtain ⟨L, k2, k3⟩ := hh.own l en (hl l en he)
                        rw [hid, h1] at k2; cases k2
                        have hss : sz = rz := by
                          rw [hobj] at k3; cases k3; rfl
                        obtain ⟨w', g1, g2, g3⟩ := cells_row (P := P) (py := true) hh (hl l en he) hid h1 hobj (k := off) (ys := List.replicate (k + 1) z) (by simpa using hle) (cy := (List.replicate (k + 1) zv.cells.toList).flatten) (RR.cs_replicate (hz3 _) _)
                          (fun y hy => by rw [List.eq_of_mem_replicate hy, hsz, hrz]) (fun u hu => by
                            obtain ⟨l', hl1, hl2⟩ := List.mem_flatten.1 hu
                            rw [List.eq_of_mem_replicate hl1] at hl2
                            exact hz2 u hl2)
                        refine ⟨.tuple #[], w', E, ?_, .lit _, g2, g3, .refl _ _⟩
                        have hzl : (Builtin.zeroCells zv.cells (k + 1)).toList = (List.replicate (k + 1) zv.cells.toList).flatten := by
                          unfold Builtin.zeroCells
                          by_cases h0 : 0 < zv.cells.size
                          · exact zeros_list zv.cells h0 _
                          · have : zv.cells = #[] := Array.eq_empty_of_size_eq_zero (by omega)
                            rw [this]; simp
                        simp only [Builtin.clear_, List.getElem?_toArray, List.getElem?_cons_zero, Sem.run_bind, run_ti_underlying hT, hd, Result.andThen_ok, run_ti_zero hU _ hz1, hzl, g1, Sem.run_pure]
                    · cases h
                  · cases h
                · cases h
              · cases h
          · cases h
            rcases lst_invP hx with ⟨_, a, c, rfl, _⟩ | ⟨b, off, cp, c, t, fz, cs, rest, rfl, _⟩
            · exact fin _ _ rfl rfl
            · exact fin _ _ rfl rfl
          · cases h
            have := hx.lit_inv; subst this
            exact fin _ _ rfl rfl
          · cases h
        · cases h
      · cases h
    · cases h
  · cases h

/-! Pointers into pieces. -/
def ptrSame (look : Nat → Option Ent) (x y : AV) : Option Bool :=
  match x, y with
  | .ptr l i k s, .ptr l' i' k' s' => match look l, look l' with
    | some e, some e' => match decide (e.id = i) && decide (e'.id = i') with
      | true => match e.obj, e'.obj with
        | .row _ sz _, .row _ sz' _ => match Nat.beq l l' with
          | true => some (Nat.beq (k * sz + s) (k' * sz + s'))
          | false => match Nat.beq sz 1 || Nat.beq sz' 1 with
            | true => none
            | false => some false
        | _, _ => none
      | false => none
    | _, _ => none
  | _, _ => none
theorem ptrSame_sound {P : Program} {E : Env} {τ : Hp} {w : World} (hh : Holds E τ w) {look : Nat → Option Ent} (hl : ∀ l e, look l = some e → aget τ l = some e) {x y : AV} {u v : Value} (hx : VR E x u) (hy : VR E y v) {r : Bool}
    (h : ptrSame look x y = some r) : ∃ a b, u = .pointer (some a) ∧ v = .pointer (some b) ∧ (sameAddr a b).run P w = .ok r w := by
  unfold ptrSame at h
  split at h
  · rename_i l i k s l' i' k' s'
    obtain ⟨b, base, sz, cap, h1, rfl⟩ := hx.ptr_inv
    obtain ⟨b', base', sz', cap', h1', rfl⟩ := hy.ptr_inv
    split at h
    · rename_i e e' he he'
      split at h
      · rename_i hid
        rw [Bool.and_eq_true] at hid
        have hi := of_decide_eq_true hid.1
        have hi' := of_decide_eq_true hid.2
        split at h
        · rename_i pu rz xs pu' rz' xs' ho ho'
          obtain ⟨L, h2, h3⟩ := hh.own l e (hl l e he)
          obtain ⟨L', h2', h3'⟩ := hh.own l' e' (hl l' e' he')
          have h20 := h2; have h20' := h2'
          rw [hi, h1] at h2; cases h2
          rw [hi', h1'] at h2'; cases h2'
          rw [ho] at h3; rw [ho'] at h3'
          refine ⟨_, _, rfl, rfl, ?_⟩
          cases h3 with
          | row hw hr hc hs hn hb hf hoo hzz =>
            cases h3' with
            | row hw' hr' hc' hs' hn' hb' hf' hoo' hzz' =>
              split at h
              · rename_i hll; cases h
                have hll := Nat.eq_of_beq_eq_true hll
                subst hll
                rw [he] at he'; cases he'
                rw [hi] at hi'; subst hi'
                rw [h1] at h1'; cases h1'
                rw [Nat.add_assoc, Nat.add_assoc]
                cases hq : Nat.beq (k * sz + s) (k' * sz + s') with
                | true => rw [Nat.eq_of_beq_eq_true hq]; exact run_sameAddr_same _ _
                | false =>
                  have hne := Nat.ne_of_beq_eq_false hq
                  have : ((⟨b, base + (k * sz + s), none⟩ : Addr) == ⟨b, base + (k' * sz + s'), none⟩) = false := by
                    rw [beq_eq_false_iff_ne]
                    intro hc; injection hc with _ hc _; omega
                  simp [sameAddr, this]
              · rename_i hll
                split at h
                · cases h
                · rename_i h11; cases h
                  rw [Bool.or_eq_false_iff] at h11
                  have z1 := hzz (Nat.ne_of_beq_eq_false h11.1)
                  have z2 := hzz' (Nat.ne_of_beq_eq_false h11.2)
                  rw [z1] at hw; rw [z2] at hw'
                  refine run_sameAddr_other w (fun hc => ?_) hw hw'
                  have hbb : b = b' := by injection hc
                  have := hh.inj l l' e e' _ _ b (hl l e he) (hl l' e' he') h20 h20' rfl (by rw [hbb]; rfl)
                  exact Nat.ne_of_beq_eq_false hll this
        · cases h
      · cases h
    · cases h
  · cases h
def ptrCmpE (B : Tb) (op : BinOp) (t : TypeId) (look : Nat → Option Ent) (x y : AV) : Option AV :=
  match ti B t with
  | some T => match T.desc with
    | .pointer e => match ti B e with
      | some U => match Nat.beq U.size 0, ptrSame look x y with
        | false, some r => match op with
          | .eql => some (.lit (.bool r))
          | .neq => some (.lit (.bool (!r)))
          | _ => none
        | _, _ => none
      | none => none
    | _ => none
  | none => none
theorem ptrCmp_sound {P : Program} {B : Tb} [TbOk B P] {op : BinOp} {t : TypeId} {xo yo : Operand} {E : Env} {τ : Hp} {w : World} (hh : Holds E τ w) {look : Nat → Option Ent} (hl : ∀ l e, look l = some e → aget τ l = some e) {x y z : AV} {u v : Value}
    (hx : VR E x u) (hy : VR E y v) (h : ptrCmpE B op t look x y = some z) : ∃ r, (do eqGuard op t xo yo u v; binOp op t u v : Sem Value).run P w = .ok r w ∧ VR E z r := by
  unfold ptrCmpE at h
  split at h
  · rename_i T hT
    split at h
    · rename_i e hd
      split at h
      · rename_i U hU
        split at h
        · rename_i r hsz hr
          have hsz := Nat.ne_of_beq_eq_false hsz
          obtain ⟨a, b, rfl, rfl, hrun⟩ := ptrSame_sound (P := P) hh hl hx hy hr
          have heq : (Op.equal t (.pointer (some a)) (.pointer (some b))).run P w = .ok r w := by
            rw [equal_step, Op.equalIn]
            simp only [Sem.run_bind, run_ti_underlying hT, hd, Result.andThen_ok, run_ti_size hU, ne_eq, hsz, not_false_eq_true, if_true]
            exact hrun
          obtain ⟨k1, k2⟩ := eql_of (xo := xo) (yo := yo) (fun op => run_eqGuard w op t xo yo _ _ (by rintro ⟨h, _⟩; cases h) (fun cs h => by cases h)) rfl rfl heq
          split at h <;> cases h
          · exact ⟨_, k1, .lit _⟩
          · exact ⟨_, k2, .lit _⟩
        · cases h
      · cases h
    · cases h
  · cases h

/-! A range over a map: its iterator; the entry that the last step gave; the entries that are left. -/
def mapRangeE (T : TI) (look : Nat → Option Ent) (x : AV) (d : Nat) (p : Id) : Option Res :=
  match T.desc with
  | .map _ _ => match x with
    | .mp l i => match look l with
      | some e => match decide (e.id = i) with
        | true => match e.obj with
          | .map _ _ ck _ _ => some ⟨.ptr d p 0 0, [(d, ⟨p, .mit l i ck [] ck⟩)], true⟩
          | _ => none
        | false => none
      | none => none
    | _ => none
  | _ => none
theorem mapRange_sound {P : Program} {B : Tb} [TbOk B P] {t : TypeId} {T : TI} (hT : ti B t = some T) {E : Env} {τ : Hp} {w : World} (hh : Holds E τ w) {look : Nat → Option Ent} (hl : ∀ l e, look l = some e → aget τ l = some e) {p : Id} (hp : Fresh E p) {x : AV} {v : Value}
    (hx : VR E x v) {d : Nat} {r : Res} (h : mapRangeE T look x d p = some r) : Ret P (Instr.range t v) E τ w p r.x r.upd := by
  unfold mapRangeE at h
  split at h
  · rename_i kt et hd
    split at h
    · rename_i l i
      split at h
      · rename_i e he
        split at h
        · rename_i hid
          have hid := of_decide_eq_true hid
          split at h
          · rename_i pu bs ck ks vs hobj; cases h
            cases hx with
            | mp _ hρ =>
              obtain ⟨L, h1, h2⟩ := hh.own l e (hl l e he)
              rw [hid, hρ] at h1; cases h1
              rw [hobj] at h2
              cases h2 with
              | map hw hks hus hvs hb hnd hbs =>
                rename_i b base sz cap es us
                have hle : E.le (E.name p (.at w.heap.size 0 0 0)) := Env.name_le (hp p (List.suffix_refl _))
                obtain ⟨q1, q2⟩ := hh.new hp (.mapIter (some b) ck #[] ck) 0 0 0 d (.mit l i ck [] ck) (.mit (by show (w.heap.push _)[w.heap.size]? = _; simp) (hle.ρ _ _ hρ))
                refine ⟨_, _, _, ?_, .ptr d 0 0 (Env.name_self ..), q1, q2, Env.name_newIn⟩
                have hg : (getObj b).run P w = .ok (.map es ck) w := by simp only [getObj, Sem.run, hw]
                simp [Instr.range, run_ti_underlying hT, hd, hg, newObj, Sem.run]
          · cases h
        · cases h
      · cases h
    · cases h
  · cases h
/-- Which entry bears a stamp. -/
def bornOf (s : Nat) : List Nat → List Value → List AV → Option (Value × AV)
  | b :: bs, k :: ks, v :: vs => match Nat.beq b s with
    | true => some (k, v)
    | false => bornOf s bs ks vs
  | _, _, _ => none
theorem bornOf_sound {E : Env} {s : Nat} : ∀ {es : List MapEntry} {vs : List AV} {q : Value × AV}, bornOf s (es.map (·.born)) (es.map (·.key)) vs = some q → RR E .vs vs (es.map (·.val)) → ∃ e, es.find? (·.born == s) = some e ∧ e.key = q.1 ∧ VR E q.2 e.val
  | [], vs, q, h, _ => by cases h
  | e :: es, vs, q, h, hv => by
    cases vs with
    | nil => cases h
    | cons v vs =>
      obtain ⟨u, us, h1, h2, h3⟩ := hv.vs_cons_inv
      rw [List.map_cons] at h3; injection h3 with h3 h4
      rw [List.map_cons, List.map_cons] at h
      unfold bornOf at h
      split at h
      · rename_i hb; cases h
        refine ⟨e, ?_, rfl, by rw [h3]; exact h1⟩
        simp [Nat.eq_of_beq_eq_true hb]
      · rename_i hb
        obtain ⟨e', k1, k2⟩ := bornOf_sound h (by rw [h4]; exact h2)
        refine ⟨e', ?_, k2⟩
        have : (e.born == s) = false := by rw [beq_eq_false_iff_ne]; exact Nat.ne_of_beq_eq_false hb
        rw [List.find?_cons, this]; exact k1
def mapEntryNow (look : Nat → Option Ent) (x : AV) : Option AV :=
  match x with
  | .ptr l i 0 0 => match look l with
    | some e => match decide (e.id = i) with
      | true => match e.obj with
        | .mit lm im _ seen last => match look lm, seen.getLast? with
          | some em, some s => match decide (em.id = im) with
            | true => match em.obj with
              | .map _ bs ck ks vs => match Nat.beq ck last with
                | true => match bornOf s bs ks vs with
                  | some q => some (.tup [.lit q.1, q.2])
                  | none => none
                | false => none
              | _ => none
            | false => none
          | _, _ => none
        | _ => none
      | false => none
    | none => none
  | _ => none
theorem mapEntryNow_sound {P : Program} {E : Env} {τ : Hp} {w : World} (hh : Holds E τ w) {look : Nat → Option Ent} (hl : ∀ l e, look l = some e → aget τ l = some e) {x y : AV} {v : Value}
    (hx : VR E x v) (h : mapEntryNow look x = some y) : ∃ u, (Instr.entry v).run P w = .ok u w ∧ VR E y u := by
  unfold mapEntryNow at h
  split at h
  · rename_i l i
    obtain ⟨b0, base0, sz0, cap0, h1, rfl⟩ := hx.ptr_inv
    split at h
    · rename_i e he
      split at h
      · rename_i hid
        have hid := of_decide_eq_true hid
        split at h
        · rename_i lm im since seen last hobj
          split at h
          · rename_i em s hem hs
            split at h
            · rename_i him
              have him := of_decide_eq_true him
              split at h
              · rename_i pu bs ck ks vs hobm
                split at h
                · rename_i hck
                  have hck := Nat.eq_of_beq_eq_true hck
                  split at h
                  · rename_i q hq; cases h
                    obtain ⟨L, k1, k2⟩ := hh.own l e (hl l e he)
                    rw [hid, h1] at k1; cases k1
                    rw [hobj] at k2
                    cases k2 with
                    | mit hw hm =>
                      rename_i bm base' sz' cap'
                      obtain ⟨L, k3, k4⟩ := hh.own lm em (hl lm em hem)
                      rw [him, hm] at k3; cases k3
                      rw [hobm] at k4
                      cases k4 with
                      | map hwm hks hus hvs hb hnd hbs =>
                        rename_i es us
                        subst hks hus hbs
                        obtain ⟨e1, f1, f2, f3⟩ := bornOf_sound hq hvs
                        have hg : (getObj b0).run P w = .ok (.mapIter (some bm) since seen.toArray last) w := by simp only [getObj, Sem.run, hw]
                        have hgm : (getObj bm).run P w = .ok (.map es ck) w := by simp only [getObj, Sem.run, hwm]
                        have hbk : seen.toArray.back? = some s := by rw [List.back?_toArray]; exact hs
                        have hfa : es.find? (fun x => x.born == s) = some e1 := by rw [← Array.find?_toList]; exact f1
                        subst hck
                        refine ⟨.tuple #[e1.key, e1.val], ?_, ?_⟩
                        · simp only [Nat.zero_mul, Nat.add_zero, Instr.entry, Sem.run_bind, hg, Result.andThen_ok, hbk, hgm, bne_self_eq_false, Bool.false_eq_true, if_false, hfa, Sem.run_pure]
                        · rw [f2]
                          exact .tup (.vcons (.lit _) (.vcons (f3.mono (E.sel_le _)) .vnil))
                  · cases h
                · cases h
              · cases h
            · cases h
          · cases h
        · cases h
      · cases h
    · cases h
  · cases h
/-- The entries that are left, each with its stamp. -/
def leftE (seen : List Nat) : List Nat → List Value → List AV → List (Nat × Value × AV)
  | b :: bs, k :: ks, v :: vs => match hasB seen b with
    | true => leftE seen bs ks vs
    | false => (b, k, v) :: leftE seen bs ks vs
  | _, _, _ => []
where hasB : List Nat → Nat → Bool
  | [], _ => false
  | a :: r, b => Nat.beq a b || hasB r b
theorem hasB_iff : ∀ {l : List Nat} {b : Nat}, leftE.hasB l b = l.contains b
  | [], b => rfl
  | a :: r, b => by
    unfold leftE.hasB
    rw [hasB_iff, List.contains_cons]
    congr 1
    cases h : Nat.beq a b
    · have := Nat.ne_of_beq_eq_false h
      simp; omega
    · have := Nat.eq_of_beq_eq_true h
      simp [this]
theorem leftE_sound {E : Env} {seen : List Nat} : ∀ {es : List MapEntry} {vs : List AV}, RR E .vs vs (es.map (·.val)) → (leftE seen (es.map (·.born)) (es.map (·.key)) vs).length = (es.filter fun e => !seen.contains e.born).length ∧
    ∀ e, e ∈ (es.filter fun e => !seen.contains e.born) → ∃ q ∈ leftE seen (es.map (·.born)) (es.map (·.key)) vs, q.1 = e.born ∧ q.2.1 = e.key ∧ VR E q.2.2 e.val
  | [], vs, _ => by simp [leftE]
  | e :: es, vs, hv => by
    cases vs with
    | nil => have := hv.vs_length; simp at this
    | cons v vs =>
      obtain ⟨u, us, h1, h2, h3⟩ := hv.vs_cons_inv
      rw [List.map_cons] at h3; injection h3 with h3 h4
      obtain ⟨k1, k2⟩ := leftE_sound (seen := seen) (by rw [h4]; exact h2)
      rw [List.map_cons, List.map_cons]
      unfold leftE
      rw [hasB_iff, List.filter_cons]
      cases hc : seen.contains e.born with
      | true => simp only [Bool.not_true, Bool.false_eq_true, if_false]; exact ⟨k1, k2⟩
      | false =>
        simp only [Bool.not_false, if_true, List.length_cons, k1, true_and]
        intro e' he'
        rcases List.mem_cons.1 he' with rfl | he'
        · exact ⟨_, List.mem_cons_self .., rfl, rfl, by rw [h3]; exact h1⟩
        · obtain ⟨q, g1, g2⟩ := k2 e' he'; exact ⟨q, List.mem_cons_of_mem _ g1, g2⟩
end
end Go.AS
