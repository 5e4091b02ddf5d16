/- A step of a range over a map: whichever entry comes. -/
import Derived.Test.YtnenknghinpliaaGreatDoorASz
namespace Go.AS
noncomputable section

def allLt (n : Nat) : List Nat → Bool
  | [] => true
  | b :: r => Nat.blt b n && allLt n r
theorem allLt_sound {n : Nat} : ∀ {l : List Nat}, allLt n l = true → ∀ b ∈ l, b < n
  | [], _, b, hb => by cases hb
  | a :: r, h, b, hb => by
    rw [allLt, Bool.and_eq_true] at h
    rcases List.mem_cons.1 hb with rfl | hb
    · exact Nat.lt_of_lt_of_le (Nat.lt_succ_self _) (Nat.le_of_ble_eq_true h.1)
    · exact allLt_sound h.2 b hb
def mapNextN (look : Nat → Option Ent) (x : AV) : Option (List Res) :=
  match x with
  | .ptr l i 0 0 => match look l with
    | some e => match decide (e.id = i) with
      | true => match e.obj with
        | .mit lm im since seen last => match look lm with
          | some em => match decide (em.id = im) with
            | true => match em.obj with
              | .map _ bs ck ks vs => match allLt since bs && Nat.ble since last with
                | true => match leftE seen bs ks vs with
                  | [] => some [⟨.lit (.tuple #[.bool false]), [], true⟩]
                  | q :: qs => some ((q :: qs).map fun q => ⟨.tup [.lit (.bool true), .lit q.2.1, q.2.2], [(l, ⟨i, .mit lm im since (seen ++ [q.1]) ck⟩)], true⟩)
                | false => none
              | _ => none
            | false => none
          | none => none
        | _ => none
      | false => none
    | none => none
  | _ => none
theorem run_nextAt {P : Program} {w : World} {r bm since last clock : Nat} {seen : List Nat} {es : Array MapEntry} (ty : TypeId) (hr : w.heap[r]? = some (.mapIter (some bm) since seen.toArray last)) (hb : w.heap[bm]? = some (.map es clock)) (hold : ∀ x ∈ es.toList, x.born < since)
    (hsc : since ≤ last) :
    ((es.toList.filter fun e => !seen.contains e.born) = [] ∧ (Instr.next (.pointer (some ⟨r, 0, none⟩)) false ty).run P w = .ok (.tuple #[.bool false]) w) ∨
    ∃ e ∈ (es.toList.filter fun e => !seen.contains e.born), ∃ n, (Instr.next (.pointer (some ⟨r, 0, none⟩)) false ty).run P w = .ok (.tuple #[.bool true, e.key, e.val]) { w with drawn := n, heap := w.heap.setIfInBounds r (.mapIter (some bm) since (seen ++ [e.born]).toArray clock) } := by
  have hg : (getObj r).run P w = .ok (.mapIter (some bm) since seen.toArray last) w := by simp only [getObj, Sem.run, hr]
  have hgm : (getObj bm).run P w = .ok (.map es clock) w := by simp only [getObj, Sem.run, hb]
  have hL : es.filter (fun e => !seen.toArray.contains e.born) = (es.toList.filter fun e => !seen.contains e.born).toArray := by
    apply Array.ext'; simp
  simp only [Instr.next, Sem.run_bind, hg, hgm, Result.andThen_ok, next_test_false seen.toArray es since last hold hsc, Bool.false_eq_true, if_false, hL]
  have hmem : ∀ x ∈ (es.toList.filter fun e => !seen.contains e.born), x.born < since := fun x hx => hold x (List.mem_filter.1 hx).1
  generalize (es.toList.filter fun e => !seen.contains e.born) = L at hmem ⊢
  have e1 : L.toArray.filter (fun x => decide (x.born < since)) = L.toArray := Array.filter_eq_self.2 (fun x hx => by simpa using hmem x (by simpa using hx))
  have e2 : L.toArray.filter (fun x => decide (x.born ≥ since)) = #[] := by
    rw [Array.filter_eq_empty_iff]
    intro x hx
    have := hmem x (by simpa using hx)
    simp
    omega
  simp only [e1, e2, Array.append_empty]
  cases L with
  | nil =>
    left
    refine ⟨rfl, ?_⟩
    simp [choose, Sem.run, Question.forced]
  | cons a L =>
    right
    have hne : (a :: L).toArray.isEmpty = false := by simp [Array.isEmpty]
    simp only [hne, Bool.false_eq_true, if_false, Array.empty_append, Array.size_map, List.size_toArray]
    have hch : ∃ (j n : Nat), j < (a :: L).length ∧ (choose (Question.mapNext (a :: L).length)).run P w = .ok j { w with drawn := n } := by
      by_cases hf : (a :: L).length ≤ 1
      · exact ⟨0, w.drawn, by simp, by simp only [choose, Sem.run, Question.forced, decide_eq_true_eq, hf, if_true]⟩
      · exact ⟨_, w.drawn + 1, Nat.mod_lt _ (by simp), by
          simp only [choose, Sem.run, Question.forced, decide_eq_true_eq, hf, if_false, Question.cut]
          rfl⟩
    obtain ⟨j, n, hj, hrun⟩ := hch
    refine ⟨(a :: L)[j], List.getElem_mem hj, n, ?_⟩
    have hset : (setObj r (.mapIter (some bm) since (seen.toArray.push (a :: L)[j].born) clock)).run P { w with drawn := n } = .ok () { w with drawn := n, heap := w.heap.setIfInBounds r (.mapIter (some bm) since (seen.toArray.push (a :: L)[j].born) clock) } := by
      simp only [setObj, Sem.run, hr]
    have hget : ((a :: L).toArray.map some)[j]? = some (some (a :: L)[j]) := by
      rw [Array.getElem?_map]
      have : (a :: L).toArray[j]? = some (a :: L)[j] := by rw [List.getElem?_toArray, List.getElem?_eq_getElem hj]
      rw [this]; rfl
    simp only [hrun, Result.andThen_ok, hget, Sem.run_bind, hset, Sem.run_pure]
    simp
theorem mapNextN_sound {P : Program} {E : Env} {τ : Hp} {w : World} (hh : Holds E τ w) {look : Nat → Option Ent} (hl : ∀ l e, look l = some e → aget τ l = some e) {x : AV} {v : Value} (hx : VR E x v) {rs : List Res} (h : mapNextN look x = some rs) (ty : TypeId) (p : Id) :
    ∃ r ∈ rs, r.ok = true ∧ Ret P (Instr.next v false ty) E τ w p r.x r.upd := by
  unfold mapNextN at h
  split at h
  · rename_i l i
    obtain ⟨b0, base0, sz0, cap0, h1, rfl⟩ := hx.ptr_inv
    split at h
    · rename_i e he
      split at h
      · rename_i hid
        have hid := of_decide_eq_true hid
        split at h
        · rename_i lm im since seen last hobj
          split at h
          · rename_i em hem
            split at h
            · rename_i him
              have him := of_decide_eq_true him
              split at h
              · rename_i pu bs ck ks vs hobm
                split at h
                · rename_i hc
                  rw [Bool.and_eq_true] at hc
                  have hlt := allLt_sound hc.1
                  have hsc := Nat.le_of_ble_eq_true hc.2
                  have hget := hl l e he
                  obtain ⟨L, k1, k2⟩ := hh.own l e hget
                  rw [hid, h1] at k1; cases k1
                  rw [hobj] at k2
                  cases k2 with
                  | mit hw hm =>
                    rename_i bm base' sz' cap'
                    obtain ⟨L, k3, k4⟩ := hh.own lm em (hl lm em hem)
                    rw [him, hm] at k3; cases k3
                    rw [hobm] at k4
                    cases k4 with
                    | map hwm hks hus hvs hb hnd hbs =>
                      rename_i es us
                      subst hks hus hbs
                      obtain ⟨q1, q2⟩ := leftE_sound (seen := seen) hvs
                      simp only [Nat.zero_mul, Nat.add_zero]
                      rcases run_nextAt (P := P) ty hw hwm (fun x hx => hlt _ (List.mem_map_of_mem hx)) hsc with ⟨g1, g2⟩ | ⟨e1, g1, n, g2⟩
                      · have : leftE seen (es.toList.map (·.born)) (es.toList.map (·.key)) vs = [] := by
                          apply List.eq_nil_of_length_eq_zero; rw [q1, g1]; rfl
                        rw [this] at h; cases h
                        exact ⟨_, List.mem_singleton.2 rfl, rfl, Ret.pure hh g2 (.lit _)⟩
                      · obtain ⟨q, f1, f2, f3, f4⟩ := q2 e1 g1
                        split at h
                        · rename_i hnil; rw [hnil] at f1; cases f1
                        · rename_i q0 qs hcons; cases h
                          rw [hcons] at f1
                          refine ⟨_, List.mem_map.2 ⟨q, f1, rfl⟩, rfl, ?_⟩
                          have hlt0 : b0 < w.heap.size := by rw [Array.getElem?_eq_some_iff] at hw; exact hw.1
                          have hh1 : Holds E τ { w with drawn := n } := hh.world rfl
                          have hw' : (w.heap.setIfInBounds b0 (.mapIter (some bm) since (seen ++ [e1.born]).toArray ck))[b0]? = some (.mapIter (some bm) since (seen ++ [e1.born]).toArray ck) := by simp [hlt0]
                          obtain ⟨r1, r2⟩ := hh1.write (w' := { w with drawn := n, heap := w.heap.setIfInBounds b0 (.mapIter (some bm) since (seen ++ [e1.born]).toArray ck) }) hget (by rw [hid]; exact h1) rfl (.mit lm im since (seen ++ [q.1]) ck)
                            (by rw [f2]; exact .mit hw' hm) (by simp) (fun c hc => by simp only [Array.getElem?_setIfInBounds, Ne.symm hc, if_false]) rfl rfl rfl
                          rw [hid] at r1 r2
                          refine ⟨_, _, E, g2, ?_, r1, (Adv.drew E τ w n).trans r2, .refl _ _⟩
                          rw [f3]
                          exact .tup (.vcons (.lit _) (.vcons (.lit _) (.vcons (f4.mono (E.sel_le _)) .vnil)))
                · cases h
              · cases h
            · cases h
          · cases h
        · cases h
      · cases h
    · cases h
  · cases h
end
end Go.AS
