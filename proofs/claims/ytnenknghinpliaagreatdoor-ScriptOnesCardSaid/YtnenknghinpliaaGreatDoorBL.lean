/- A builder's WriteString and String at this program, walked: what they do to the builder's two blocks, and that nothing else turns. No condition on what comes in but that it is a builder. -/
import Derived.Test.YtnenknghinpliaaGreatDoorHX
import Derived.Test.YtnenknghinpliaaGreatDoorASbl
import Derived.Test.YtnenknghinpliaaGreatDoorASsp
import Derived.WalkKit
import Derived.BigCall
namespace Go.Proofs.YtnenknghinpliaaGreatDoor
open Go.RowKit Go.Shelf Go.AS
section
variable {P : Program} {w : World}
theorem appStr (t u ty e : TypeId) (i : TypeInfo) (ht : P.underlying t = some (.slice e)) (hu : P.underlying u = some .string) (hi : P.info? e = some i) (hz : i.zero = some (.int .u8 0)) (hsize : i.size = 1) (hby : i.bytes = 1)
    (v : Value) (n : Nat) (xs : List Value) (hown : w.ownsRow 0 e 1 v n xs) (s : ByteArray) (hbytes : n + s.size ≤ 140737488355328) :
    ∃ v' w', (Builtin.append_ #[t, u] ty #[v, .string s]).run P w = .ok v' w' ∧ w'.ownsRow 0 e 1 v' (n + s.size) (xs ++ Lib.strCells s) ∧ w.grownBy w' v.ownBlock ∧ ∀ g, v'.ownBlock = some g → v.ownBlock = some g ∨ w.heap.size ≤ g := by
  obtain ⟨v', w', hr, h2, h3, h4⟩ := Lib.run_append_own_string (P := P) w 0 t u ty e i ht hu hi hz hsize hby v n xs hown s (by unfold maxLen; omega) hbytes (Nat.zero_le _)
  refine ⟨v', w', hr, h2, h3, fun g hg => ?_⟩
  have hxl : xs.length = n := by simpa using hown.1
  rcases hown.2 with ⟨rfl, rfl⟩ | ⟨b, cap, cur, rfl, _, hc, hnc, hcm, hcs, htake⟩
  · by_cases hm : s.size = 0
    · have := h4.2 ⟨rfl, hm⟩
      subst this
      simp [Value.ownBlock] at hg
    · have hr2 := run_append_nil_string (P := P) (w := w) t u ty e i (.int .u8 0) ht hu hi hz s (by omega) (by omega) (by rw [hby]; omega)
      rw [hr] at hr2
      cases hr2
      simp [Value.ownBlock] at hg
      exact .inr (by omega)
  · by_cases hroom : n + s.size ≤ cap
    · have hr2 := Lib.run_append_room_string (P := P) w t u ty e i ht hu hi hsize b n cap cur hc s hroom (by rw [hcs]; omega)
      rw [hr] at hr2
      cases hr2
      exact .inl hg
    · have holds : ∀ j u, xs[j]? = some u → w.cell? ((⟨b, 0, none⟩ : Addr).add j) = some u := hown.cells (g := b) rfl
      have hr2 := Lib.run_append_grow_string (P := P) w t u ty e i (.int .u8 0) ht hu hi hz ⟨b, 0, none⟩ n cap xs (by rw [hsize]; simpa using hxl) holds s (by omega) (by omega) (by rw [hby]; exact growslice_fits (by omega) (by omega))
      rw [hr] at hr2
      cases hr2
      simp [Value.ownBlock] at hg
      exact .inr (by omega)
theorem wpApp {ops : Array Oper} {rest : List Oper} {o : Oper} {a : Act} {Q : Exit → Act → World → Prop} (hgd : o.guard = none) (sl x : Operand) (t u : TypeId)
    (ho : o.op = .call { callee := .builtin .append, args := #[sl, x], argTypes := #[t, u] }) (v v' : Value) (w' : World) (s : ByteArray) (hs : a.eval sl = v) (hx : a.eval x = .string s)
    (hr : (Builtin.append_ #[t, u] o.type #[v, .string s]).run P w = .ok v' w') (h : wpList P ops Q rest (a.put o.dst v') w') : wpList P ops Q (o :: rest) a w := by
  refine wpList_plain hgd fun K hK => ?_
  unfold Oper.wp execOp
  simp only [ho, resolve, invoke, builtin, Sem.run_bind, Sem.run_pure, Result.andThen_ok, List.map_toArray, List.map_cons, List.map_nil, hs, hx, hr]
  exact hK _ _ h
end
theorem setCell_at {w : World} {b o : Nat} {c : Array Value} {t : TypeId} {fz : Nat × Nat} (v : Value) (h : w.heap[b]? = some (.cells c t fz)) : (w.setCell ⟨b, o, none⟩ v).heap[b]? = some (.cells (c.setIfInBounds o v) t fz) := by
  show (Array.modify w.heap _ _)[b]? = _
  rw [Array.getElem?_modify, if_pos rfl, h]
  rfl
theorem setCell_other {w : World} {b o k : Nat} (v : Value) (h : k ≠ b) : (w.setCell ⟨b, o, none⟩ v).heap[k]? = w.heap[k]? := by
  show (Array.modify w.heap _ _)[k]? = _
  rw [Array.getElem?_modify, if_neg (Ne.symm h)]
theorem setCell_size (w : World) (b o : Nat) (v : Value) : (w.setCell ⟨b, o, none⟩ v).heap.size = w.heap.size := by
  show (Array.modify w.heap _ _).size = _
  rw [Array.size_modify]
set_option maxHeartbeats 2000000 in
set_option maxRecDepth 100000 in
theorem wsOk : WsOk Tryz.prog 17 43 5 := by
  intro b v bs s w hB hlen hs0
  obtain ⟨i0, hi, hz0, hz1, hz2⟩ := info_parts infoByte
  obtain ⟨⟨u, hbk, hu⟩, hown, hne⟩ := hB
  have e24 : ∀ args w, (callFunc 24 args).run Tryz.prog w = .ok (.enter 24 args) w := enters_of Tryz.func24 (by kernel_rfl) rfl
  have hblt : b < w.heap.size := (Array.getElem?_eq_some_iff.1 hbk).1
  have hcc : Calls Tryz.prog 24 #[.pointer (some ⟨b, 0, none⟩)] w fun e w' => e = .returned (.tuple #[]) ∧ w'.heap[b]? = some (.cells #[.pointer (some ⟨b, 0, none⟩), v] 43 (0, 0)) ∧ (∀ k, k ≠ b → w'.heap[k]? = w.heap[k]?) ∧ w'.heap.size = w.heap.size ∧ w'.os = w.os ∧ w'.tape = w.tape ∧ w'.output = w.output := by
    rcases hu with rfl | rfl
    · refine (cc_fresh b w (by rw [Lib.cell_of_heap hbk]; rfl) (by simp [World.shape?, hbk]) (Lib.frozen_of_heap hbk 0)).mono ?_
      rintro e w' ⟨rfl, rfl⟩
      exact ⟨rfl, setCell_at _ hbk, fun k hk => setCell_other _ hk, setCell_size .., rfl, rfl, rfl⟩
    · refine (cc_used b w (by rw [Lib.cell_of_heap hbk]; rfl)).mono ?_
      rintro e w' ⟨rfl, rfl⟩
      exact ⟨rfl, hbk, fun _ _ => rfl, rfl, rfl, rfl, rfl⟩
  go_enter Tryz.func17, Tryz.ntmps17
  go_wp2_with (go_at_fn 24; refine hcc.mono ?_)
  rintro e w1 ⟨rfl, hb1, hk1, hs1, ho1, ht1, hp1⟩
  have c1 : w1.cell? ⟨b, 1, none⟩ = some v := by rw [Lib.cell_of_heap hb1]; rfl
  have hown1 : w1.ownsRow 0 5 1 v bs.length (Lib.strCells ⟨bs.toArray⟩) := by
    refine ⟨hown.1, ?_⟩
    rcases hown.2 with h | ⟨g, cap, cur, rfl, h1, h2, h3⟩
    · exact .inl h
    · exact .inr ⟨g, cap, cur, rfl, h1, by rw [hk1 g (fun e => hne (by rw [e]; rfl))]; exact h2, h3⟩
  obtain ⟨v', w2, hr, hown', hgrow, hnew⟩ := appStr (P := Tryz.prog) (w := w1) 28 9 28 5 i0 Tryz.underlying28 Tryz.underlying9 hi hz0 hz1 hz2 v bs.length _ hown1 s hlen
  have hb2 : w2.heap[b]? = some (.cells #[.pointer (some ⟨b, 0, none⟩), v] 43 (0, 0)) := by
    rw [hgrow.block b (by rw [hs1]; exact hblt) (fun e => hne e.symm)]
    exact hb1
  have d1 : w2.cell? ⟨b, 1, none⟩ = some v := by rw [Lib.cell_of_heap hb2]; rfl
  have f1 : w2.frozen? ⟨b, 1, none⟩ = false := Lib.frozen_of_heap hb2 1
  have hne' : v'.ownBlock ≠ some b := fun e => by
    rcases hnew b e with h | h
    · exact hne h
    · omega
  obtain ⟨ao, n', cap, rfl⟩ : ∃ ao n' cap, v' = .slice ao n' cap := by
    rcases hown'.2 with ⟨hv, _⟩ | ⟨g, cap, cur, hv, _⟩
    · exact ⟨_, _, _, hv⟩
    · exact ⟨_, _, _, hv⟩
  have hfin : ∃ v', BldW 43 5 b v' (bs ++ s.data.toList) (w2.setCell ⟨b, 1, none⟩ (.slice ao n' cap)) ∧ BldN b v w (w2.setCell ⟨b, 1, none⟩ (.slice ao n' cap)) ∧ ∀ g, v'.ownBlock = some g → v.ownBlock = some g ∨ w.heap.size ≤ g := by
    have hb3 : (w2.setCell ⟨b, 1, none⟩ (.slice ao n' cap)).heap[b]? = some (.cells #[.pointer (some ⟨b, 0, none⟩), .slice ao n' cap] 43 (0, 0)) := setCell_at _ hb2
    have hk3 : ∀ k, k ≠ b → (w2.setCell ⟨b, 1, none⟩ (.slice ao n' cap)).heap[k]? = w2.heap[k]? := fun k hk => setCell_other _ hk
    refine ⟨.slice ao n' cap, ⟨⟨_, hb3, .inr rfl⟩, ?_, hne'⟩, ⟨?_, ?_, ?_, ?_, fun k hk1' hk2 hk4 => ?_⟩, fun g hg => ?_⟩
    · have hl : (bs ++ s.data.toList).length = bs.length + s.size := by rw [List.length_append, Array.length_toList]; rfl
      have hc : Lib.strCells ⟨(bs ++ s.data.toList).toArray⟩ = Lib.strCells ⟨bs.toArray⟩ ++ Lib.strCells s := by simp [Lib.strCells]
      rw [hl, hc]
      refine ⟨hown'.1, ?_⟩
      rcases hown'.2 with h | ⟨g, cap', cur, h0, h1, h2, h3⟩
      · exact .inl h
      · exact .inr ⟨g, cap', cur, h0, h1, by rw [hk3 g (fun e => hne' (by rw [h0, e]; rfl))]; exact h2, h3⟩
    · exact hgrow.os.trans ho1
    · exact hgrow.tape.trans ht1
    · exact hgrow.output.trans hp1
    · have := hgrow.size
      rw [setCell_size]; omega
    · rw [hk3 k hk2, hgrow.block k (by omega) hk4, hk1 k hk2]
    · rcases hnew g hg with h | h
      · exact .inl h
      · exact .inr (by omega)
  go_wp2_with (at_builtin; refine wpApp rfl _ _ 28 9 rfl v (.slice ao n' cap) w2 s rfl rfl hr ?_)
  go_wp2
  go_ret2
  exact ⟨rfl, hfin⟩
set_option maxHeartbeats 2000000 in
set_option maxRecDepth 100000 in
theorem stOk : StOk Tryz.prog 15 43 5 := by
  intro b v bs w hB h0
  obtain ⟨⟨u, hbk, hu⟩, hown, hne⟩ := hB
  by_cases hl : bs.length = 0
  · obtain rfl : v = .slice none 0 0 := h0.resolve_left (fun h => h hl)
    obtain rfl := List.eq_nil_of_length_eq_zero hl
    have c1 : w.drew.cell? ⟨b, 1, none⟩ = some (.slice none 0 0) := by
      have : w.drew.heap[b]? = some (.cells #[u, .slice none 0 0] 43 (0, 0)) := hbk
      rw [Lib.cell_of_heap this]; rfl
    have hSD : (Builtin.unsafeSliceData_ #[28] 71 #[.slice none 0 0]).run Tryz.prog w.drew = .ok (.pointer none) w.drew := rfl
    have hUS := Lib.run_unsafeString_none (P := Tryz.prog) w.drew 71 3 9 none
    go_enter Tryz.func15, Tryz.ntmps15
    go_wp2
    go_region
    all_goals (go_wp2; go_ret; exact ⟨rfl, ⟨rfl, rfl, rfl, Nat.le_refl _, fun _ _ _ _ => rfl⟩⟩)
  · rcases hown.2 with ⟨_, h⟩ | ⟨g, cap, cur, rfl, _, hg, hn, hm, hcs, ht⟩
    · exact absurd h hl
    · have c1 : w.drew.cell? ⟨b, 1, none⟩ = some (.slice (some ⟨g, 0, none⟩) bs.length cap) := by
        have : w.drew.heap[b]? = some (.cells #[u, .slice (some ⟨g, 0, none⟩) bs.length cap] 43 (0, 0)) := hbk
        rw [Lib.cell_of_heap this]; rfl
      have hSD : (Builtin.unsafeSliceData_ #[28] 71 #[.slice (some ⟨g, 0, none⟩) bs.length cap]).run Tryz.prog w.drew = .ok (.pointer (some ⟨g, 0, none⟩)) w.drew :=
        Lib.run_unsafeSliceData_row _ _ _ _ _ _ (by omega)
      have hUS : (Builtin.unsafeString_ #[71, 3] 9 #[.pointer (some ⟨g, 0, none⟩), .int .i64 bs.length]).run Tryz.prog w.drew = .ok (.string ⟨bs.toArray⟩) (w.drew.freeze ⟨g, 0, none⟩ bs.length) := by
        refine Lib.run_unsafeString_row w.drew 71 3 9 5 Tryz.underlying71 (by kernel_rfl) g cur.size (by have hg' : w.drew.heap[g]? = some (.cells cur 5 (0, 0)) := hg; simp [World.shape?, hg']) bs (fun h => hl (by rw [h]; rfl)) (by omega) (by unfold maxLen at hm; omega) ?_
        intro j x hx
        exact hown.cells (g := g) rfl j (.int .u8 x.toNat) (by simp [Lib.strCells, hx])
      have hfin : ∀ (w' : World), w' = w.drew.freeze ⟨g, 0, none⟩ bs.length → BldN b (.slice (some ⟨g, 0, none⟩) bs.length cap) w w' := by
        rintro w' rfl
        unfold World.freeze
        rw [if_neg hl]
        refine ⟨rfl, rfl, rfl, ?_, fun k _ _ hk => ?_⟩
        · show w.heap.size ≤ (Array.modify _ _ _).size
          rw [Array.size_modify]
          exact Nat.le_refl _
        · have hkg : g ≠ k := fun e => hk (by rw [e]; rfl)
          show (Array.modify w.heap _ _)[k]? = _
          rw [Array.getElem?_modify, if_neg hkg]
      go_enter Tryz.func15, Tryz.ntmps15
      go_wp2
      go_region
      all_goals (go_wp2; go_ret; exact ⟨rfl, hfin _ rfl⟩)
theorem countB_one (s : ByteArray) (c : UInt8) : Lib.countB s ⟨#[c]⟩ = s.data.toList.count c := Lib.count_one _ _
set_option maxHeartbeats 1000000 in
theorem splitOne (s : ByteArray) (c : UInt8) (w : World) (hs : s.size ≤ 1000000) : Calls Tryz.prog 18 #[.string s, .string ⟨#[c]⟩] w fun e w' =>
    e = .returned (.slice (some ⟨w.heap.size, 0, none⟩) (Lib.countB s ⟨#[c]⟩ + 1) (Lib.countB s ⟨#[c]⟩ + 1)) ∧ w' = w.alloc (.cells ((Lib.splitB ⟨#[c]⟩ 0 (Lib.countB s ⟨#[c]⟩) s).map Value.string).toArray 9) := by
  have h1 : 1 ≤ (ByteArray.mk #[c]).size := Nat.le_refl 1
  have hle := Lib.countB_le ⟨#[c]⟩ h1 s.size s (Nat.le_refl _)
  have hlen := Lib.splitB_all ⟨#[c]⟩ h1 0 _ s rfl
  have hI : ∀ (x : ByteArray) (q : Array Value), x.size ≤ s.size → Calls Tryz.prog (Tryz.lays221_ren.f 143) #[.string x, .string ⟨#[c]⟩] (w.alloc (.cells q (Tryz.lays221_ren.t 9))) fun e w' =>
      e = .returned (.int .i64 (Lib.indexB x ⟨#[c]⟩)) ∧ w' = w.alloc (.cells q (Tryz.lays221_ren.t 9)) := fun x q _ => by
    refine (Tryz.strings_Index_one x c _).mono ?_
    rintro e w' ⟨rfl, rfl⟩
    refine ⟨?_, rfl⟩
    show Ending.returned (Value.int .i64 _) = Ending.returned (Value.int .i64 (Lib.index x.data.toList [c]))
    rw [Lib.index_one]
  have hC : Calls Tryz.prog (Tryz.lays221_ren.f 138) #[.string s, .string ⟨#[c]⟩] w fun e w' => e = .returned (.int .i64 (Lib.countB s ⟨#[c]⟩)) ∧ w' = w := by
    refine (Tryz.strings_Count_one s c w).mono ?_
    rintro e w' ⟨rfl, rfl⟩
    refine ⟨?_, rfl⟩
    rw [countB_one]
    rfl
  have k := Any.strings_genSplit_core Tryz.lays221 (by kernel_rfl) s ⟨#[c]⟩ 0 (-1) (Lib.countB s ⟨#[c]⟩ + 1) w (by omega) h1 (Nat.zero_le _) hI hC (by decide) (by decide) (by rw [if_pos (by decide)]; omega)
  rw [Nat.add_sub_cancel, hlen] at k
  have e2 : Lib.cellsOf (Lib.splitB ⟨#[c]⟩ 0 (Lib.countB s ⟨#[c]⟩) s) (Lib.countB s ⟨#[c]⟩ + 1) = ((Lib.splitB ⟨#[c]⟩ 0 (Lib.countB s ⟨#[c]⟩) s).map Value.string).toArray := by rw [← hlen]; exact Lib.cellsOf_full _
  rw [e2] at k
  have k : Calls Tryz.prog 26 #[.string s, .string ⟨#[c]⟩, .int .i64 0, .int .i64 (-1)] w _ := k
  have e26 : ∀ args w, (callFunc 26 args).run Tryz.prog w = .ok (.enter 26 args) w := enters_of Tryz.func26 (by kernel_rfl) rfl
  go_enter Tryz.func18, Tryz.ntmps18
  go_wp2_with (go_at_fn 26; refine k.mono ?_; rintro e w' ⟨rfl, hw⟩; rw [hw])
  go_ret
  exact ⟨rfl, rfl⟩
end Go.Proofs.YtnenknghinpliaaGreatDoor
