/- hex.Text at any 32 bytes: its text; (*strings.Builder).copyCheck and WriteByte at this program, walked. No condition on what comes in but that it is bytes; a builder is one as the library says it. -/
import Derived.Test.YtnkhdbbjmmjkoaaGreatDoorHS
import Derived.WalkKit
import Derived.BigCall
import Derived.Shelf.Strings.Builder1
namespace Go.Proofs.YtnkhdbbjmmjkoaaGreatDoor
open Go.RowKit Go.Shelf
theorem sizeBuilder : (Tryz.prog.info? 380).map (·.size) = some 2 := by kernel_rfl
theorem liesBuilder : liesAt Tryz.prog Tryz.prog.depth 380 (2 / Tryz.prog.cellsOf 380) 0 380 1 = true := by kernel_rfl
theorem infoByte : (Tryz.prog.info? 5).map (fun i => (i.zero, i.size, i.bytes)) = some (some (.int .u8 0), 1, 1) := by kernel_rfl
set_option maxHeartbeats 1000000 in
set_option maxRecDepth 100000 in
theorem cc_used (b : Nat) (w : World) (h0 : w.cell? ⟨b, 0, none⟩ = some (.pointer (some ⟨b, 0, none⟩))) :
    Calls Tryz.prog 247 #[.pointer (some ⟨b, 0, none⟩)] w fun e w' => e = .returned (.tuple #[]) ∧ w' = w := by
  obtain ⟨j, hj, _⟩ := Option.map_eq_some_iff.1 sizeBuilder
  go_enter Tryz.func247, Tryz.ntmps247
  go_wp2
  rw [Lib.run_neq_ptr_same w _ Tryz.underlying378 hj]
  go_wp2
  go_end0
  exact ⟨rfl, rfl⟩
set_option maxHeartbeats 1000000 in
set_option maxRecDepth 100000 in
theorem cc_fresh (b : Nat) (w : World) (h0 : w.cell? ⟨b, 0, none⟩ = some (.pointer none)) (hsh : w.shape? b = some (380, 2)) (hfz : w.frozen? ⟨b, 0, none⟩ = false) :
    Calls Tryz.prog 247 #[.pointer (some ⟨b, 0, none⟩)] w fun e w' => e = .returned (.tuple #[]) ∧ w' = w.setCell ⟨b, 0, none⟩ (.pointer (some ⟨b, 0, none⟩)) := by
  obtain ⟨j, hj, hjs⟩ := Option.map_eq_some_iff.1 sizeBuilder
  go_enter Tryz.func247, Tryz.ntmps247
  go_wp2
  rw [Lib.run_to_unsafe w ⟨b, 0, none⟩ Tryz.underlying378 Tryz.underlying195 hj (by rw [hjs]; decide) hsh (Nat.zero_lt_succ 1)]
  simp only [Result.andThen]
  rw [Oper.upon_value]
  go_wp2
  rw [run_callFunc_extern Tryz.func249 (by kernel_rfl) (by kernel_rfl) (by kernel_rfl) (e := Extern.AbiNoEscape.same) (by kernel_rfl)]
  rw [Lib.run_noEscape]
  simp only [Result.andThen]
  rw [Oper.upon_value]
  go_wp2
  rw [Lib.run_from_unsafe w ⟨b, 0, none⟩ Tryz.underlying195 Tryz.underlying378 hj hsh liesBuilder]
  simp only [Result.andThen]
  rw [Oper.upon_value]
  go_wp2
  go_end0
  exact ⟨rfl, rfl⟩
theorem cc (B b : Nat) (bs : List Value) (w : World) (h : Lib.IsBuilder 380 5 B b bs w) :
    Calls Tryz.prog 247 #[.pointer (some ⟨b, 0, none⟩)] w fun e w' => e = .returned (.tuple #[]) ∧ (Lib.BuilderAt 380 5 B b (.pointer (some ⟨b, 0, none⟩)) bs w' ∧ Below B w w') := by
  rcases h with h | h
  · refine (cc_fresh b w h.cell0 h.shape h.frozen0).mono ?_
    rintro e w' ⟨rfl, rfl⟩
    exact ⟨rfl, h.used _, (Below.refl B w).setCell (p := ⟨b, 0, none⟩) h.1 _⟩
  · refine (cc_used b w h.cell0).mono ?_
    rintro e w' ⟨rfl, rfl⟩
    exact ⟨rfl, h, Below.refl B _⟩
set_option maxHeartbeats 2000000 in
set_option maxRecDepth 100000 in
theorem writeByte (B b : Nat) (bs : List Value) (c : Int) (w : World) (h : Lib.IsBuilder 380 5 B b bs w) (hlen : bs.length + 1 ≤ 140737488355328) (hBw : B ≤ w.heap.size) :
    Calls Tryz.prog 239 #[.pointer (some ⟨b, 0, none⟩), .int .u8 c] w fun e w' => e = .returned .nilIface ∧ (Lib.BuilderAt 380 5 B b (.pointer (some ⟨b, 0, none⟩)) (bs ++ [.int .u8 c]) w' ∧ Below B w w') := by
  obtain ⟨i0, hi, hz0, hz1, hz2⟩ := info_parts infoByte
  have e247 : ∀ args w, (callFunc 247 args).run Tryz.prog w = .ok (.enter 247 args) w := enters_of Tryz.func247 (by kernel_rfl) rfl
  go_enter Tryz.func239, Tryz.ntmps239
  go_wp2_with (go_at_fn 247; refine (cc B b bs _ h).mono ?_)
  rintro e w1 ⟨rfl, h1, hb1⟩
  obtain ⟨hB, v, hbk, hown, hne⟩ := h1
  have c0 : w1.cell? ⟨b, 0, none⟩ = some (.pointer (some ⟨b, 0, none⟩)) := by rw [Lib.cell_of_heap hbk]; rfl
  have c1 : w1.cell? ⟨b, 1, none⟩ = some v := by rw [Lib.cell_of_heap hbk]; rfl
  go_wp2_with (at_builtin; refine wpList_append_own _ rfl _ _ 34 rfl B 5 i0 (.int .u8 0) 1 1 Tryz.underlying34 hi hz0 hz1 hz2 rfl (by decide) _ _ _ rfl (hown.alloc _) ⟨w1.heap.size, 0, none⟩ 1 1 [.int .u8 c] rfl rfl ?c1 ?c2 ?c3 ?c4 ?c5 ?_)
  case c1 =>
    intro j u hj
    match j, hj with
    | 0, hj => simp at hj; subst hj; simp [Addr.add]
  case c2 => intro u hu; simp at hu; subst hu; rfl
  case c3 => unfold maxLen; omega
  case c4 => omega
  case c5 => have := hb1.size; simp; omega
  intro v' w2 hown' hgrow _
  have hlt : b < w1.heap.size := by
    rcases Nat.lt_or_ge b w1.heap.size with h' | h'
    · exact h'
    · simp [Array.getElem?_eq_none h'] at hbk
  have hb2 : w2.heap[b]? = some (.cells #[.pointer (some ⟨b, 0, none⟩), v] 380 (0, 0)) := by
    rw [hgrow.block b (by simp; omega) (fun e => hne e.symm), Lib.alloc_old w1 _ b hlt]
    exact hbk
  have d0 : w2.cell? ⟨b, 0, none⟩ = some (.pointer (some ⟨b, 0, none⟩)) := by rw [Lib.cell_of_heap hb2]; rfl
  have d1 : w2.cell? ⟨b, 1, none⟩ = some v := by rw [Lib.cell_of_heap hb2]; rfl
  have f1 : w2.frozen? ⟨b, 1, none⟩ = false := Lib.frozen_of_heap hb2 1
  obtain ⟨g, cap, rfl⟩ : ∃ g cap, v' = .slice (some ⟨g, 0, none⟩) (bs.length + 1) cap := by
    rcases hown'.2 with ⟨_, h0⟩ | ⟨g, cap, cur, hv, _⟩
    · omega
    · exact ⟨g, cap, hv⟩
  go_wp2
  go_ret
  refine ⟨rfl, ?_, ?_⟩
  · exact Lib.BuilderAt.put (T := 380) (e := 5) hB hb2 (bs' := bs ++ [.int .u8 c]) (by simpa using hown') (by decide)
  · exact ((hb1.alloc (by have := hb1.size; omega) _).grown hgrow (by have := hb1.size; simp; omega) (fun k hk => (hown.lt k hk).1)).setCell (p := ⟨b, 1, none⟩) hB _
def hexB : List UInt8 := [48, 49, 50, 51, 52, 53, 54, 55, 56, 57, 97, 98, 99, 100, 101, 102]
def hexD (n : Nat) : UInt8 := hexB.getD n 0
def hexP (f : Nat → Nat) : Nat → List UInt8
  | 0 => []
  | k + 1 => hexP f k ++ [hexD (f k / 16), hexD (f k % 16)]
theorem hexP_length (f : Nat → Nat) : ∀ k, (hexP f k).length = 2 * k
  | 0 => rfl
  | k + 1 => by simp only [hexP, List.length_append, hexP_length f k, List.length_cons, List.length_nil]; omega
set_option maxHeartbeats 4000000 in
set_option maxRecDepth 1000000 in
theorem hexText (cells : Array Value) (f : Nat → Nat) (hsz : cells.size = 32) (hc : ∀ k, k < 32 → cells[k]? = some (.int .u8 (f k))) (hf : ∀ k, f k < 256) (w : World) :
    Calls Tryz.prog 226 #[.agg cells] w fun e w' => e = .returned (.string ⟨(hexP f 32).toArray⟩) ∧ Below w.heap.size w w' := by
  have e239 : ∀ args w, (callFunc 239 args).run Tryz.prog w = .ok (.enter 239 args) w := enters_of Tryz.func239 (by kernel_rfl) rfl
  have e240 : ∀ args w, (callFunc 240 args).run Tryz.prog w = .ok (.enter 240 args) w := enters_of Tryz.func240 (by kernel_rfl) rfl
  have hi : (Tryz.prog.info? 56).map (·.size) = some cells.size := by rw [hsz]; kernel_rfl
  have hh : ((w.alloc (.cells cells 56)).alloc (.cells #[.pointer none, .slice none 0 0] 380)).heap[w.heap.size]? = some (.cells cells 56) := by
    rw [Lib.alloc_old _ _ _ (by simp)]
    exact heap_alloc_new w _
  go_enter Tryz.func226, Tryz.ntmps226
  go_wp2_with (refine wpList_load_row rfl 56 _ rfl w.heap.size rfl 56 cells (0, 0) _ hh Tryz.underlying56 rfl hi ?_)
  go_wp2
  go_loopw [7] (fun i wr => ∃ k : Nat, k ≤ 32 ∧ i = .int .i64 k ∧ Lib.IsBuilder 380 5 w.heap.size (w.heap.size + 1) (Lib.byteCells (hexP f k)) wr ∧ Below w.heap.size w wr) (fun i _ => 32 - (intOf i).toNat)
  case atStart =>
    refine ⟨0, by omega, rfl, Or.inl ⟨by omega, .slice none 0 0, ?_, World.ownsRow_nil _ _ _ _, by simp [Value.ownBlock]⟩, ((Below.refl _ w).alloc (Nat.le_refl _) _).alloc (by simp) _⟩
    have := heap_alloc_new (w.alloc (.cells cells 56)) (.cells #[.pointer none, .slice none 0 0] 380)
    simpa using this
  case round =>
    obtain ⟨k, hk, rfl, hI, hbw⟩ := hrel
    have hbs := hbw.size
    by_cases h32 : k < 32
    · have hcell := hc k h32
      have hf0 := hf k
      have hlen := hexP_length f k
      have hix : (Instr.index 56 (Value.agg cells) (Value.int IntKind.i64 k)).run Tryz.prog wr = .ok (.int .u8 (f k)) wr := by
        simp [Instr.index, asIntOf, run_underlying Tryz.underlying56, part, Tryz.isAgg5, Tryz.sizeOf5, hcell, h32]
      go_wp2_with (go_at_fn 239; refine (writeByte w.heap.size (w.heap.size + 1) (Lib.byteCells (hexP f k)) _ _ hI (by rw [Lib.byteCells_length, hlen]; omega) hbs).mono ?_)
      rintro e W1 ⟨rfl, h1, b1⟩
      have hbs1 := b1.size
      go_wp2_with (go_at_fn 239; refine (writeByte w.heap.size (w.heap.size + 1) _ _ _ (Or.inr h1) (by rw [List.length_append, Lib.byteCells_length, hlen]; simp; omega) (by omega)).mono ?_)
      rintro e W2 ⟨rfl, h2, b2⟩
      go_wp2
      have hd : ∀ (n : Nat) (hn : n < ByteArray.size ⟨#[48, 49, 50, 51, 52, 53, 54, 55, 56, 57, 97, 98, 99, 100, 101, 102]⟩), (ByteArray.mk #[48, 49, 50, 51, 52, 53, 54, 55, 56, 57, 97, 98, 99, 100, 101, 102])[n] = hexD n := fun n hn => by
        have hn' : n < 16 := hn
        match n, hn' with
        | 0, _ | 1, _ | 2, _ | 3, _ | 4, _ | 5, _ | 6, _ | 7, _ | 8, _ | 9, _ | 10, _ | 11, _ | 12, _ | 13, _ | 14, _ | 15, _ => rfl
        | n + 16, h => omega
      rw [hd, hd] at h2
      refine ⟨⟨k + 1, by omega, by simp, ?_, (hbw.trans b1).trans b2⟩, by simp [intOf]; omega⟩
      have e : Lib.byteCells (hexP f (k + 1)) = Lib.byteCells (hexP f k) ++ [Value.int IntKind.u8 (hexD (f k / 16)).toNat] ++ [Value.int IntKind.u8 (hexD (f k % 16)).toNat] := by
        simp [hexP, Lib.byteCells]
      rw [e]
      exact Or.inr h2
    · go_wp2_with (go_at_fn 240; refine (Tryz.Builder_String_any w.heap.size (w.heap.size + 1) (hexP f k) _ hI hbs).mono ?_)
      rintro e W1 ⟨rfl, b1⟩
      go_wp2
      go_ret
      obtain rfl : k = 32 := by omega
      exact ⟨rfl, hbw.trans b1⟩
end Go.Proofs.YtnkhdbbjmmjkoaaGreatDoor
