/- The library's contract of (*strings.Builder).String at this program; its copyCheck and WriteByte walked; hex.Text at any 32 bytes; crc.Sum at any bytes (a million at most). A builder is one as the library says it. -/
import Derived.Shelf.Strings.Builder1
import Derived.Shelf.LaysM
import Derived.Shelf.LaysC
import Derived.Test.YtfiiemjbbmdlnaaGreatDoorProg
import Derived.WalkKit
import Derived.BigCall
import Derived.Shelf.RegionOpenPlain
namespace Go.Proofs
open Go.Shelf
def Tryz.lays169_ren : Go.Shelf.Ren := ⟨fun | 169 => 342 | n => n, fun | 70 => 438 | 9 => 9 | 0 => 0 | 72 => 440 | 37 => 129 | 127 => 447 | 3 => 3 | 5 => 5 | n => n, fun | n => n⟩
theorem Tryz.lays169 : Go.Proofs.Lays.n169 Tryz.prog Tryz.lays169_ren := {
  mixed := by kernel_rfl
  f169 := Tryz.func342.trans (congrArg some (by kernel_rfl))
  t0 := Tryz.underlying0
  a0 := Tryz.isAgg0
  z0 := Tryz.sizeOf0
  v0 := Tryz.zeroValue0
  t3 := Tryz.underlying3
  a3 := Tryz.isAgg3
  z3 := Tryz.sizeOf3
  v3 := Tryz.zeroValue3
  t9 := Tryz.underlying9
  a9 := Tryz.isAgg9
  z9 := Tryz.sizeOf9
  v9 := Tryz.zeroValue9
  t37 := Tryz.underlying129
  a37 := Tryz.isAgg129
  z37 := Tryz.sizeOf129
  v37 := Tryz.zeroValue129
  t70 := Tryz.underlying438
  a70 := Tryz.isAgg438
  z70 := Tryz.sizeOf438
  v70 := Tryz.zeroValue438
  t72 := Tryz.underlying440
  a72 := Tryz.isAgg440
  z72 := Tryz.sizeOf440
  v72 := Tryz.zeroValue440
  t127 := Tryz.underlying447
  a127 := Tryz.isAgg447
  z127 := Tryz.sizeOf447
  v127 := Tryz.zeroValue447 }
theorem Tryz.Builder_Extra_169 : Builder.Extra Tryz.prog Tryz.lays169_ren := {
  sizeBuilder := by kernel_rfl
  liesBuilder := by kernel_rfl
  t5 := Tryz.underlying5
  a5 := Tryz.isAgg5
  z5 := Tryz.sizeOf5
  v5 := Tryz.zeroValue5
  infoByte := by kernel_rfl
  cellsByte := by kernel_rfl
  sizeByte := by kernel_rfl
  neB5 := by decide }
open Go.RowKit in
/-- (*strings.Builder).String: "String returns the accumulated string.": WHATEVER THE BUILDER HOLDS. (LAID: no walk: one application.) -/
theorem Tryz.Builder_String_any (B b : Nat) (l : List UInt8) (w : World) (h : Lib.IsBuilder 440 5 B b (Lib.byteCells l) w) (hBw : B ≤ w.heap.size) :
    Calls Tryz.prog 342 #[.pointer (some ⟨b, 0, none⟩)] w fun e w' => e = .returned (.string ⟨l.toArray⟩) ∧ Below B w w' := Any.Builder_String_any Tryz.lays169 Tryz.Builder_Extra_169 B b l w h hBw
end Go.Proofs
namespace Go.Proofs.YtfiiemjbbmdlnaaGreatDoor
open Go.RowKit Go.Shelf
theorem sizeBuilder : (Tryz.prog.info? 440).map (·.size) = some 2 := by kernel_rfl
theorem liesBuilder : liesAt Tryz.prog Tryz.prog.depth 440 (2 / Tryz.prog.cellsOf 440) 0 440 1 = true := by kernel_rfl
theorem infoByte : (Tryz.prog.info? 5).map (fun i => (i.zero, i.size, i.bytes)) = some (some (.int .u8 0), 1, 1) := by kernel_rfl
set_option maxHeartbeats 1000000 in
set_option maxRecDepth 100000 in
theorem cc_used (b : Nat) (w : World) (h0 : w.cell? ⟨b, 0, none⟩ = some (.pointer (some ⟨b, 0, none⟩))) :
    Calls Tryz.prog 351 #[.pointer (some ⟨b, 0, none⟩)] w fun e w' => e = .returned (.tuple #[]) ∧ w' = w := by
  obtain ⟨j, hj, _⟩ := Option.map_eq_some_iff.1 sizeBuilder
  go_enter Tryz.func351, Tryz.ntmps351
  go_wp2
  rw [Lib.run_neq_ptr_same w _ Tryz.underlying438 hj]
  go_wp2
  go_end0
  exact ⟨rfl, rfl⟩
set_option maxHeartbeats 1000000 in
set_option maxRecDepth 100000 in
theorem cc_fresh (b : Nat) (w : World) (h0 : w.cell? ⟨b, 0, none⟩ = some (.pointer none)) (hsh : w.shape? b = some (440, 2)) (hfz : w.frozen? ⟨b, 0, none⟩ = false) :
    Calls Tryz.prog 351 #[.pointer (some ⟨b, 0, none⟩)] w fun e w' => e = .returned (.tuple #[]) ∧ w' = w.setCell ⟨b, 0, none⟩ (.pointer (some ⟨b, 0, none⟩)) := by
  obtain ⟨j, hj, hjs⟩ := Option.map_eq_some_iff.1 sizeBuilder
  go_enter Tryz.func351, Tryz.ntmps351
  go_wp2
  rw [Lib.run_to_unsafe w ⟨b, 0, none⟩ Tryz.underlying438 Tryz.underlying166 hj (by rw [hjs]; decide) hsh (Nat.zero_lt_succ 1)]
  simp only [Result.andThen]
  rw [Oper.upon_value]
  go_wp2
  rw [run_callFunc_extern Tryz.func356 (by kernel_rfl) (by kernel_rfl) (by kernel_rfl) (e := Extern.AbiNoEscape.same) (by kernel_rfl)]
  rw [Lib.run_noEscape]
  simp only [Result.andThen]
  rw [Oper.upon_value]
  go_wp2
  rw [Lib.run_from_unsafe w ⟨b, 0, none⟩ Tryz.underlying166 Tryz.underlying438 hj hsh liesBuilder]
  simp only [Result.andThen]
  rw [Oper.upon_value]
  go_wp2
  go_end0
  exact ⟨rfl, rfl⟩
theorem cc (B b : Nat) (bs : List Value) (w : World) (h : Lib.IsBuilder 440 5 B b bs w) :
    Calls Tryz.prog 351 #[.pointer (some ⟨b, 0, none⟩)] w fun e w' => e = .returned (.tuple #[]) ∧ (Lib.BuilderAt 440 5 B b (.pointer (some ⟨b, 0, none⟩)) bs w' ∧ Below B w w') := by
  rcases h with h | h
  · refine (cc_fresh b w h.cell0 h.shape h.frozen0).mono ?_
    rintro e w' ⟨rfl, rfl⟩
    exact ⟨rfl, h.used _, (Below.refl B w).setCell (p := ⟨b, 0, none⟩) h.1 _⟩
  · refine (cc_used b w h.cell0).mono ?_
    rintro e w' ⟨rfl, rfl⟩
    exact ⟨rfl, h, Below.refl B _⟩
set_option maxHeartbeats 2000000 in
set_option maxRecDepth 100000 in
theorem writeByte (B b : Nat) (bs : List Value) (c : Int) (w : World) (h : Lib.IsBuilder 440 5 B b bs w) (hlen : bs.length + 1 ≤ 140737488355328) (hBw : B ≤ w.heap.size) :
    Calls Tryz.prog 341 #[.pointer (some ⟨b, 0, none⟩), .int .u8 c] w fun e w' => e = .returned .nilIface ∧ (Lib.BuilderAt 440 5 B b (.pointer (some ⟨b, 0, none⟩)) (bs ++ [.int .u8 c]) w' ∧ Below B w w') := by
  obtain ⟨i0, hi, hz0, hz1, hz2⟩ := info_parts infoByte
  have e351 : ∀ args w, (callFunc 351 args).run Tryz.prog w = .ok (.enter 351 args) w := enters_of Tryz.func351 (by kernel_rfl) rfl
  go_enter Tryz.func341, Tryz.ntmps341
  go_wp2_with (go_at_fn 351; refine (cc B b bs _ h).mono ?_)
  rintro e w1 ⟨rfl, h1, hb1⟩
  obtain ⟨hB, v, hbk, hown, hne⟩ := h1
  have c0 : w1.cell? ⟨b, 0, none⟩ = some (.pointer (some ⟨b, 0, none⟩)) := by rw [Lib.cell_of_heap hbk]; rfl
  have c1 : w1.cell? ⟨b, 1, none⟩ = some v := by rw [Lib.cell_of_heap hbk]; rfl
  go_wp2_with (at_builtin; refine wpList_append_own _ rfl _ _ 129 rfl B 5 i0 (.int .u8 0) 1 1 Tryz.underlying129 hi hz0 hz1 hz2 rfl (by decide) _ _ _ rfl (hown.alloc _) ⟨w1.heap.size, 0, none⟩ 1 1 [.int .u8 c] rfl rfl ?c1 ?c2 ?c3 ?c4 ?c5 ?_)
  case c1 =>
    intro j u hj
    match j, hj with
    | 0, hj => simp at hj; subst hj; simp [Addr.add]
  case c2 => intro u hu; simp at hu; subst hu; rfl
  case c3 => unfold maxLen; omega
  case c4 => omega
  case c5 => have := hb1.size; simp; omega
  intro v' w2 hown' hgrow _
  have hlt : b < w1.heap.size := by
    rcases Nat.lt_or_ge b w1.heap.size with h' | h'
    · exact h'
    · simp [Array.getElem?_eq_none h'] at hbk
  have hb2 : w2.heap[b]? = some (.cells #[.pointer (some ⟨b, 0, none⟩), v] 440 (0, 0)) := by
    rw [hgrow.block b (by simp; omega) (fun e => hne e.symm), Lib.alloc_old w1 _ b hlt]
    exact hbk
  have d0 : w2.cell? ⟨b, 0, none⟩ = some (.pointer (some ⟨b, 0, none⟩)) := by rw [Lib.cell_of_heap hb2]; rfl
  have d1 : w2.cell? ⟨b, 1, none⟩ = some v := by rw [Lib.cell_of_heap hb2]; rfl
  have f1 : w2.frozen? ⟨b, 1, none⟩ = false := Lib.frozen_of_heap hb2 1
  obtain ⟨g, cap, rfl⟩ : ∃ g cap, v' = .slice (some ⟨g, 0, none⟩) (bs.length + 1) cap := by
    rcases hown'.2 with ⟨_, h0⟩ | ⟨g, cap, cur, hv, _⟩
    · omega
    · exact ⟨g, cap, hv⟩
  go_wp2
  go_ret
  refine ⟨rfl, ?_, ?_⟩
  · exact Lib.BuilderAt.put (T := 440) (e := 5) hB hb2 (bs' := bs ++ [.int .u8 c]) (by simpa using hown') (by decide)
  · exact ((hb1.alloc (by have := hb1.size; omega) _).grown hgrow (by have := hb1.size; simp; omega) (fun k hk => (hown.lt k hk).1)).setCell (p := ⟨b, 1, none⟩) hB _
def hexB : List UInt8 := [48, 49, 50, 51, 52, 53, 54, 55, 56, 57, 97, 98, 99, 100, 101, 102]
def hexD (n : Nat) : UInt8 := hexB.getD n 0
def hexP (f : Nat → Nat) : Nat → List UInt8
  | 0 => []
  | k + 1 => hexP f k ++ [hexD (f k / 16), hexD (f k % 16)]
theorem hexP_length (f : Nat → Nat) : ∀ k, (hexP f k).length = 2 * k
  | 0 => rfl
  | k + 1 => by simp only [hexP, List.length_append, hexP_length f k, List.length_cons, List.length_nil]; omega
set_option maxHeartbeats 4000000 in
set_option maxRecDepth 1000000 in
theorem hexText (cells : Array Value) (f : Nat → Nat) (hsz : cells.size = 32) (hc : ∀ k, k < 32 → cells[k]? = some (.int .u8 (f k))) (hf : ∀ k, f k < 256) (w : World) :
    Calls Tryz.prog 320 #[.agg cells] w fun e w' => e = .returned (.string ⟨(hexP f 32).toArray⟩) ∧ Below w.heap.size w w' := by
  have e341 : ∀ args w, (callFunc 341 args).run Tryz.prog w = .ok (.enter 341 args) w := enters_of Tryz.func341 (by kernel_rfl) rfl
  have e342 : ∀ args w, (callFunc 342 args).run Tryz.prog w = .ok (.enter 342 args) w := enters_of Tryz.func342 (by kernel_rfl) rfl
  have hi : (Tryz.prog.info? 44).map (·.size) = some cells.size := by rw [hsz]; kernel_rfl
  have hh : ((w.alloc (.cells cells 44)).alloc (.cells #[.pointer none, .slice none 0 0] 440)).heap[w.heap.size]? = some (.cells cells 44) := by
    rw [Lib.alloc_old _ _ _ (by simp)]
    exact heap_alloc_new w _
  go_enter Tryz.func320, Tryz.ntmps320
  go_wp2_with (refine wpList_load_row rfl 44 _ rfl w.heap.size rfl 44 cells (0, 0) _ hh Tryz.underlying44 rfl hi ?_)
  go_wp2
  go_loopw [7] (fun i wr => ∃ k : Nat, k ≤ 32 ∧ i = .int .i64 k ∧ Lib.IsBuilder 440 5 w.heap.size (w.heap.size + 1) (Lib.byteCells (hexP f k)) wr ∧ Below w.heap.size w wr) (fun i _ => 32 - (intOf i).toNat)
  case atStart =>
    refine ⟨0, by omega, rfl, Or.inl ⟨by omega, .slice none 0 0, ?_, World.ownsRow_nil _ _ _ _, by simp [Value.ownBlock]⟩, ((Below.refl _ w).alloc (Nat.le_refl _) _).alloc (by simp) _⟩
    have := heap_alloc_new (w.alloc (.cells cells 44)) (.cells #[.pointer none, .slice none 0 0] 440)
    simpa using this
  case round =>
    obtain ⟨k, hk, rfl, hI, hbw⟩ := hrel
    have hbs := hbw.size
    by_cases h32 : k < 32
    · have hcell := hc k h32
      have hf0 := hf k
      have hlen := hexP_length f k
      have hix : (Instr.index 44 (Value.agg cells) (Value.int IntKind.i64 k)).run Tryz.prog wr = .ok (.int .u8 (f k)) wr := by
        simp [Instr.index, asIntOf, run_underlying Tryz.underlying44, part, Tryz.isAgg5, Tryz.sizeOf5, hcell, h32]
      go_wp2_with (go_at_fn 341; refine (writeByte w.heap.size (w.heap.size + 1) (Lib.byteCells (hexP f k)) _ _ hI (by rw [Lib.byteCells_length, hlen]; omega) hbs).mono ?_)
      rintro e W1 ⟨rfl, h1, b1⟩
      have hbs1 := b1.size
      go_wp2_with (go_at_fn 341; refine (writeByte w.heap.size (w.heap.size + 1) _ _ _ (Or.inr h1) (by rw [List.length_append, Lib.byteCells_length, hlen]; simp; omega) (by omega)).mono ?_)
      rintro e W2 ⟨rfl, h2, b2⟩
      go_wp2
      have hd : ∀ (n : Nat) (hn : n < ByteArray.size ⟨#[48, 49, 50, 51, 52, 53, 54, 55, 56, 57, 97, 98, 99, 100, 101, 102]⟩), (ByteArray.mk #[48, 49, 50, 51, 52, 53, 54, 55, 56, 57, 97, 98, 99, 100, 101, 102])[n] = hexD n := fun n hn => by
        have hn' : n < 16 := hn
        match n, hn' with
        | 0, _ | 1, _ | 2, _ | 3, _ | 4, _ | 5, _ | 6, _ | 7, _ | 8, _ | 9, _ | 10, _ | 11, _ | 12, _ | 13, _ | 14, _ | 15, _ => rfl
        | n + 16, h => omega
      rw [hd, hd] at h2
      refine ⟨⟨k + 1, by omega, by simp, ?_, (hbw.trans b1).trans b2⟩, by simp [intOf]; omega⟩
      have e : Lib.byteCells (hexP f (k + 1)) = Lib.byteCells (hexP f k) ++ [Value.int IntKind.u8 (hexD (f k / 16)).toNat] ++ [Value.int IntKind.u8 (hexD (f k % 16)).toNat] := by
        simp [hexP, Lib.byteCells]
      rw [e]
      exact Or.inr h2
    · go_wp2_with (go_at_fn 342; refine (Tryz.Builder_String_any w.heap.size (w.heap.size + 1) (hexP f k) _ hI hbs).mono ?_)
      rintro e W1 ⟨rfl, b1⟩
      go_wp2
      go_ret
      obtain rfl : k = 32 := by omega
      exact ⟨rfl, hbw.trans b1⟩
end Go.Proofs.YtfiiemjbbmdlnaaGreatDoor
namespace Go.Proofs.YtfiiemjbbmdlnaaGreatDoor
open Go.RowKit
def crc1 (c : Nat) : Nat := (c / 2) ^^^ (3988292384 * (c % 2))
def crcN : Nat → Nat → Nat
  | 0, c => c
  | k + 1, c => crc1 (crcN k c)
def crcL : List Nat → Nat → Nat
  | [], c => c
  | x :: r, c => crcL r (crcN 8 (c ^^^ x))
theorem crcL_snoc : ∀ (l : List Nat) (x c : Nat), crcL (l ++ [x]) c = crcN 8 (crcL l c ^^^ x)
  | [], _, _ => rfl
  | _ :: r, x, _ => crcL_snoc r x _
theorem crc1_lt (c : Nat) (h : c < 4294967296) : crc1 c < 4294967296 :=
  Nat.xor_lt_two_pow (n := 32) (by omega) (by have : c % 2 < 2 := Nat.mod_lt _ (by decide); omega)
theorem crcN_lt : ∀ (k c : Nat), c < 4294967296 → crcN k c < 4294967296
  | 0, _, h => h
  | k + 1, _, h => crc1_lt _ (crcN_lt k _ h)
theorem crcL_lt : ∀ (l : List Nat) (c : Nat), (∀ n ∈ l, n < 256) → c < 4294967296 → crcL l c < 4294967296
  | [], _, _, h => h
  | x :: r, c, hl, h => crcL_lt r _ (fun n hn => hl n (List.mem_cons_of_mem _ hn)) (crcN_lt 8 _ (Nat.xor_lt_two_pow (n := 32) (by omega) (by have := hl x (List.mem_cons_self ..); omega)))
theorem ofInt32 {a : Nat} (h : a < 4294967296) : (BitVec.ofInt 32 (a : Int)).toNat = a := by
  rw [BitVec.ofInt_natCast, BitVec.toNat_ofNat]; exact Nat.mod_eq_of_lt (by omega)
theorem wrap32 (n : Int) : IntKind.u32.wrap n = n % 4294967296 := by simp [IntKind.wrap, IntKind.bits, IntKind.signed]
theorem bits_xor32 {a b : Nat} (ha : a < 4294967296) (hb : b < 4294967296) : bits BinOp.xor IntKind.u32 a b = (a ^^^ b : Nat) := by
  have hx : a ^^^ b < 2 ^ 32 := Nat.xor_lt_two_pow (by omega) (by omega)
  show IntKind.u32.wrap ((BitVec.ofInt 32 (a : Int) ^^^ BitVec.ofInt 32 (b : Int)).toNat : Int) = _
  rw [BitVec.toNat_xor, ofInt32 ha, ofInt32 hb, wrap32]
  omega
theorem bits_and1 {a : Nat} (ha : a < 4294967296) : bits BinOp.and IntKind.u32 a 1 = (a % 2 : Nat) := by
  have e : (BitVec.ofInt 32 (1 : Int)).toNat = 1 := ofInt32 (a := 1) (by decide)
  show IntKind.u32.wrap ((BitVec.ofInt 32 (a : Int) &&& BitVec.ofInt 32 (1 : Int)).toNat : Int) = _
  rw [BitVec.toNat_and, ofInt32 ha, e, wrap32, Nat.and_one_is_mod]
  omega
theorem step32 {c : Nat} (hc : c < 4294967296) : bits BinOp.xor IntKind.u32 ((c : Int) / 2) (3988292384 * bits BinOp.and IntKind.u32 (c : Int) 1 % 4294967296) = (crc1 c : Nat) := by
  rw [bits_and1 hc]
  have e1 : ((c : Int) / 2) = ((c / 2 : Nat) : Int) := by omega
  have e2 : (3988292384 * ((c % 2 : Nat) : Int) % 4294967296) = ((3988292384 * (c % 2) : Nat) : Int) := by omega
  rw [e1, e2, bits_xor32 (by omega) (by omega)]
  rfl
set_option maxHeartbeats 4000000 in
set_option maxRecDepth 1000000 in
theorem crcSum (l : List Nat) (hn : l.length ≤ 1000000) (hl : ∀ n ∈ l, n < 256) (a : Addr) (cap : Nat) (w : World) (hc : ∀ (j x : Nat), l[j]? = some x → w.cell? (a.add j) = some (.int .u8 x)) :
    Calls Tryz.prog 288 #[.slice (some a) l.length cap] w fun e w' => e = .returned (.int .u32 (4294967295 ^^^ crcL l 4294967295 : Nat)) ∧ w' = w := by
  go_enter Tryz.func288, Tryz.ntmps288
  go_wp2
  go_loop [3, 9] (fun c i => ∃ k : Nat, k ≤ l.length ∧ i = .int .i64 k ∧ c = .int .u32 (crcL (l.take k) 4294967295 : Nat)) (fun _ i => l.length - (intOf i).toNat)
  case atStart => exact ⟨0, by omega, rfl, rfl⟩
  case round =>
    obtain ⟨k, hk, rfl, rfl⟩ := hrel
    by_cases h : k < l.length
    · have hx : l[k]? = some (l[k]) := List.getElem?_eq_getElem h
      have hcell := hc k _ hx
      have hlt := hl _ (List.getElem_mem h)
      have hb := crcL_lt (l.take k) 4294967295 (fun n hn => hl n (List.mem_of_mem_take hn)) (by omega)
      go_wp2
      rw [bits_xor32 hb (by omega)]
      generalize hA : crcL (l.take k) 4294967295 ^^^ l[k] = A
      have hA2 : A < 4294967296 := by rw [← hA]; exact Nat.xor_lt_two_pow (n := 32) (by omega) (by omega)
      go_loop [3, 17] (fun c i => ∃ j : Nat, j ≤ 8 ∧ i = .int .i64 j ∧ c = .int .u32 (crcN j A : Nat)) (fun _ i => 8 - (intOf i).toNat)
      case atStart => exact ⟨0, by omega, rfl, rfl⟩
      case round =>
        obtain ⟨j, hj, rfl, rfl⟩ := hrel
        have hN := crcN_lt j A hA2
        by_cases h8 : j < 8
        · go_wp2
          exact ⟨⟨j + 1, by omega, by simp, by rw [step32 hN]; rfl⟩, by simp [intOf]; omega⟩
        · go_wp2
          obtain rfl : j = 8 := by omega
          refine ⟨⟨k + 1, by omega, by simp, ?_⟩, by simp [intOf]; omega⟩
          have e : l.take (k + 1) = l.take k ++ [l[k]] := by rw [List.take_add_one, hx]; rfl
          rw [e, crcL_snoc, hA]
    · go_wp2
      go_ret
      obtain rfl : k = l.length := by omega
      have hb := crcL_lt l 4294967295 hl (by omega)
      have hm : IntKind.u32.max = ((4294967295 : Nat) : Int) := by decide
      rw [List.take_length, hm, bits_xor32 (by omega) hb]
      exact ⟨rfl, rfl⟩
set_option maxHeartbeats 4000000 in
set_option maxRecDepth 1000000 in
theorem crcSum0 (a : Option Addr) (cap : Nat) (w : World) : Calls Tryz.prog 288 #[.slice a 0 cap] w fun e w' => e = .returned (.int .u32 0) ∧ w' = w := by
  go_enter Tryz.func288, Tryz.ntmps288
  go_wp2
  go_loop [3, 9] (fun c i => i = .int .i64 0 ∧ c = .int .u32 4294967295) (fun _ _ => 0)
  case atStart => exact ⟨rfl, rfl⟩
  case round =>
    obtain ⟨rfl, rfl⟩ := hrel
    go_wp2
    go_ret
    exact ⟨rfl, rfl⟩
end Go.Proofs.YtfiiemjbbmdlnaaGreatDoor
