/- ScriptOnes' own code and what it calls: Pick, Hash, the reference's Text, script.Line, the law itself at any two arguments as they are read, known from any world. No condition but those. -/
import Derived.Test.YtnenknghinpliaaGreatDoorHX
import Derived.Test.YtnenknghinpliaaGreatDoorSOA
import Derived.Laws.Rows
import Derived.Great.BuildSlice
import Derived.Laws.Concat
import Derived.Lib.Join
import Derived.Laws.AppendOwn
import Derived.Laws.BytesArg
import Derived.OpenShut
import Derived.Deep.Slices
import Derived.ChangeMade
section
namespace Go.Proofs.YtnenknghinpliaaGreatDoor
open Go.RowKit Go.Shelf
theorem wrap_small {x : Int} (h0 : 0 ≤ x) (h1 : x < 9223372036854775808) : wrap64 x = x := by
  unfold wrap64; omega
set_option maxHeartbeats 1000000 in
set_option maxRecDepth 100000 in
theorem pick60 (n : Int) (w : World) : Calls Tryz.prog 8 #[.int .i64 n, .int .i64 60] w fun e w' => (∃ r : Nat, r < 60 ∧ e = .returned (.int .i64 r)) ∧ w' = w := by
  have h1 := Int.tmod_lt_of_pos n (show (0 : Int) < 60 by decide)
  have h2 : -60 < n.tmod 60 := by
    have := Int.lt_tmod_of_pos n (show (0 : Int) < 60 by decide)
    simpa using this
  by_cases h : Int.tmod n 60 < 0
  · have hw : wrap64 (n.tmod 60 + 60) = n.tmod 60 + 60 := wrap_small (by omega) (by omega)
    obtain ⟨r, hr⟩ : ∃ r : Nat, n.tmod 60 + 60 = r := ⟨(n.tmod 60 + 60).toNat, by omega⟩
    rw [hr] at hw
    go_enter Tryz.func8, Tryz.ntmps8
    go_wp2
    go_ret
    exact ⟨⟨r, by omega, by simp [hr]⟩, rfl⟩
  · obtain ⟨r, hr⟩ : ∃ r : Nat, n.tmod 60 = r := ⟨(n.tmod 60).toNat, by omega⟩
    go_enter Tryz.func8, Tryz.ntmps8
    go_wp2
    go_ret
    exact ⟨⟨r, by omega, by simp [hr]⟩, rfl⟩
theorem below_two (w : World) (A B : Obj) (cs : Array Value) : Below w.heap.size w (((w.alloc A).alloc B).setRow w.heap.size cs) := by
  have hb := ((Below.refl w.heap.size w).alloc (Nat.le_refl _) A).alloc (by simp) B
  exact ⟨hb.os, hb.tape, hb.output, by simpa using hb.size, fun k hk => (setRow_other _ _ _ _ (by omega)).trans (hb.block k hk)⟩
set_option maxHeartbeats 4000000 in
set_option maxRecDepth 100000 in
theorem hash_ok (n : Int) (w : World) : Calls Tryz.prog 4 #[.int .i64 n] w fun e w' => (∃ l : List Nat, l.length = 32 ∧ (∀ x ∈ l, x < 256) ∧ e = .returned (.agg ((l.map fun (x : Nat) => Value.int .u8 x).toArray))) ∧ Below w.heap.size w w' := by
  have e10 : ∀ args w, (callFunc 8 args).run Tryz.prog w = .ok (.enter 8 args) w := enters_of Tryz.func8 (by kernel_rfl) rfl
  go_enter Tryz.func4, Tryz.ntmps4
  go_wp2_with (go_at_fn 8; refine (pick60 n _).mono ?_)
  rintro e w1 ⟨⟨r, hr, rfl⟩, rfl⟩
  obtain ⟨k, hk6, ht⟩ : ∃ k : Nat, k < 6 ∧ (r : Int).tmod 6 = k := ⟨r % 6, Nat.mod_lt _ (by decide), rfl⟩
  obtain ⟨q, hq10, hq⟩ : ∃ q : Nat, q < 10 ∧ (r : Int).tdiv 6 = q := ⟨r / 6, by omega, rfl⟩
  have hix : ∀ w, (Instr.index 33 (.agg #[.int .u8 171, .int .u8 171, .int .u8 160, .int .u8 18, .int .u8 254, .int .u8 171]) (.int .i64 k)).run Tryz.prog w = .ok (.int .u8 (([171, 171, 160, 18, 254, 171] : List Nat).getD k 0 : Nat)) w := fun w => by
    match k, hk6 with
    | 0, _ | 1, _ | 2, _ | 3, _ | 4, _ | 5, _ => simp [Instr.index, asIntOf, run_underlying Tryz.underlying33, part, Tryz.isAgg5, Tryz.sizeOf5]
  have h1 : wrap64 ((q : Int) * 16) = q * 16 := wrap_small (by omega) (by omega)
  have h2 : wrap64 ((r : Int) * 7) = r * 7 := wrap_small (by omega) (by omega)
  have h256 : ∀ x ∈ [([171, 171, 160, 18, 254, 171] : List Nat).getD k 0, q * 16, r * 7 % 256] ++ List.replicate 28 0 ++ [r], x < 256 := by
    intro x hx
    have hk : ([171, 171, 160, 18, 254, 171] : List Nat).getD k 0 < 256 := by
      match k, hk6 with
      | 0, _ | 1, _ | 2, _ | 3, _ | 4, _ | 5, _ => decide
    simp only [List.mem_append, List.mem_cons, List.not_mem_nil, or_false, List.mem_replicate] at hx
    rcases hx with ((rfl | rfl | rfl) | ⟨_, rfl⟩) | rfl
    · exact hk
    all_goals omega
  generalize hv : ([171, 171, 160, 18, 254, 171] : List Nat).getD k 0 = v0 at hix h256
  go_wp2_with (first
    | (refine wpList_load_row rfl 25 _ rfl (w.heap.size + 1) rfl 25 _ (0, 0) _ (heap_alloc2_new _ _ _) Tryz.underlying25 rfl (by as_aux_lemma => kernel_rfl) ?_)
    | (refine wpList_store_rowTo rfl 25 _ _ rfl rfl w.heap.size _ rfl rfl 25 _ (heap_alloc2_old _ _ _) (by as_aux_lemma => kernel_rfl) rfl (by simp [Value.oneCell']) ?_))
  try simp only [Exit.inBlock, Exit.then]
  refine bodyPost_ret (results_cell_row rfl _ _ w.heap.size 25 _ (0, 0) _ rfl (setRow_heap _ _ _ _ _ _ (heap_alloc2_old _ _ _)) Tryz.underlying25 rfl (by as_aux_lemma => kernel_rfl)) rfl ?_
  refine ⟨⟨_, by simp, h256, ?_⟩, ?_⟩
  · simp [List.replicate]
  · exact below_two w _ _ _
end Go.Proofs.YtnenknghinpliaaGreatDoor
end
section
namespace Go.Proofs.YtnenknghinpliaaGreatDoor
open Go.RowKit Go.Shelf
theorem ext16 : ∀ n : Nat, n < 16 → (ByteArray.mk #[48, 49, 50, 51, 52, 53, 54, 55, 56, 57, 97, 98, 99, 100, 101, 102]).extract n (n + 1) = ⟨#[hexD n]⟩ := fun n hn => by
  match n, hn with
  | 0, _ | 1, _ | 2, _ | 3, _ | 4, _ | 5, _ | 6, _ | 7, _ | 8, _ | 9, _ | 10, _ | 11, _ | 12, _ | 13, _ | 14, _ | 15, _ => rfl
  | n + 16, h => omega
theorem catS (a b : List UInt8) (h : a.length + b.length ≤ 9223372036854775807) (W : World) : (Op.stringOp .add ⟨a.toArray⟩ ⟨b.toArray⟩).run Tryz.prog W = .ok (.string ⟨(a ++ b).toArray⟩) W := by
  have h1 : (⟨a.toArray⟩ : ByteArray).size + (⟨b.toArray⟩ : ByteArray).size ≤ 9223372036854775807 := h
  have e : (⟨(a ++ b).toArray⟩ : ByteArray) = ⟨a.toArray⟩ ++ ⟨b.toArray⟩ := by
    apply ByteArray.ext
    simp
  rw [e]
  exact Go.run_string_add_sum (P := Tryz.prog) (w := W) _ _ h1
theorem sl16 (n : Nat) (hn : n < 16) (W : World) : (Instr.slice 9 (.string ⟨#[48, 49, 50, 51, 52, 53, 54, 55, 56, 57, 97, 98, 99, 100, 101, 102]⟩) (some (.int .u8 n)) (some (.int .u8 ((n : Int) + 1))) none).run Tryz.prog W = .ok (.string ⟨#[hexD n]⟩) W := by
  match n, hn with
  | 0, _ | 1, _ | 2, _ | 3, _ | 4, _ | 5, _ | 6, _ | 7, _ | 8, _ | 9, _ | 10, _ | 11, _ | 12, _ | 13, _ | 14, _ | 15, _ => show _ = _; kernel_rfl
  | n + 16, h => omega
set_option maxHeartbeats 4000000 in
set_option maxRecDepth 1000000 in
theorem text_ok (cells : Array Value) (f : Nat → Nat) (hsz : cells.size = 32) (hc : ∀ k, k < 32 → cells[k]? = some (.int .u8 (f k))) (hf : ∀ k, f k < 256) (w : World) :
    Calls Tryz.prog 6 #[.agg cells] w fun e w' => e = .returned (.string ⟨(hexP f 32).toArray⟩) ∧ Below w.heap.size w w' := by
  go_enter Tryz.func6, Tryz.ntmps6
  go_wp2
  go_loopw [3, 5] (fun s i wr => ∃ k : Nat, k ≤ 32 ∧ s = .string ⟨(hexP f k).toArray⟩ ∧ i = .int .i64 k ∧ wr.heap[w.heap.size]? = some (.cells cells 25 (0, 0)) ∧ Below w.heap.size w wr) (fun _ i _ => 32 - (intOf i).toNat)
  case atStart =>
    exact ⟨0, by omega, rfl, rfl, heap_alloc_new w _, (Below.refl _ w).alloc (Nat.le_refl _) _⟩
  case round =>
    obtain ⟨k, hk, rfl, rfl, hg, hbw⟩ := hrel
    by_cases h32 : k < 32
    · have hcell := hc k h32
      have hf0 := hf k
      have hcw : wr.drew.cell? ⟨w.heap.size, k, none⟩ = some (.int .u8 (f k)) := by
        have hg' : wr.drew.heap[w.heap.size]? = some (.cells cells 25 (0, 0)) := hg
        rw [Lib.cell_of_heap hg', hcell]
      have hs1 := sl16 (f k / 16) (by omega) wr.drew
      have hs2 := sl16 (f k % 16) (by omega) wr.drew
      push_cast at hs1 hs2
      have hl := hexP_length f k
      have ha1 := catS (hexP f k) [hexD (f k / 16)] (by simp [hl]; omega) wr.drew
      have ha2 := catS (hexP f k ++ [hexD (f k / 16)]) [hexD (f k % 16)] (by simp [hl]; omega) wr.drew
      go_wp2
      go_region
      all_goals go_wp2
      all_goals exact ⟨⟨k + 1, by omega, by congr 1; apply ByteArray.ext; simp [hexP], by simp, hg, hbw.drew⟩, by simp [intOf]; omega⟩
    · go_wp2
      go_ret
      obtain rfl : k = 32 := by omega
      exact ⟨rfl, hbw⟩
end Go.Proofs.YtnenknghinpliaaGreatDoor
end
section
namespace Go.KO
section
variable {P : Program} {w : World} {ops : Array Oper} {rest : List Oper} {o : Oper} {a : Act} {Q : Exit → Act → World → Prop}
theorem plLoad (hgd : o.guard = none) (ty : TypeId) (x : Operand) (ho : o.op = .load ty x) (v : Value) (hx : (Instr.loadAt ty (a.eval x)).run P w = .ok v w)
    (h : wpList P ops Q rest (a.put o.dst v) w) : wpList P ops Q (o :: rest) a w :=
  wpList_plain hgd fun K hK => by
    unfold Oper.wp execOp
    simp only [ho, hx, Sem.run_bind, Sem.run_pure, Result.andThen_ok]
    exact hK _ _ h
theorem plStore (hgd : o.guard = none) (ty : TypeId) (x y : Operand) (ho : o.op = .store ty x y) (w' : World) (hx : (Instr.storeAt ty (a.eval x) (a.eval y)).run P w = .ok () w')
    (h : wpList P ops Q rest (a.put o.dst undef) w') : wpList P ops Q (o :: rest) a w :=
  wpList_plain hgd fun K hK => by
    unfold Oper.wp execOp
    simp only [ho, hx, Sem.run_bind, Sem.run_pure, Result.andThen_ok]
    exact hK _ _ h
theorem plSlice (hgd : o.guard = none) (ty : TypeId) (x : Operand) (lo hi mx : Option Operand) (ho : o.op = .slice ty x lo hi mx) (v : Value) (hx : (Instr.sliceAt ty (a.eval x) (lo.map a.eval) (hi.map a.eval) (mx.map a.eval)).run P w = .ok v w)
    (h : wpList P ops Q rest (a.put o.dst v) w) : wpList P ops Q (o :: rest) a w :=
  wpList_plain hgd fun K hK => by
    unfold Oper.wp execOp
    simp only [ho, hx, Sem.run_bind, Sem.run_pure, Result.andThen_ok]
    exact hK _ _ h
theorem plAppend (hgd : o.guard = none) (s x : Operand) (t : TypeId) (ho : o.op = .call { callee := .builtin .append, args := #[s, x], argTypes := #[t, t] }) (v w2 : Value) (hs : a.eval s = v) (hx : a.eval x = w2) (v' : Value) (w' : World)
    (hr : (Builtin.append_ #[t, t] o.type #[v, w2]).run P w = .ok v' w') (h : wpList P ops Q rest (a.put o.dst v') w') : wpList P ops Q (o :: rest) a w :=
  wpList_plain hgd fun K hK => by
    unfold Oper.wp execOp
    simp only [ho, resolve, invoke, builtin, Sem.run_bind, Sem.run_pure, Result.andThen_ok, List.map_toArray, List.map_cons, List.map_nil, hs, hx, hr]
    exact hK _ _ h
theorem plConv (hgd : o.guard = none) (t u : TypeId) (x : Operand) (ho : o.op = .convert t u x) (v : Value) (hx : (convert t u (a.eval x)).run P w = .ok v w)
    (h : wpList P ops Q rest (a.put o.dst v) w) : wpList P ops Q (o :: rest) a w :=
  wpList_plain hgd fun K hK => by
    unfold Oper.wp execOp
    simp only [ho, hx, Sem.run_bind, Sem.run_pure, Result.andThen_ok]
    exact hK _ _ h
theorem plBuild (hgd : o.guard = none) (t : TypeId) (len : Nat) (parts : Array (Nat × Operand)) (ho : o.op = .buildSlice t len parts) (vals : List (Nat × Value)) (hv : parts.toList.map (fun p => (p.1, a.eval p.2)) = vals) (u : Value) (w' : World)
    (hr : (Instr.buildSlice t len vals.toArray).run P w = .ok u w') (h : wpList P ops Q rest (a.put o.dst u) w') : wpList P ops Q (o :: rest) a w := by
  have e : (parts.map fun (i, x) => (i, a.eval x)) = vals.toArray := by
    apply Array.ext'
    rw [← hv]
    simp
  exact wpList_plain hgd fun K hK => by
    unfold Oper.wp execOp
    simp only [ho, e, hr, Sem.run_bind, Sem.run_pure, Result.andThen_ok]
    exact hK _ _ h
end
theorem fold_set : ∀ (cs : List Value) (base : Array Value) (k : Nat), k + cs.length ≤ base.size →
    ((cs.zipIdx k).foldl (fun (a : Array Value) (p : Value × Nat) => a.setIfInBounds (0 + p.2) p.1) base).toList = base.toList.take k ++ (cs ++ base.toList.drop (k + cs.length))
  | [], base, k, _ => by simp
  | c :: r, base, k, h => by
    simp only [List.length_cons] at h
    rw [List.zipIdx_cons, List.foldl_cons, fold_set r _ (k + 1) (by simp; omega)]
    simp only [Nat.zero_add, Array.toList_setIfInBounds]
    have hk : k < base.toList.length := by simp; omega
    rw [List.take_set, List.drop_set_of_lt (by omega), List.take_succ_eq_append_getElem hk, List.set_append_right _ _ (by simp; omega)]
    simp only [List.length_take, List.length_cons]
    rw [show k - min k base.toList.length = 0 by omega]
    simp only [List.set_cons_zero, List.append_assoc, List.cons_append, List.nil_append]
    rw [show k + 1 + r.length = k + (r.length + 1) by omega]
end Go.KO
namespace Go.Proofs.YtnenknghinpliaaGreatDoor
open Go.RowKit Go.Shelf Go.KO
/-- 32 bytes. -/
def H32 : Type := { l : List Nat // l.length = 32 ∧ ∀ x ∈ l, x < 256 }
def H32.cells (x : H32) : Array Value := (x.1.map fun (n : Nat) => Value.int .u8 n).toArray
def H32.f (x : H32) (k : Nat) : Nat := x.1.getD k 0
theorem H32.size (x : H32) : x.cells.size = 32 := by simp [H32.cells, x.2.1]
theorem H32.len (x : H32) : x.cells.toList.length = 32 := by rw [Array.length_toList, x.size]
theorem H32.cell (x : H32) (k : Nat) (h : k < 32) : x.cells[k]? = some (.int .u8 (x.f k)) := by
  have hk : k < x.1.length := by rw [x.2.1]; exact h
  simp [H32.cells, H32.f, List.getD_eq_getElem?_getD, List.getElem?_eq_getElem hk]
theorem H32.lt (x : H32) (k : Nat) : x.f k < 256 := by
  unfold H32.f
  rw [List.getD_eq_getElem?_getD]
  by_cases h : k < x.1.length
  · rw [List.getElem?_eq_getElem h]; exact x.2.2 _ (List.getElem_mem h)
  · rw [List.getElem?_eq_none (by omega)]; decide
theorem H32.one (x : H32) : ∀ u ∈ x.cells.toList, u.oneCell' = true := fun u hu => by
  simp only [H32.cells, List.mem_map] at hu
  obtain ⟨n, _, rfl⟩ := hu
  rfl
/-- The text of a hash, and its first twelve digits. -/
def H32.txt (x : H32) : List UInt8 := hexP x.f 32
def H32.cut (x : H32) : List UInt8 := x.txt.take 12
theorem H32.txt_length (x : H32) : x.txt.length = 64 := hexP_length x.f 32
theorem H32.cut_length (x : H32) : x.cut.length = 12 := by rw [H32.cut, List.length_take, x.txt_length]; rfl
def flat (xs : List H32) : List Value := xs.flatMap fun x => x.cells.toList
theorem flat_length : ∀ xs : List H32, (flat xs).length = xs.length * 32
  | [] => rfl
  | x :: r => by
    have h := flat_length r
    simp only [flat, List.flatMap_cons, List.length_append, List.length_cons] at h ⊢
    rw [h, x.len]; omega
theorem flat_snoc (xs : List H32) (x : H32) : flat (xs ++ [x]) = flat xs ++ x.cells.toList := by simp [flat]
theorem flat_append (xs ys : List H32) : flat (xs ++ ys) = flat xs ++ flat ys := by simp [flat]
theorem flat_one (xs : List H32) : ∀ u ∈ flat xs, u.oneCell' = true := fun u hu => by
  simp only [flat, List.mem_flatMap] at hu
  obtain ⟨x, _, hx⟩ := hu
  exact x.one u hx
/-- The cells of the k-th hash. -/
theorem flat_at : ∀ (xs : List H32) (k : Nat) (x : H32), xs[k]? = some x → ∀ (j : Nat) (u : Value), x.cells.toList[j]? = some u → (flat xs)[k * 32 + j]? = some u
  | [], k, x, h, _, _, _ => by simp at h
  | y :: r, 0, x, h, j, u, hu => by
    obtain rfl : y = x := by simpa using h
    have hj : j < y.cells.toList.length := (List.getElem?_eq_some_iff.1 hu).1
    simp only [flat, List.flatMap_cons]
    rw [Nat.zero_mul, Nat.zero_add, List.getElem?_append_left hj]
    exact hu
  | y :: r, k + 1, x, h, j, u, hu => by
    have ih := flat_at r k x (by simpa using h) j u hu
    simp only [flat, List.flatMap_cons] at ih ⊢
    rw [List.getElem?_append_right (by rw [y.len]; omega), y.len]
    rw [show (k + 1) * 32 + j - 32 = k * 32 + j by omega]
    exact ih
theorem infoH : (Tryz.prog.info? 25).map (fun i => (i.zero, i.size, i.bytes)) = some (some (.agg (List.replicate 32 (Value.int .u8 0)).toArray), 32, 32) := by kernel_rfl
theorem info_parts {t : TypeId} {z : Value} {s b : Nat} (h : (Tryz.prog.info? t).map (fun i => (i.zero, i.size, i.bytes)) = some (some z, s, b)) : ∃ i, Tryz.prog.info? t = some i ∧ i.zero = some z ∧ i.size = s ∧ i.bytes = b := by
  obtain ⟨i, hi, he⟩ := Option.map_eq_some_iff.1 h
  simp only [Prod.mk.injEq] at he
  exact ⟨i, hi, he.1, he.2.1, he.2.2⟩
/-- A hash read from wherever its cells stand. -/
theorem loadH (w : World) (ad : Addr) (x : H32) (hc : ∀ (j : Nat) (u : Value), x.cells.toList[j]? = some u → w.cell? (ad.add j) = some u) : (Instr.loadAt 25 (.pointer (some ad))).run Tryz.prog w = .ok (.agg x.cells) w := by
  obtain ⟨i, hi, _, hs, _⟩ := info_parts infoH
  have hl : (loadCells ad 32).run Tryz.prog w = .ok x.cells w := by
    have h := run_loadCells_list (P := Tryz.prog) w ad x.cells.toList hc
    rw [x.len] at h
    simpa using h
  have hagg : (isAgg 25).run Tryz.prog w = .ok true w := by
    unfold isAgg
    rw [Sem.run_bind, run_underlying Tryz.underlying25 w]
    simp
  simp [Instr.loadAt, Instr.sureAddr, loadVar, Sem.run_bind, hagg, sizeOf, typeInfo, hi, hs, hl]
theorem row_at {w : World} {g : Nat} (x : H32) {t : TypeId} {fz : Nat × Nat} (hg : w.heap[g]? = some (.cells x.cells t fz)) : ∀ (j : Nat) (u : Value), x.cells.toList[j]? = some u → w.cell? ((⟨g, 0, none⟩ : Addr).add j) = some u := fun j u hu => by
  have e : (⟨g, 0, none⟩ : Addr).add j = ⟨g, j, none⟩ := by
    unfold Addr.add
    split <;> simp_all
  rw [e, cell_of_row w g j _ t fz hg]
  simpa using hu
theorem storeH (w : World) (g : Nat) (x : H32) (old : Array Value) (t : TypeId) (hg : w.heap[g]? = some (.cells old t (0, 0))) (ho : old.size = 32) : (Instr.storeAt 25 (.pointer (some ⟨g, 0, none⟩)) (.agg x.cells)).run Tryz.prog w = .ok () (w.setRow g x.cells) := by
  simp only [Instr.storeAt, Instr.sureAddr, Sem.run_bind, Sem.run_pure, Result.andThen_ok]
  have hi : (Tryz.prog.info? 25).map (·.size) = some 32 := by kernel_rfl
  exact run_storeVar_row w g t 25 old x.cells hg (by rw [x.size]; exact hi) (by rw [ho, x.size]) (by
    rw [Array.all_eq_true_iff_forall_mem]
    intro u hu
    exact x.one u (by simpa using hu))
set_option maxRecDepth 100000 in
theorem buildH (w : World) (x : H32) : (Instr.buildSlice 23 1 #[(0, .agg x.cells)]).run Tryz.prog w = .ok (.slice (some ⟨w.heap.size, 0, none⟩) 1 1) (w.alloc (.cells x.cells 25)) := by
  obtain ⟨i0, hi, hz0, hz1, hz2⟩ := info_parts infoH
  refine run_buildSlice w 23 25 1 _ x.cells i0 _ Tryz.underlying23 hi hz0 (by rw [hz1]; decide) (by rw [hz1]; decide) ?_
  have hs : (Value.agg x.cells).cells.size = 32 := x.size
  simp only [Instr.fill, hz1]
  rw [if_neg (by
    simp only [hs]
    simp)]
  congr 1
  apply Array.ext'
  rw [← Array.foldl_toList, Array.toList_zipIdx]
  have h0 := fold_set x.cells.toList ((Array.range (1 * 32)).map fun k => (Value.agg (List.replicate 32 (Value.int .u8 0)).toArray).cells[k % (Value.agg (List.replicate 32 (Value.int .u8 0)).toArray).cells.size]!) 0 (by simp [x.size])
  have e1 : (Value.agg x.cells).cells = x.cells := rfl
  rw [e1]
  refine h0.trans ?_
  simp [x.size]
end Go.Proofs.YtnenknghinpliaaGreatDoor
end
section
namespace Go.Proofs.YtnenknghinpliaaGreatDoor
open Go.RowKit Go.Shelf Go.KO
theorem text_h (x : H32) (w : World) : Calls Tryz.prog 10 #[.agg x.cells] w fun e w' => e = .returned (.string ⟨x.txt.toArray⟩) ∧ Below w.heap.size w w' := hexText x.cells x.f x.size x.cell x.lt w
theorem ref_h (x : H32) (w : World) : Calls Tryz.prog 6 #[.agg x.cells] w fun e w' => e = .returned (.string ⟨x.txt.toArray⟩) ∧ Below w.heap.size w w' := text_ok x.cells x.f x.size x.cell x.lt w
theorem cut12 (x : H32) (W : World) : (Instr.sliceAt 9 (.string ⟨x.txt.toArray⟩) none (some (.int .i64 12)) none).run Tryz.prog W = .ok (.string ⟨x.cut.toArray⟩) W := by
  have hs : (⟨x.txt.toArray⟩ : ByteArray).size = 64 := by show x.txt.toArray.size = 64; simp [x.txt_length]
  have hb : (Instr.sliceBounds false 64 64 none (some (.int .i64 12)) none).run Tryz.prog W = .ok (0, 12, 64) W := by kernel_rfl
  simp [Instr.sliceAt, Instr.slice, run_underlying Tryz.underlying9, hs, H32.cut, hb]
  apply ByteArray.ext
  simp
theorem infoS : (Tryz.prog.info? 9).map (fun i => (i.zero, i.size, i.bytes)) = some (some (.string ⟨#[]⟩), 1, 16) := by kernel_rfl
theorem buildS (w : World) (s : ByteArray) : (Instr.buildSlice 35 1 #[(0, .string s)]).run Tryz.prog w = .ok (.slice (some ⟨w.heap.size, 0, none⟩) 1 1) (w.alloc (.cells #[.string s] 9)) := by
  obtain ⟨i0, hi, hz0, hz1, hz2⟩ := info_parts infoS
  refine run_buildSlice w 35 9 1 _ #[.string s] i0 _ Tryz.underlying35 hi hz0 (by rw [hz1]; decide) (by rw [hz1]; decide) ?_
  simp only [hz1]
  simp [Instr.fill, Value.cells, show Array.range 1 = #[0] from rfl]
def words (n : Nat) (xs : List H32) : List ByteArray := ⟨(Lib.decDigits n).toArray⟩ :: xs.map fun x => ⟨x.cut.toArray⟩
def lineS (xs : List H32) : List UInt8 := Lib.join (Lib.decDigits xs.length :: xs.map H32.cut) [32]
theorem words_lists (n : Nat) (xs : List H32) : (words n xs).map (·.data.toList) = Lib.decDigits n :: xs.map H32.cut := by
  simp [words, Function.comp_def]
theorem words_snoc (n : Nat) (xs : List H32) (x : H32) : words n (xs ++ [x]) = words n xs ++ [⟨x.cut.toArray⟩] := by simp [words]
theorem lens_cuts : ∀ xs : List H32, Lib.lens (xs.map H32.cut) = 12 * xs.length
  | [] => rfl
  | x :: r => by
    have h := lens_cuts r
    simp only [Lib.lens, List.map_cons, List.sum_cons, List.length_cons] at h ⊢
    rw [h, x.cut_length]; omega
theorem decDigits_len (n : Nat) (h : n < 100) : (Lib.decDigits n).length ≤ 2 := by
  unfold Lib.decDigits
  split
  · simp
  · rename_i h10
    unfold Lib.decDigits
    rw [dif_pos (by omega)]
    simp
def strsV (l : List ByteArray) : List Value := l.map Value.string
theorem grown_box (w : World) (A : Obj) (cs : Array Value) : w.grownBy ((w.alloc A).setRow w.heap.size cs) none :=
  ⟨rfl, rfl, rfl, by simp, fun k hk _ => (setRow_other _ _ _ _ (by omega)).trans (Below.heap_alloc w A k hk)⟩
theorem grown_below {w w' : World} (h : Below w.heap.size w w') : w.grownBy w' none :=
  ⟨h.os, h.tape, h.output, h.size, fun k hk _ => h.block k hk⟩
theorem below_grown {B : Nat} {w w1 w2 : World} {row : Option Nat} (h : Below B w w1) (hg : w1.grownBy w2 row) (hB : B ≤ w1.heap.size) (hr : ∀ k, row = some k → B ≤ k) : Below B w w2 :=
  ⟨hg.os.trans h.os, hg.tape.trans h.tape, hg.output.trans h.output, Nat.le_trans h.size hg.size, fun k hk => (hg.block k (by omega) (fun e => by have := hr k e.symm; omega)).trans (h.block k hk)⟩
theorem kept_none {w w' : World} {b : Nat} {e : TypeId} {sz : Nat} {v : Value} {n : Nat} {xs : List Value} (h : w.ownsRow b e sz v n xs) (hg : w.grownBy w' none) : w'.ownsRow b e sz v n xs :=
  h.kept hg (by cases v.ownBlock <;> simp)
/-- The hashes of a slice, in a world. -/
def Holds (w : World) (a : Option Addr) (xs : List H32) : Prop :=
  ∀ (k : Nat) (x : H32), xs[k]? = some x → ∃ b o, a = some ⟨b, o, none⟩ ∧ b < w.heap.size ∧ ∀ (j : Nat) (u : Value), x.cells.toList[j]? = some u → w.cell? ⟨b, o + k * 32 + j, none⟩ = some u
theorem add_plain (b o j : Nat) : (⟨b, o, none⟩ : Addr).add j = ⟨b, o + j, none⟩ := by unfold Addr.add; split <;> simp_all
theorem one_at {w : World} {g : Nat} {s : ByteArray} {t : TypeId} {fz : Nat × Nat} (h : w.heap[g]? = some (.cells #[.string s] t fz)) : ∀ (j : Nat) (u : Value), [Value.string s][j]? = some u → w.cell? ((⟨g, 0, none⟩ : Addr).add j) = some u
  | 0, u, hu => by cases hu; rw [add_plain, cell_of_row _ _ _ _ _ _ h]; rfl
  | j + 1, u, hu => by cases hu
theorem one_cell (s : ByteArray) : ∀ u ∈ [Value.string s], u.oneCell' = true := fun u hu => by rcases List.mem_singleton.1 hu with rfl; rfl
set_option maxHeartbeats 4000000 in
set_option maxRecDepth 1000000 in
theorem line_ok (a : Option Addr) (c : Nat) (xs : List H32) (w : World) (hn : xs.length < 100) (hH : Holds w a xs) :
    Calls Tryz.prog 5 #[.slice a xs.length c] w fun e w' => e = .returned (.string ⟨(lineS xs).toArray⟩) ∧ Below w.heap.size w w' := by
  obtain ⟨i0, hi, hz0, hz1, hz2⟩ := info_parts infoS
  have e9 : ∀ args w, (callFunc 9 args).run Tryz.prog w = .ok (.enter 9 args) w := enters_of Tryz.func9 (by kernel_rfl) rfl
  have e10 : ∀ args w, (callFunc 10 args).run Tryz.prog w = .ok (.enter 10 args) w := enters_of Tryz.func10 (by kernel_rfl) rfl
  have e11 : ∀ args w, (callFunc 11 args).run Tryz.prog w = .ok (.enter 11 args) w := enters_of Tryz.func11 (by kernel_rfl) rfl
  go_enter Tryz.func5, Tryz.ntmps5
  go_wp2_with (first
    | (go_at_fn 9; refine (Tryz.strconv_Itoa_small xs.length hn w).mono ?_; rintro e w1 ⟨rfl, rfl⟩)
    | (refine plBuild rfl 35 1 _ rfl [(0, .string ⟨(Lib.decDigits xs.length).toArray⟩)] rfl _ _ (buildS w1 _) ?_))
  go_loopw [3, 12] (fun s i wr => ∃ k : Nat, k ≤ xs.length ∧ i = .int .i64 k ∧ wr.ownsRow w1.heap.size 9 1 s (k + 1) (strsV (words xs.length (xs.take k))) ∧ Below w1.heap.size w1 wr) (fun _ i _ => xs.length - (intOf i).toNat)
  case atStart =>
    refine ⟨0, by omega, rfl, ?_, (Below.refl _ w1).alloc (Nat.le_refl _) _⟩
    exact ⟨rfl, .inr ⟨w1.heap.size, 1, #[.string ⟨(Lib.decDigits xs.length).toArray⟩], rfl, Nat.le_refl _, heap_alloc_new w1 _, Nat.le_refl _, by simp [maxLen], rfl, rfl⟩⟩
  case round =>
    obtain ⟨k, hk, rfl, hrow, hbw⟩ := hrel
    by_cases hlt : k < xs.length
    · have hltz : (k : Int) < (xs.length : Int) := by omega
      obtain ⟨x, hx⟩ : ∃ x, xs[k]? = some x := ⟨_, List.getElem?_eq_getElem hlt⟩
      obtain ⟨b, o, rfl, hbl, hcell⟩ := hH k x hx
      have hcx : ∀ W : World, W.heap = wr.heap → ∀ (j : Nat) (u : Value), x.cells.toList[j]? = some u → W.cell? ((⟨b, o + k * 32, none⟩ : Addr).add j) = some u := fun W hW j u hu => by
        rw [add_plain]
        have h0 := hcell j u hu
        simp only [World.cell?, hW, hbw.block b hbl] at h0 ⊢
        exact h0
      go_wp2_with (first
        | (refine plLoad rfl 25 (.tmp 14) rfl (.agg x.cells) (loadH _ _ x (hcx _ rfl)) ?_)
        | (refine plStore rfl 25 (.tmp 5) (.tmp 15) rfl _ (storeH _ _ x _ 25 (heap_alloc_new _ _) rfl) ?_
           generalize hWa : World.setRow (World.alloc wr _) wr.heap.size x.cells = Wa
           have hga : wr.grownBy Wa none := by rw [← hWa]; exact grown_box _ _ _
           have hx5 : Wa.heap[wr.heap.size]? = some (.cells x.cells 25 (0, 0)) := by rw [← hWa]; exact setRow_heap _ _ _ _ _ _ (heap_alloc_new wr _)
           clear hWa)
        | (refine plLoad rfl 25 (.tmp 5) rfl (.agg x.cells) (loadH _ _ x (row_at x hx5)) ?_)
        | (go_at_fn 10; refine (text_h x Wa).mono ?_; rintro e W3 ⟨rfl, hb3⟩
           obtain ⟨T, hT⟩ : ∃ T, x.txt = T := ⟨_, rfl⟩
           obtain ⟨C, hC⟩ : ∃ C, x.cut = C := ⟨_, rfl⟩
           have hcut := cut12 x W3
           rw [hT, hC] at hcut
           simp only [hT])
        | (refine plSlice rfl 9 (.tmp 18) none (some (.const (.int .i64 12))) none rfl _ hcut ?_)
        | (refine plBuild rfl 35 1 #[(0, .tmp 19)] rfl [(0, .string ⟨C.toArray⟩)] rfl _ _ (buildS W3 _) ?_)
        | (at_builtin; refine wpList_append_own _ rfl _ _ 35 rfl w1.heap.size 9 i0 _ 1 16 Tryz.underlying35 hi hz0 hz1 hz2 rfl (by decide) _ _ _ rfl ((kept_none (kept_none hrow hga) (grown_below hb3)).alloc _) ⟨W3.heap.size, 0, none⟩ 1 1 [.string ⟨C.toArray⟩] rfl rfl (one_at (heap_alloc_new W3 _)) (one_cell _) (by simp only [maxLen]; omega) (by omega) (by have h1 := hbw.size; have h2 := hga.size; have h3 := hb3.size; simp; omega) ?_
           intro v' w4 hown' hg4 hnil4))
      have hg4' : (W3.alloc (.cells #[.string ⟨C.toArray⟩] 9)).grownBy w4 u3.ownBlock := hg4
      clear hg4 hnil4
      have hba : Below w1.heap.size w1 Wa := below_grown hbw hga hbw.size (fun k e => by cases e)
      have hb3' : Below w1.heap.size w1 W3 := below_grown hba (grown_below hb3) hba.size (fun k e => by cases e)
      have hbl3 := hb3'.alloc hb3'.size (.cells #[.string ⟨C.toArray⟩] 9)
      refine ⟨⟨k + 1, by omega, by push_cast; rfl, ?_, below_grown hbl3 hg4' hbl3.size (fun j e => (hrow.lt j e).1)⟩, by simp [intOf]; omega⟩
      have e : strsV (words xs.length (xs.take (k + 1))) = strsV (words xs.length (xs.take k)) ++ [.string ⟨C.toArray⟩] := by
        rw [List.take_add_one, hx, Option.toList_some, words_snoc, hC]
        simp [strsV]
      rw [e]
      exact hown'
    · have hltz : ¬ (k : Int) < (xs.length : Int) := by omega
      have hkn : k = xs.length := by omega
      subst hkn
      rw [List.take_length] at hrow
      rcases hrow.2 with ⟨_, h0⟩ | ⟨g, cap, cur, rfl, hgb, hcells, hle, _, hsz, htake⟩
      · omega
      have hwl : (words xs.length xs).length = xs.length + 1 := by simp [words]
      have hj := Tryz.strings_Join g 0 cap (words xs.length xs) ⟨#[32]⟩ wr (fun j y hy => by
        rw [Nat.zero_add, cell_of_row _ _ _ _ _ _ hcells]
        have h1 : (strsV (words xs.length xs))[j]? = some (.string y) := by simp only [strsV, List.getElem?_map, hy, Option.map_some]
        rw [← htake, List.getElem?_take] at h1
        split at h1
        · simpa using h1
        · cases h1) (Array.getElem?_eq_some_iff.1 hcells).1 (by rw [hwl]; omega) (by rw [hwl]; omega) (by
        rw [words_lists, Lib.join_length]
        have h2 := decDigits_len xs.length hn
        have h3 := lens_cuts xs
        simp only [Lib.lens, List.map_cons, List.sum_cons, List.length_map] at h3 ⊢
        show 1 * _ + _ ≤ _
        omega)
      rw [hwl, words_lists] at hj
      go_wp2_with (go_at_fn 11; refine hj.mono ?_; rintro e w5 ⟨rfl, hb5⟩)
      go_ret
      exact ⟨rfl, below_grown hbw (grown_below hb5) hbw.size (fun j e => by cases e)⟩
end Go.Proofs.YtnenknghinpliaaGreatDoor
end
section
namespace Go.Proofs.YtnenknghinpliaaGreatDoor
open Go.RowKit Go.Shelf Go.KO
/-- Numbers that a slice holds, in a world. -/
def HoldsI (w : World) (a : Option Addr) (zs : List Int) : Prop :=
  ∀ (k : Nat) (z : Int), zs[k]? = some z → ∃ b o, a = some ⟨b, o, none⟩ ∧ b < w.heap.size ∧ w.cell? ⟨b, o + k, none⟩ = some (.int .i64 z)
theorem cell_below {w w' : World} (h : Below w.heap.size w w') {b o : Nat} (hb : b < w.heap.size) : w'.cell? ⟨b, o, none⟩ = w.cell? ⟨b, o, none⟩ := by
  simp only [World.cell?, h.block b hb]
theorem Holds.below {w w' : World} {a : Option Addr} {xs : List H32} (h : Holds w a xs) (hb : Below w.heap.size w w') : Holds w' a xs := fun k x hx => by
  obtain ⟨b, o, rfl, hl, hc⟩ := h k x hx
  exact ⟨b, o, rfl, Nat.lt_of_lt_of_le hl hb.size, fun j u hu => (cell_below hb hl).trans (hc j u hu)⟩
theorem HoldsI.below {w w' : World} {a : Option Addr} {zs : List Int} (h : HoldsI w a zs) (hb : Below w.heap.size w w') : HoldsI w' a zs := fun k x hx => by
  obtain ⟨b, o, rfl, hl, hc⟩ := h k x hx
  exact ⟨b, o, rfl, Nat.lt_of_lt_of_le hl hb.size, (cell_below hb hl).trans hc⟩
theorem owns_holds {w : World} {B : Nat} {v : Value} {n : Nat} {xs : List H32} (h : w.ownsRow B 25 32 v n (flat xs)) (hn : n = xs.length) : ∃ a c, v = .slice a xs.length c ∧ Holds w a xs := by
  rcases h.2 with ⟨rfl, h0⟩ | ⟨g, cap, cur, rfl, hgb, hcells, hle, _, hsz, htake⟩
  · obtain rfl : xs = [] := List.eq_nil_of_length_eq_zero (by omega)
    exact ⟨none, 0, rfl, fun k x hx => by simp at hx⟩
  · subst hn
    refine ⟨_, _, rfl, fun k x hx => ⟨g, 0, rfl, (Array.getElem?_eq_some_iff.1 hcells).1, fun j u hu => ?_⟩⟩
    rw [cell_of_row _ _ _ _ _ _ hcells, Nat.zero_add]
    have h1 := flat_at xs k x hx j u hu
    rw [← htake, List.getElem?_take] at h1
    split at h1
    · simpa using h1
    · cases h1
theorem Holds.flat {w : World} {ad : Addr} {ys : List H32} (h : Holds w (some ad) ys) : ∀ (j : Nat) (u : Value), (flat ys)[j]? = some u → w.cell? (ad.add j) = some u := fun j u hu => by
  have hj : j < (Go.Proofs.YtnenknghinpliaaGreatDoor.flat ys).length := (List.getElem?_eq_some_iff.1 hu).1
  rw [flat_length] at hj
  have hk : j / 32 < ys.length := by omega
  obtain ⟨b, o, e, hl, hc⟩ := h (j / 32) ys[j / 32] (List.getElem?_eq_getElem hk)
  cases e
  have h32 : j % 32 < (ys[j / 32]).cells.toList.length := by rw [H32.len]; omega
  have h1 := flat_at ys (j / 32) ys[j / 32] (List.getElem?_eq_getElem hk) (j % 32) _ (List.getElem?_eq_getElem h32)
  rw [show j / 32 * 32 + j % 32 = j by omega, hu] at h1
  have h2 := hc (j % 32) _ (List.getElem?_eq_getElem h32)
  rw [add_plain, show o + j = o + j / 32 * 32 + j % 32 by omega, h2, h1]
theorem Holds.take {w : World} {a : Option Addr} {ys : List H32} (h : Holds w a ys) (m : Nat) : Holds w a (ys.take m) := fun k x hx => by
  rw [List.getElem?_take] at hx
  split at hx
  · exact h k x hx
  · cases hx
theorem append_none (w : World) (B n c : Nat) (v : Value) (xs : List Value) (ty : TypeId) (hown : w.ownsRow B 25 32 v n xs) : (Builtin.append_ #[23, 23] ty #[v, .slice none 0 c]).run Tryz.prog w = .ok v w := by
  have hu : Tryz.prog.underlying 23 = some (.slice 25) := Tryz.underlying23
  have hsz : (sizeOf 25).run Tryz.prog w = .ok 32 w := Tryz.sizeOf25 w
  rcases hown.2 with ⟨rfl, h0⟩ | ⟨g, cap, cur, rfl, hgb, hcells, hle, hm, _, htake⟩
  · simp [Builtin.append_, run_underlying hu, hsz, Builtin.lenOf, Builtin.firstCells]
  · simp [Builtin.append_, run_underlying hu, hsz, Builtin.lenOf, Builtin.firstCells, hle, storeCells]
set_option maxRecDepth 100000 in
theorem append_raw (w : World) (B m c2 : Nat) (v : Value) (xs ys : List H32) (a2 : Option Addr) (ty : TypeId) (hm : m ≤ ys.length) (hown : w.ownsRow B 25 32 v xs.length (flat xs)) (hy : Holds w a2 ys) (hB : B ≤ w.heap.size)
    (hx20 : xs.length ≤ 20) (hm20 : m ≤ 20) : ∃ v' w', (Builtin.append_ #[23, 23] ty #[v, .slice a2 m c2]).run Tryz.prog w = .ok v' w' ∧ w'.ownsRow B 25 32 v' (xs ++ ys.take m).length (flat (xs ++ ys.take m)) ∧ w.grownBy w' v.ownBlock := by
  cases a2 with
  | none =>
    have h0 : ys = [] := by
      cases ys with
      | nil => rfl
      | cons y r => obtain ⟨b, o, e, _⟩ := hy 0 y rfl; cases e
    subst h0
    obtain rfl : m = 0 := by simpa using hm
    exact ⟨v, w, append_none w B _ c2 v _ ty hown, by simpa using hown, rfl, rfl, rfl, Nat.le_refl _, fun _ _ _ => rfl⟩
  | some ad =>
    obtain ⟨i0, hi, hz0, hz1, hz2⟩ := info_parts infoH
    obtain ⟨v', w', hr, h1, h2, _⟩ := run_append_own (P := Tryz.prog) w B 23 ty 25 i0 _ 32 32 Tryz.underlying23 hi hz0 hz1 hz2 rfl (by decide) v xs.length (flat xs) hown ad m c2 (flat (ys.take m)) (by rw [flat_length, List.length_take]; congr 1; omega) (hy.take m).flat (flat_one _) (by simp only [maxLen]; omega) (by omega) hB
    refine ⟨v', w', hr, ?_, h2⟩
    rw [flat_append, List.length_append, List.length_take, Nat.min_eq_left hm]
    exact h1
def dig : Nat → Int | 0 => 1000 | 1 => 100 | 2 => 10 | 3 => 1 | _ => 0
def digT (n : Nat) : Nat → List UInt8 | 3 => if n < 10 then [] else [UInt8.ofNat (48 + n / 10)] | 4 => Lib.decDigits n | _ => []
theorem digT3_len (n : Nat) : (digT n 3).length ≤ 1 := by
  simp only [digT]
  split <;> simp
theorem digT4 (n : Nat) (h : n < 100) : digT n 4 = digT n 3 ++ [UInt8.ofNat (48 + n % 10)] := by
  simp only [digT]
  unfold Lib.decDigits
  by_cases h10 : n < 10
  · rw [dif_pos h10, if_pos h10, Nat.mod_eq_of_lt h10]; rfl
  · rw [dif_neg h10, if_neg h10]
    unfold Lib.decDigits
    rw [dif_pos (by omega)]
def tailT (xs : List H32) : List UInt8 := Lib.joinTail [32] (xs.map H32.cut)
theorem tailT_snoc (xs : List H32) (x : H32) : tailT (xs ++ [x]) = tailT xs ++ [32] ++ x.cut := by simp [tailT, Lib.joinTail]
theorem tailT_len (xs : List H32) : (tailT xs).length = 13 * xs.length := by
  have h := lens_cuts xs
  rw [tailT, Lib.joinTail_length, h]
  simp; omega
theorem lineS_eq (xs : List H32) : lineS xs = Lib.decDigits xs.length ++ tailT xs := Lib.join_cons _ _ _
theorem infoB : (Tryz.prog.info? 5).map (fun i => (i.zero, i.size, i.bytes)) = some (some (.int .u8 0), 1, 1) := by kernel_rfl
theorem buildB (w : World) (v : Value) (hv : v.cells = #[v]) : (Instr.buildSlice 28 1 #[(0, v)]).run Tryz.prog w = .ok (.slice (some ⟨w.heap.size, 0, none⟩) 1 1) (w.alloc (.cells #[v] 5)) := by
  obtain ⟨i0, hi, hz0, hz1, hz2⟩ := info_parts infoB
  refine run_buildSlice w 28 5 1 _ #[v] i0 _ Tryz.underlying28 hi hz0 (by rw [hz1]; decide) (by rw [hz1]; decide) ?_
  simp only [hz1]
  simp [Instr.fill, hv, show Array.range 1 = #[0] from rfl]
theorem convB (w : World) (g n : Nat) (t : TypeId) (fz : Nat × Nat) (hg : w.heap[g]? = some (.cells #[.int .u8 n] t fz)) : (convert 28 9 (.slice (some ⟨g, 0, none⟩) 1 1)).run Tryz.prog w = .ok (.string ⟨#[UInt8.ofNat n]⟩) w := by
  have h := run_convert_bytes_arg (P := Tryz.prog) w 28 5 Tryz.underlying28 Tryz.underlying5 g 0 1 1 [(n : Int)] rfl (fun i hi => by
    obtain rfl : i = 0 := by omega
    rw [cell_of_row _ _ _ _ _ _ hg]; rfl) 9 Tryz.underlying9
  rw [h]
  simp [strOfNums]
theorem loadI (w : World) (ad : Addr) (v : Value) (h : w.cell? ad = some v) : (Instr.loadAt 3 (.pointer (some ad))).run Tryz.prog w = .ok v w := by
  have hagg : (isAgg 3).run Tryz.prog w = .ok false w := by
    unfold isAgg
    rw [Sem.run_bind, run_underlying Tryz.underlying3 w]
    simp
  simp [Instr.loadAt, Instr.sureAddr, loadVar, Sem.run_bind, hagg, h]
set_option maxHeartbeats 40000000 in
set_option maxRecDepth 1000000 in
theorem ones_ok (a1 a2 : Option Addr) (c1 c2 : Nat) (zs : List Int) (ys : List H32) (w : World) (hz : HoldsI w a1 zs) (hy : Holds w a2 ys) (hc2 : ys.length ≤ c2)
    (hknown : ∀ w1, Below w.heap.size w w1 → Calls Tryz.prog 7 #[] w1 fun e w' => e = .returned (.bool true) ∧ Below w1.heap.size w1 w') :
    Calls Tryz.prog 3 #[.slice a1 zs.length c1, .slice a2 ys.length c2] w fun e w' => e = .returned (.bool true) ∧ Below w.heap.size w w' := by
  obtain ⟨i0, hi, hz0, hz1, hz2⟩ := info_parts infoH
  have e4 : ∀ args w, (callFunc 4 args).run Tryz.prog w = .ok (.enter 4 args) w := enters_of Tryz.func4 (by kernel_rfl) rfl
  have e5 : ∀ args w, (callFunc 5 args).run Tryz.prog w = .ok (.enter 5 args) w := enters_of Tryz.func5 (by kernel_rfl) rfl
  have e6 : ∀ args w, (callFunc 6 args).run Tryz.prog w = .ok (.enter 6 args) w := enters_of Tryz.func6 (by kernel_rfl) rfl
  have e7 : ∀ args w, (callFunc 7 args).run Tryz.prog w = .ok (.enter 7 args) w := enters_of Tryz.func7 (by kernel_rfl) rfl
  go_enter Tryz.func3, Tryz.ntmps3
  go_wp2
  go_loopw [5, 6] (fun s i wr => ∃ (k : Nat) (xs : List H32), k ≤ zs.length ∧ k ≤ 20 ∧ xs.length = k ∧ i = .int .i64 k ∧ wr.ownsRow w.heap.size 25 32 s k (flat xs) ∧ Below w.heap.size w wr) (fun _ i _ => 20 - (intOf i).toNat)
  case atStart => exact ⟨0, [], by omega, by omega, rfl, rfl, World.ownsRow_nil _ _ _ _, Below.refl _ w⟩
  case round =>
    obtain ⟨k, xs, hk, hk20, hxl, rfl, hrow, hbw⟩ := hrel
    by_cases hlt : k < zs.length ∧ k < 20
    · obtain ⟨hl1, hl2⟩ := hlt
      have hk1 : (k : Int) < (zs.length : Int) := by omega
      have hk2 : (k : Int) < 20 := by omega
      obtain ⟨z, hzk⟩ : ∃ z, zs[k]? = some z := ⟨_, List.getElem?_eq_getElem hl1⟩
      obtain ⟨b, o, rfl, hbl, hcell⟩ := hz k z hzk
      have hcw : wr.cell? ⟨b, o + k, none⟩ = some (.int .i64 z) := by rw [cell_below hbw hbl]; exact hcell
      go_wp2_with (first
        | (refine plLoad rfl 3 (.tmp 25) rfl (.int .i64 z) (loadI _ _ _ hcw) ?_)
        | (go_at_fn 4; refine (hash_ok z wr).mono ?_; rintro e W1 ⟨⟨l, hl32, hl256, rfl⟩, hb1⟩
           obtain ⟨x, hx⟩ : ∃ x : H32, x.cells = (l.map fun (n : Nat) => Value.int .u8 n).toArray := ⟨⟨l, hl32, hl256⟩, rfl⟩
           rw [← hx]
           clear hx hl32 hl256)
        | (refine plBuild rfl 23 1 #[(0, .tmp 27)] rfl [(0, .agg x.cells)] rfl _ _ (buildH W1 x) ?_)
        | (at_builtin; refine wpList_append_own _ rfl _ _ 23 rfl w.heap.size 25 i0 _ 32 32 Tryz.underlying23 hi hz0 hz1 hz2 rfl (by decide) _ _ _ rfl ((kept_none hrow (grown_below hb1)).alloc _) ⟨W1.heap.size, 0, none⟩ 1 1 x.cells.toList rfl (by rw [x.len]) (row_at x (heap_alloc_new W1 _)) x.one (by simp only [maxLen]; omega) (by omega) (by have h1 := hbw.size; have h2 := hb1.size; simp; omega) ?_
           intro v' w4 hown' hg4 hnil4))
      have hg4' : (W1.alloc (.cells x.cells 25)).grownBy w4 u5.ownBlock := hg4
      clear hg4 hnil4
      have hb1' : Below w.heap.size w W1 := below_grown hbw (grown_below hb1) hbw.size (fun k e => by cases e)
      have hbl1 := hb1'.alloc hb1'.size (.cells x.cells 25)
      refine ⟨⟨k + 1, xs ++ [x], by omega, by omega, by simp [hxl], by push_cast; rfl, ?_, below_grown hbl1 hg4' hbl1.size (fun j e => (hrow.lt j e).1)⟩, by simp [intOf]; omega⟩
      rw [flat_snoc]
      exact hown'
    · rcases (show (¬ (k : Int) < (zs.length : Int)) ∨ ((k : Int) < (zs.length : Int) ∧ ¬ (k : Int) < 20) by omega) with hk1 | ⟨hk1, hk2⟩
      all_goals
        obtain ⟨m, hm⟩ : ∃ m, (min (ys.length : Int) 20).toNat = m := ⟨_, rfl⟩
        obtain ⟨v', w4, hr, hown', hg4⟩ := append_raw wr w.heap.size m c2 u5 xs ys a2 23 (by omega) (by rw [hxl]; exact hrow) (hy.below hbw) hbw.size (by omega) (by omega)
        have hb4 : Below w.heap.size w w4 := below_grown hbw hg4 hbw.size (fun j e => (hrow.lt j e).1)
        obtain ⟨X, hX⟩ : ∃ X, xs ++ ys.take m = X := ⟨_, rfl⟩
        have hX40 : X.length ≤ 40 := by rw [← hX, List.length_append, List.length_take]; omega
        rw [hX] at hown'
        obtain ⟨a, c, rfl, hH⟩ := owns_holds hown' rfl
        go_wp2_with (first
          | (refine plAppend rfl (.tmp 30) (.tmp 35) 23 rfl u5 (.slice a2 m c2) rfl (by rw [← hm]; rfl) _ w4 hr ?_)
          | (go_at_fn 5; refine (line_ok a c X w4 (by omega) hH).mono ?_; rintro e W5 ⟨rfl, hb5⟩
             obtain ⟨S, hS⟩ : ∃ S, lineS X = S := ⟨_, rfl⟩
             simp only [hS]))
        have hb5' : Below w.heap.size w W5 := below_grown hb4 (grown_below hb5) hb4.size (fun j e => by cases e)
        go_loopw [8, 10] (fun s d wr => ∃ j : Nat, j ≤ 4 ∧ d = .int .i64 (dig j) ∧ s = .string ⟨(digT X.length j).toArray⟩ ∧ Below W5.heap.size W5 wr) (fun _ d _ => (intOf d).toNat)
        case atStart => exact ⟨0, by omega, rfl, rfl, Below.refl _ W5⟩
        case round =>
          obtain ⟨j, hj, hd, hs, hbr⟩ := hrel
          rcases (show j = 0 ∨ j = 1 ∨ j = 2 ∨ j = 3 ∨ j = 4 by omega) with rfl | rfl | rfl | rfl | rfl
          · simp only [dig, digT] at hd hs
            subst hd hs
            have h0 : ¬ (1000 : Int) ≤ (X.length : Int) := by omega
            go_wp2
            exact ⟨⟨1, by omega, rfl, rfl, hbr⟩, by simp [intOf]⟩
          · simp only [dig, digT] at hd hs
            subst hd hs
            have h0 : ¬ (100 : Int) ≤ (X.length : Int) := by omega
            go_wp2
            exact ⟨⟨2, by omega, rfl, rfl, hbr⟩, by simp [intOf]⟩
          · simp only [dig, digT] at hd hs
            subst hd hs
            by_cases h10 : X.length < 10
            · have h0 : ¬ (10 : Int) ≤ (X.length : Int) := by omega
              go_wp2
              exact ⟨⟨3, by omega, rfl, by simp only [digT]; rw [if_pos h10], hbr⟩, by simp [intOf]⟩
            · have h0 : (10 : Int) ≤ (X.length : Int) := by omega
              obtain ⟨c8, hc8⟩ : ∃ c8, UInt8.ofNat (48 + X.length / 10) = c8 := ⟨_, rfl⟩
              have ha : ∀ W, (Op.stringOp .add ⟨#[]⟩ ⟨#[c8]⟩).run Tryz.prog W = .ok (.string ⟨#[c8]⟩) W := fun W => catS [] [c8] (by simp) W
              go_wp2_with (refine plConv rfl 28 9 (.tmp 59) rfl (.string ⟨#[c8]⟩) (by rw [← hc8]; exact convB _ wr.heap.size (48 + X.length / 10) 5 (0, 0) (by refine (heap_alloc_new wr _).trans ?_; simp <;> omega)) ?_)
              exact ⟨⟨3, by omega, rfl, by simp only [digT]; rw [if_neg h10, hc8], hbr.alloc hbr.size _⟩, by simp [intOf]⟩
          · simp only [dig] at hd
            subst hd
            obtain ⟨D, hD⟩ : ∃ D, digT X.length 3 = D := ⟨_, rfl⟩
            have hDl := digT3_len X.length
            rw [hD] at hs hDl
            subst hs
            obtain ⟨c8, hc8⟩ : ∃ c8, UInt8.ofNat (48 + X.length % 10) = c8 := ⟨_, rfl⟩
            have ha : ∀ W, (Op.stringOp .add ⟨D.toArray⟩ ⟨#[c8]⟩).run Tryz.prog W = .ok (.string ⟨(D ++ [c8]).toArray⟩) W := fun W => catS D [c8] (by simp only [List.length_cons, List.length_nil]; omega) W
            rcases (show (1 : Int) ≤ (X.length : Int) ∨ ¬ (1 : Int) ≤ (X.length : Int) by omega) with h1 | h1
            all_goals
              go_wp2_with (refine plConv rfl 28 9 (.tmp 59) rfl (.string ⟨#[c8]⟩) (by rw [← hc8]; exact convB _ wr.heap.size (48 + X.length % 10) 5 (0, 0) (by refine (heap_alloc_new wr _).trans ?_; simp <;> omega)) ?_)
              exact ⟨⟨4, by omega, rfl, by rw [digT4 X.length (by omega), hD, hc8], hbr.alloc hbr.size _⟩, by simp [intOf]⟩
          · simp only [dig] at hd
            subst hd
            obtain ⟨D, hD⟩ : ∃ D, digT X.length 4 = D := ⟨_, rfl⟩
            rw [hD] at hs
            subst hs
            have hDl := decDigits_len X.length (by omega)
            have hDl : D.length ≤ 2 := by rw [← hD]; exact hDl
            have hH5 := hH.below hb5
            go_wp2
            go_loopw [8, 11] (fun s i wr2 => ∃ k2 : Nat, k2 ≤ X.length ∧ i = .int .i64 k2 ∧ s = .string ⟨(D ++ tailT (X.take k2)).toArray⟩ ∧ Below W5.heap.size W5 wr2) (fun _ i _ => X.length - (intOf i).toNat)
            case atStart => exact ⟨0, by omega, rfl, by simp [tailT, Lib.joinTail], hbr⟩
            case round =>
              obtain ⟨k2, hk2, rfl, rfl, hbr2⟩ := hrel
              by_cases hl2 : k2 < X.length
              · have hl2z : (k2 : Int) < (X.length : Int) := by omega
                obtain ⟨x, hx⟩ : ∃ x, X[k2]? = some x := ⟨_, List.getElem?_eq_getElem hl2⟩
                obtain ⟨b, o, rfl, hbl, hcell⟩ := hH5 k2 x hx
                have hcx : ∀ (j : Nat) (u : Value), x.cells.toList[j]? = some u → wr.cell? ((⟨b, o + k2 * 32, none⟩ : Addr).add j) = some u := fun j u hu => by
                  rw [add_plain, cell_below hbr2 hbl]
                  exact hcell j u hu
                have htl := tailT_len (X.take k2)
                have htl2 : (X.take k2).length ≤ 40 := by rw [List.length_take]; omega
                obtain ⟨E, hE⟩ : ∃ E, D ++ tailT (X.take k2) = E := ⟨_, rfl⟩
                have hEl : E.length ≤ 600 := by rw [← hE, List.length_append]; omega
                simp only [hE]
                obtain ⟨T, hT⟩ : ∃ T, x.txt = T := ⟨_, rfl⟩
                obtain ⟨C, hC⟩ : ∃ C, x.cut = C := ⟨_, rfl⟩
                have hCl : C.length = 12 := by rw [← hC]; exact x.cut_length
                have hcut := fun W => cut12 x W
                have hrf := fun W => ref_h x W
                simp only [hT, hC] at hcut hrf
                have ha1 : ∀ W, (Op.stringOp .add ⟨E.toArray⟩ ⟨#[32]⟩).run Tryz.prog W = .ok (.string ⟨(E ++ [32]).toArray⟩) W := fun W => catS E [32] (by simp; omega) W
                have ha2 : ∀ W, (Op.stringOp .add ⟨(E ++ [32]).toArray⟩ ⟨C.toArray⟩).run Tryz.prog W = .ok (.string ⟨(E ++ [32] ++ C).toArray⟩) W := fun W => catS (E ++ [32]) C (by simp; omega) W
                generalize hE2 : E ++ [32] = E2 at ha1 ha2
                go_wp2_with (first
                  | (refine plLoad rfl 25 (.tmp 72) rfl (.agg x.cells) (loadH _ _ x hcx) ?_)
                  | (go_at_fn 6; refine (hrf wr).mono ?_; rintro e W6 ⟨rfl, hb6⟩)
                  | (refine plSlice rfl 9 (.tmp 74) none (some (.const (.int .i64 12))) none rfl _ (hcut W6) ?_))
                have hb6' : Below W5.heap.size W5 W6 := below_grown hbr2 (grown_below hb6) hbr2.size (fun j e => by cases e)
                refine ⟨⟨k2 + 1, by omega, by push_cast; rfl, ?_, hb6'⟩, by simp [intOf]; omega⟩
                rw [List.take_add_one, hx, Option.toList_some, tailT_snoc, hC, ← hE2, ← hE]
                simp
              · have hl2z : ¬ (k2 : Int) < (X.length : Int) := by omega
                obtain rfl : k2 = X.length := by omega
                rw [List.take_length]
                obtain ⟨E, hE⟩ : ∃ E, D ++ tailT X = E := ⟨_, rfl⟩
                have hSE : S = E := by rw [← hS, lineS_eq, ← hE, ← hD]; rfl
                rw [hE]
                have hbW : Below w.heap.size w wr := below_grown hb5' (grown_below hbr2) hb5'.size (fun j e => by cases e)
                go_wp2_with (go_at_fn 7; refine (hknown wr hbW).mono ?_; rintro e W7 ⟨rfl, hb7⟩)
                go_ret
                exact ⟨rfl, below_grown hbW (grown_below hb7) hbW.size (fun j e => by cases e)⟩
end Go.Proofs.YtnenknghinpliaaGreatDoor
end
section
namespace Go.Proofs.YtnenknghinpliaaGreatDoor
open Go.RowKit Go.Shelf Go.KO
theorem addr_plain {W : World} {a : Addr} {v : Value} (h : W.cell? (a.add 0) = some v) : ∃ b o, a = ⟨b, o, none⟩ ∧ b < W.heap.size := by
  obtain ⟨b, off, spot⟩ := a
  have e : Addr.add ⟨b, off, spot⟩ 0 = ⟨b, off, spot⟩ := by simp [Addr.add]
  rw [e] at h
  unfold World.cell? at h
  cases hh : W.heap[b]? with
  | none => simp [hh] at h
  | some o =>
    cases o with
    | cells c t fz =>
      cases spot with
      | none => exact ⟨b, off, rfl, (Array.getElem?_eq_some_iff.1 hh).1⟩
      | some s => simp [hh] at h
    | _ => simp [hh] at h
variable {H : Type} {enc : TypeId × Value → H} {W : World} {spare : Nat → Bool} {held : Bool} {n : Nat} {v : Value} {d : DataW H} {p : List MemPlace}
theorem cI : Tryz.prog.cellsOf 3 = 1 := by kernel_rfl
theorem cB : Tryz.prog.cellsOf 5 = 1 := by kernel_rfl
theorem cH : Tryz.prog.cellsOf 25 = 32 := by kernel_rfl
theorem readI (h : DataW.trod enc Tryz.prog W 0 spare held n 22 [v] = some (d, p)) : ∃ a zs c, v = .slice a (zs : List Int).length c ∧ HoldsI W a zs := by
  rcases Go.Deep.open_slice Tryz.underlying22 h with ⟨e0, _⟩ | ⟨a, len, cap, m, n', D, Pl, e0, hb, hl, hm, hmm, _, hx⟩
  · cases e0
    exact ⟨none, [], 0, rfl, fun k z hz => by simp at hz⟩
  · cases e0
    have hlm : len ≤ m := by rw [hmm]; split <;> omega
    have each : ∀ i, i < len → ∃ z : Int, W.cell? (a.add i) = some (.int .i64 z) := by
      intro i hi
      obtain ⟨cs', h1, h2⟩ := hx i (by omega)
      rw [cI, Nat.mul_one] at h1
      obtain ⟨_, hlen, hcell⟩ := World.cells?_some h1
      obtain ⟨z, rfl, _, hw⟩ := DataW.trod_int Tryz.underlying3 h2
      have e0 := hcell 0 (by omega)
      have e1 : Addr.add (Addr.add a i) 0 = Addr.add a i := by rw [Go.Deep.add_add]; rfl
      rw [e1] at e0
      exact ⟨z, e0⟩
    obtain ⟨q, hq⟩ := Go.Deep.choose_lt each
    refine ⟨some a, (List.range len).map q, cap, by simp, fun k z hz => ?_⟩
    have hk : k < len := by
      have := (List.getElem?_eq_some_iff.1 hz).1
      simpa using this
    have hzq : q k = z := by simpa [List.getElem?_range hk] using hz
    have h0 := hq k hk
    obtain ⟨b, o, rfl, hbl⟩ := addr_plain (hq 0 (by omega))
    rw [add_plain, hzq] at h0
    exact ⟨b, o, rfl, hbl, h0⟩
instance : Inhabited H32 := ⟨⟨List.replicate 32 0, by simp, by simp⟩⟩
theorem hash_of {a : Addr} {cs : List Value} {x : DataW H × List MemPlace} (h : DataW.trod enc Tryz.prog W 0 spare held n 25 cs = some x) (hc : ∀ j, j < 32 → W.cell? (a.add j) = cs[j]?) :
    ∃ y : H32, ∀ (j : Nat) (u : Value), y.cells.toList[j]? = some u → W.cell? (a.add j) = some u := by
  obtain ⟨xs, m, _, _, hlen, hxl, hel⟩ := DataW.trod_array Tryz.underlying25 h
  have each : ∀ j, j < 32 → ∃ z : Int, cs[j]? = some (.int .u8 z) ∧ 0 ≤ z ∧ z < 256 := by
    intro j hj
    have h1 := hel j hj
    rw [cB, Nat.mul_one, List.getElem?_eq_getElem (by omega)] at h1
    obtain ⟨z, e, _, hw⟩ := DataW.trod_int Tryz.underlying5 h1
    have e1 : IntKind.u8.min = 0 := by decide +kernel
    have e2 : IntKind.u8.max = 255 := by decide +kernel
    simp only [Lit.wf, Bool.and_eq_true, decide_eq_true_eq, e1, e2] at hw
    refine ⟨z, ?_, by omega, by omega⟩
    have h2 : ((cs.drop j).take 1)[0]? = some (.int .u8 z) := by rw [e]; rfl
    simpa [List.getElem?_take, List.getElem?_drop] using h2
  obtain ⟨q, hq⟩ := Go.Deep.choose_lt each
  refine ⟨⟨(List.range 32).map fun j => (q j).toNat, by simp, fun x hx => ?_⟩, fun j u hu => ?_⟩
  · obtain ⟨j, hj, rfl⟩ := List.mem_map.1 hx
    have := (hq j (List.mem_range.1 hj)).2
    omega
  · have hj : j < 32 := by
      have := (List.getElem?_eq_some_iff.1 hu).1
      simpa [H32.cells] using this
    obtain ⟨h1, h2, h3⟩ := hq j hj
    rw [hc j hj, h1]
    simp only [H32.cells, List.getElem?_map, List.getElem?_range hj, Option.map_some] at hu
    rw [← hu, Int.toNat_of_nonneg h2]
theorem readH (h : DataW.trod enc Tryz.prog W 0 spare held n 23 [v] = some (d, p)) : ∃ a ys c, v = .slice a (ys : List H32).length c ∧ ys.length ≤ c ∧ Holds W a ys := by
  rcases Go.Deep.open_slice Tryz.underlying23 h with ⟨e0, _⟩ | ⟨a, len, cap, m, n', D, Pl, e0, hb, hl, hm, hmm, _, hx⟩
  · cases e0
    exact ⟨none, [], 0, rfl, Nat.le_refl _, fun k z hz => by simp at hz⟩
  · cases e0
    have hlm : len ≤ m := by rw [hmm]; split <;> omega
    have each : ∀ i, i < len → ∃ y : H32, ∀ (j : Nat) (u : Value), y.cells.toList[j]? = some u → W.cell? (a.add (i * 32 + j)) = some u := by
      intro i hi
      obtain ⟨cs', h1, h2⟩ := hx i (by omega)
      rw [cH] at h1
      obtain ⟨_, hlen, hcell⟩ := World.cells?_some h1
      obtain ⟨y, hy⟩ := hash_of h2 hcell
      exact ⟨y, fun j u hu => by rw [← Go.Deep.add_add]; exact hy j u hu⟩
    obtain ⟨q, hq⟩ := Go.Deep.choose_lt each
    refine ⟨some a, (List.range len).map q, cap, by simp, by simpa using hl, fun k y hy => ?_⟩
    have hk : k < len := by
      have := (List.getElem?_eq_some_iff.1 hy).1
      simpa using this
    have hyq : q k = y := by simpa [List.getElem?_range hk] using hy
    have h0 := hq k hk
    rw [hyq] at h0
    have h1 := hq 0 (by omega) 0 _ (List.getElem?_eq_getElem (by rw [H32.len]; omega))
    obtain ⟨b, o, rfl, hbl⟩ := addr_plain h1
    exact ⟨b, o, rfl, hbl, fun j u hu => by have h2 := h0 j u hu; rw [add_plain] at h2; rw [Nat.add_assoc]; exact h2⟩
end Go.Proofs.YtnenknghinpliaaGreatDoor
end
section
namespace Go.Proofs.YtnenknghinpliaaGreatDoor
open Go.AS Go.RowKit
namespace Known27
noncomputable section
theorem runs : firstR (S Xl180 100 7 [] 1 .nil []) = some (.lit (.bool true)) := by kernel_rfl
theorem known_ok {W w1 : World} (hb : Below W.heap.size W w1) (hg : ∀ g x, Xl180.gl g = some x → GV ⟨fun _ => none, fun b => W.heap[b]?⟩ x g) : Calls Tryz.prog 7 #[] w1 fun e w' => e = .returned (.bool true) ∧ Below w1.heap.size w1 w' := by
  have hr := runs
  unfold firstR at hr
  split at hr
  · rename_i x c' σ' ws' hs; cases hr
    obtain ⟨code, hcode⟩ : ∃ code, Tryz.f7.body = some code := Option.isSome_iff_exists.1 (show Tryz.f7.body.isSome = true by kernel_rfl)
    refine (S_calls sXl180 Tryz.func7 hcode (by kernel_rfl) hs (m := fun b => W.heap[b]?) (w := w1) (fun b o h => (hb.block b (Array.getElem?_eq_some_iff.1 h).1).trans h) hg (vals := []) .vnil).mono ?_
    rintro e W' ⟨v, E', rfl, hv, _, h1, h2, h3, h4, h5⟩
    have hv' := hv.lit_inv
    subst hv'
    exact ⟨rfl, h1, h2, h3, h4, h5⟩
  · cases hr
end
end Known27
end Go.Proofs.YtnenknghinpliaaGreatDoor
end
