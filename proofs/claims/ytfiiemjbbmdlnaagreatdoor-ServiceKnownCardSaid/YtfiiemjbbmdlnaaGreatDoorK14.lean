/- graph.Hashes, walked: maps.Keys, slices.Collect, hex.Sort (Clone, SortFunc at twelve or fewer, Compact) at any hashes. No condition but the number of keys. -/
import Derived.Maps.RangeRun
import Derived.OwnWalkIn
import Derived.Laws.Rows
import Derived.Great.BuildSlice
import Derived.Sort.MapsRangeIn
import Derived.Test.YtfiiemjbbmdlnaaGreatDoorProg
import Derived.WalkKit
import Derived.BigCall
import Derived.RangeFuncGives
import Derived.LoopIn
import Derived.Below
import Derived.Maps.AppendAt
import Derived.Shelf.Abstract
import Derived.Shelf.Strings.Builder1
import Derived.Test.YtfiiemjbbmdlnaaGreatDoorASext2
import Derived.Deep.RegionWith
import Derived.Shelf.SlSortCmp.SmallK
import Derived.Shelf.SlGeneric
import Derived.Shelf.Small.Bits
import Derived.Lib.Bytealg
import Derived.Lay
import Derived.DeepKeys
import Derived.Laws.AppendOwn
import Derived.Laws.Cover3
import Derived.Test.YtfiiemjbbmdlnaaGreatDoorASha
section
namespace Go.KW
open Go.ChangeMaps (setBlock)
/-- A world, or it with one more draw. -/
def Drew (w w1 : World) : Prop := w1 = w ∨ w1 = w.drew
section
variable {F : Fence} {n : Nat} {P : Program} {w : World} {ops : Array Oper} {rest : List Oper} {o : Oper} {a : Act} {Q : Exit → Act → World → Prop}
theorem inRange (hg : o.guard = none) (m : Operand) (t : TypeId) (hop : o.op = Op.range t m) (k e : TypeId) (ht : P.underlying t = some (.map k e)) (bm : Nat) (es : Array MapEntry) (clock : Nat) (hm : a.eval m = .map (some bm))
    (hb : w.heap[bm]? = some (.map es clock)) (hK : wpListIn F n P ops Q rest (a.put o.dst (.pointer (some ⟨w.heap.size, 0, none⟩))) (w.alloc (.mapIter (some bm) clock #[] clock))) : wpListIn F n P ops Q (o :: rest) a w := by
  refine wpListIn_plain hg fun K' hK' => ?_
  have hrun := run_range_map w t k e bm es clock ht hb
  unfold Oper.wpIn
  refine ⟨by simp [Oper.about, hop], ?_⟩
  rw [Oper.semAt_plain F _ _ (by rw [hop]; intro c hc'; cases hc')]
  simp [execOp, hop, hm, hrun, Result.andThen]
  exact hK' _ _ hK
theorem inNext (hg : o.guard = none) (it : Operand) (hop : o.op = Op.next it false) (r bm since c0 : Nat) (seen : Array Nat) (es : Array MapEntry) (clock : Nat) (hit : a.eval it = .pointer (some ⟨r, 0, none⟩))
    (hr : w.heap[r]? = some (.mapIter (some bm) since seen c0)) (hb : w.heap[bm]? = some (.map es clock)) (hold : ∀ x ∈ es.toList, x.born < since) (hsc : since ≤ c0)
    (hDone : (leftOf es seen).size = 0 → wpListIn F n P ops Q rest (a.put o.dst (.tuple #[.bool false])) w)
    (hMore : ∀ e ∈ (leftOf es seen).toList, ∀ w1 : World, Drew w w1 → wpListIn F n P ops Q rest (a.put o.dst (.tuple #[.bool true, e.key, e.val])) (setBlock w1 r (.mapIter (some bm) since (seen.push e.born) clock))) :
    wpListIn F n P ops Q (o :: rest) a w := by
  refine wpListIn_plain hg fun K' hK' => ?_
  unfold Oper.wpIn
  refine ⟨by simp [Oper.about, hop], ?_⟩
  rw [Oper.semAt_plain F _ _ (by rw [hop]; intro c hc'; cases hc')]
  rcases run_next_at (P := P) w o.type r bm since c0 seen es clock hr hb hold hsc with ⟨h0, hrun⟩ | ⟨e, he, w1, hw1, hrun⟩
  · simp [execOp, hop, hit, hrun, Result.andThen]
    exact hK' _ _ (hDone h0)
  · simp [execOp, hop, hit, hrun, Result.andThen]
    exact hK' _ _ (hMore e he w1 hw1)
theorem inEntry (hg : o.guard = none) (it : Operand) (hop : o.op = Op.entry it) (u : Value) (hit : (Instr.entry (a.eval it)).run P w = .ok u w) (hK : wpListIn F n P ops Q rest (a.put o.dst u) w) : wpListIn F n P ops Q (o :: rest) a w := by
  refine wpListIn_plain hg fun K' hK' => ?_
  unfold Oper.wpIn
  refine ⟨by simp [Oper.about, hop], ?_⟩
  rw [Oper.semAt_plain F _ _ (by rw [hop]; intro c hc'; cases hc')]
  simp [execOp, hop, hit, Result.andThen]
  exact hK' _ _ hK
theorem inLoad (hg : o.guard = none) (ty : TypeId) (x : Operand) (hop : o.op = .load ty x) (u : Value) (hx : (Instr.loadAt ty (a.eval x)).run P w = .ok u w) (hK : wpListIn F n P ops Q rest (a.put o.dst u) w) : wpListIn F n P ops Q (o :: rest) a w := by
  refine wpListIn_plain hg fun K' hK' => ?_
  unfold Oper.wpIn
  refine ⟨by simp [Oper.about, hop], ?_⟩
  rw [Oper.semAt_plain F _ _ (by rw [hop]; intro c hc'; cases hc')]
  simp only [execOp, hop, Sem.run_bind, hx, Result.andThen_ok, Sem.run_pure]
  exact hK' _ _ hK
theorem inStore (hg : o.guard = none) (ty : TypeId) (x y : Operand) (hop : o.op = .store ty x y) (w' : World) (hx : (Instr.storeAt ty (a.eval x) (a.eval y)).run P w = .ok () w') (hK : wpListIn F n P ops Q rest (a.put o.dst undef) w') : wpListIn F n P ops Q (o :: rest) a w := by
  refine wpListIn_plain hg fun K' hK' => ?_
  unfold Oper.wpIn
  refine ⟨by simp [Oper.about, hop], ?_⟩
  rw [Oper.semAt_plain F _ _ (by rw [hop]; intro c hc'; cases hc')]
  simp only [execOp, hop, Sem.run_bind, hx, Result.andThen_ok, Sem.run_pure]
  exact hK' _ _ hK
theorem inBuild (hg : o.guard = none) (t : TypeId) (len : Nat) (parts : Array (Nat × Operand)) (hop : o.op = .buildSlice t len parts) (vals : List (Nat × Value)) (hv : parts.toList.map (fun p => (p.1, a.eval p.2)) = vals) (u : Value) (w' : World)
    (hr : (Instr.buildSlice t len vals.toArray).run P w = .ok u w') (hK : wpListIn F n P ops Q rest (a.put o.dst u) w') : wpListIn F n P ops Q (o :: rest) a w := by
  have e : (parts.map fun (i, x) => (i, a.eval x)) = vals.toArray := by
    apply Array.ext'
    rw [← hv]
    simp
  refine wpListIn_plain hg fun K' hK' => ?_
  unfold Oper.wpIn
  refine ⟨by simp [Oper.about, hop], ?_⟩
  rw [Oper.semAt_plain F _ _ (by rw [hop]; intro c hc'; cases hc')]
  simp only [execOp, hop, Sem.run_bind, e, hr, Result.andThen_ok, Sem.run_pure]
  exact hK' _ _ hK
end
theorem fold_set : ∀ (cs : List Value) (base : Array Value) (k : Nat), k + cs.length ≤ base.size →
    ((cs.zipIdx k).foldl (fun (a : Array Value) (p : Value × Nat) => a.setIfInBounds (0 + p.2) p.1) base).toList = base.toList.take k ++ (cs ++ base.toList.drop (k + cs.length))
  | [], base, k, _ => by simp
  | c :: r, base, k, h => by
    simp only [List.length_cons] at h
    rw [List.zipIdx_cons, List.foldl_cons, fold_set r _ (k + 1) (by simp; omega)]
    simp only [Nat.zero_add, Array.toList_setIfInBounds]
    have hk : k < base.toList.length := by simp; omega
    rw [List.take_set, List.drop_set_of_lt (by omega), List.take_succ_eq_append_getElem hk, List.set_append_right _ _ (by simp; omega)]
    simp only [List.length_take, List.length_cons]
    rw [show k - min k base.toList.length = 0 by omega]
    simp only [List.set_cons_zero, List.append_assoc, List.cons_append, List.nil_append]
    rw [show k + 1 + r.length = k + (r.length + 1) by omega]
end Go.KW
end
section
namespace Go.Proofs.YtfiiemjbbmdlnaaGreatDoor
open Go.RowKit Go.Maps Go.KW
open Go.ChangeMaps (setBlock)
/-- An array of 32 cells. -/
def K32 : Type := { ks : Array Value // ks.size = 32 ∧ ks.all (·.oneCell') = true }
def K32.enc (x : K32) : Value := .agg x.1
theorem info44 : (Tryz.prog.info? 44).map (·.size) = some 32 := by kernel_rfl
theorem load44 (w : World) (g : Nat) (x : K32) (t : TypeId) (fz : Nat × Nat) (hg : w.heap[g]? = some (.cells x.1 t fz)) : (Instr.loadAt 44 (.pointer (some ⟨g, 0, none⟩))).run Tryz.prog w = .ok x.enc w := by
  simp only [Instr.loadAt, Instr.sureAddr, Sem.run_bind, Sem.run_pure, Result.andThen_ok]
  exact run_loadVar_row w g t 44 x.1 fz _ hg Tryz.underlying44 rfl (by rw [x.2.1]; exact info44)
theorem store44 (w : World) (g : Nat) (x : K32) (old : Array Value) (t : TypeId) (hg : w.heap[g]? = some (.cells old t (0, 0))) (ho : old.size = 32) : (Instr.storeAt 44 (.pointer (some ⟨g, 0, none⟩)) x.enc).run Tryz.prog w = .ok () (w.setRow g x.1) := by
  simp only [Instr.storeAt, Instr.sureAddr, Sem.run_bind, Sem.run_pure, Result.andThen_ok]
  exact run_storeVar_row w g t 44 old x.1 hg (by rw [x.2.1]; exact info44) (by rw [ho, x.2.1]) x.2.2
theorem grown_box (w : World) (A : Obj) (cs : Array Value) : w.grownBy ((w.alloc A).setRow w.heap.size cs) none :=
  ⟨rfl, rfl, rfl, by simp, fun k hk _ => (setRow_other _ _ _ _ (by omega)).trans (Below.heap_alloc w A k hk)⟩
theorem setBlock_same {w : World} {r : Nat} (o : Obj) (h : r < w.heap.size) : (setBlock w r o).heap[r]? = some o := by
  simp [setBlock, h]
theorem setBlock_other {w : World} {r k : Nat} (o : Obj) (h : k ≠ r) : (setBlock w r o).heap[k]? = w.heap[k]? := by
  simp [setBlock, Ne.symm h]
theorem grown_setBlock (w : World) (r : Nat) (o : Obj) : w.grownBy (setBlock w r o) (some r) :=
  ⟨rfl, rfl, rfl, by simp [setBlock], fun k _ hk => setBlock_other o (fun e => hk (by rw [e]))⟩
theorem grown_drew (w w1 : World) (h : Drew w w1) (row : Option Nat) : w.grownBy w1 row := by
  rcases h with rfl | rfl
  · exact ⟨rfl, rfl, rfl, Nat.le_refl _, fun _ _ _ => rfl⟩
  · exact ⟨rfl, rfl, rfl, Nat.le_refl _, fun _ _ _ => rfl⟩
/-- Between two rounds of the iterator's loop. -/
structure KAt (es : Array MapEntry) (clock b r : Nat) (J : List K32 → World → Prop) (vs : List MapEntry) (ss : List K32) (w : World) : Prop where
  it : ∃ c0, w.heap[r]? = some (.mapIter (some b) clock (vs.map (·.born)).toArray c0) ∧ clock ≤ c0
  mp : w.heap[b]? = some (.map es clock)
  sub : ∀ e ∈ vs, e ∈ es.toList
  nd : (vs.map (·.born)).Nodup
  keys : vs.map (·.key) = ss.map K32.enc
  J : J ss w
theorem nodup_le : ∀ {l m : List Nat}, l.Nodup → (∀ a ∈ l, a ∈ m) → l.length ≤ m.length
  | [], _, _, _ => Nat.zero_le _
  | a :: r, m, hn, hs => by
    have ha := hs a (List.mem_cons_self ..)
    have hr : ∀ c ∈ r, c ∈ m.erase a := fun c hc => (List.mem_erase_of_ne (fun e => by rw [e] at hc; exact (List.nodup_cons.1 hn).1 hc)).2 (hs c (List.mem_cons_of_mem _ hc))
    have := nodup_le (List.nodup_cons.1 hn).2 hr
    rw [List.length_erase_of_mem ha] at this
    have hm : 0 < m.length := List.length_pos_of_mem ha
    simp only [List.length_cons]
    omega
theorem perm_all {es : Array MapEntry} {vs : List MapEntry} (hnd : (es.toList.map (·.born)).Nodup) (hv : (vs.map (·.born)).Nodup) (hs : ∀ e ∈ vs, e ∈ es.toList) (hz : (leftOf es (vs.map (·.born)).toArray).size = 0) : vs.Perm es.toList := by
  have nod : ∀ {l : List MapEntry}, (l.map (·.born)).Nodup → l.Nodup := fun h => List.Pairwise.of_map (·.born) (fun a b hab e => hab (by rw [e])) h
  refine (List.perm_ext_iff_of_nodup (nod hv) (nod hnd)).2 fun x => ⟨hs x, fun hx => ?_⟩
  have := all_seen es _ hz x hx
  simp at this
  obtain ⟨y, hy, hyb⟩ := this
  rw [← born_inj hnd (hs y hy) hx hyb]
  exact hy
set_option maxRecDepth 100000 in
set_option maxHeartbeats 2000000 in
theorem keys233 (F : Fence) (n : Nat) (h10 : F.fn 233) (hro : F.round = none) (hn : 1 ≤ n) (l Bm b clock : Nat) (es : Array MapEntry) (J : List K32 → World → Prop)
    (hk32 : ∀ e ∈ es.toList, ∃ x : K32, e.key = x.enc) (hold : ∀ x ∈ es.toList, x.born < clock) (hnd : (es.toList.map (·.born)).Nodup)
    (hY : ∀ pre x W, J pre W → pre.length < es.size → YieldAt F (n - 1) Tryz.prog l #[K32.enc x] W fun e W' => e = .returned (.bool true) ∧ J (pre ++ [x]) W' ∧ KeepsWalks W W')
    (W : World) (hJ : AbidesFrom W.heap.size J) (hm : W.cell? ⟨Bm, 0, none⟩ = some (.map (some b))) (hb : W.heap[b]? = some (.map es clock)) (h0 : J [] W) :
    CallsIn F n Tryz.prog 233 #[.func (.yield l) #[] #[], .pointer (some ⟨Bm, 0, none⟩)] W fun e W' => (∃ v, e = .returned v) ∧ ∃ ss : List K32, (ss.map K32.enc).Perm (es.toList.map (·.key)) ∧ J ss W' := by
  refine callsIn_of_wp Tryz.func233 rfl h10 ?_ hro
  simp only [Tryz.ntmps233, List.size_toArray, List.length_cons, List.length_nil, Nat.reduceAdd, Nat.reduceSub, Array.replicate_succ, Array.replicate_zero, List.push_toArray, List.append_toArray, List.nil_append, List.cons_append]
  gi_wp2_with (first
    | (gi_at_range; refine inRange rfl _ 178 rfl _ _ Tryz.underlying178 b es clock rfl hb ?_)
    | gi_in)
  go_frame
  gi_loopw [3] (fun _ wr => ∃ vs ss, KAt es clock b W.heap.size J vs ss wr) (fun _ wr => (leftOf es (wr.iterSeen W.heap.size)).size)
  case atStart =>
    have hbl : b < W.heap.size := (Array.getElem?_eq_some_iff.1 hb).1
    exact ⟨[], [], ⟨⟨clock, heap_alloc_new W _, Nat.le_refl _⟩, (Below.heap_alloc W _ b hbl).trans hb, fun e he => (by cases he), List.nodup_nil, rfl, hJ [] W _ none h0 (World.grownBy_alloc W _ none) (fun r e => by cases e)⟩⟩
  case round =>
    obtain ⟨vs, ss, hA⟩ := hrel
    obtain ⟨c0, hit, hsc⟩ := hA.it
    have hlen : vs.length = ss.length := by have := congrArg List.length hA.keys; simpa using this
    gi_wp2_with (first
      | (gi_at_next; refine inNext rfl _ rfl W.heap.size b clock c0 _ es clock rfl hit hA.mp hold hsc ?_ ?_)
      | gi_in)
    · intro hz
      gi_wp2
      go_end0
      refine ⟨⟨_, rfl⟩, ss, ?_, hA.J⟩
      rw [← hA.keys]
      exact List.Perm.map _ (perm_all hnd hA.nd hA.sub (by rw [hz]; rfl))
    · intro e he w1 hw1
      obtain ⟨hes, hns⟩ := mem_left (by simpa using he)
      obtain ⟨x, hx⟩ := hk32 e hes
      have hnb : e.born ∉ vs.map (·.born) := fun h => by
        have : (vs.map (·.born)).toArray.contains e.born = true := by simpa using h
        rw [hns] at this; cases this
      have hnd2 : (vs.map (·.born) ++ [e.born]).Nodup := List.nodup_append.2 ⟨hA.nd, by simp, fun a ha b hb => by simp at hb; subst hb; exact fun e' => hnb (e' ▸ ha)⟩
      have hlt : ss.length < es.size := by
        have := nodup_le hnd2 (m := es.toList.map (·.born)) fun a ha => by
          rcases List.mem_append.1 ha with ha | ha
          · obtain ⟨y, hy, rfl⟩ := List.mem_map.1 ha
            exact List.mem_map.2 ⟨y, hA.sub y hy, rfl⟩
          · simp at ha; subst ha; exact List.mem_map.2 ⟨e, hes, rfl⟩
        simp at this
        omega
      have hrl : W.heap.size < wr.heap.size := (Array.getElem?_eq_some_iff.1 hit).1
      have hrb : b ≠ W.heap.size := fun h => by have := hA.mp; rw [h, hit] at this; cases this
      have h1r : w1.heap = wr.heap := by rcases hw1 with rfl | rfl <;> rfl
      generalize hw2 : setBlock w1 W.heap.size (.mapIter (some b) clock (vs.map (·.born) ++ [e.born]).toArray clock) = w2
      have hit2 : w2.heap[W.heap.size]? = some (.mapIter (some b) clock (vs.map (·.born) ++ [e.born]).toArray clock) := by rw [← hw2]; exact setBlock_same _ (by rw [h1r]; exact hrl)
      have hmp2 : w2.heap[b]? = some (.map es clock) := by rw [← hw2]; exact (setBlock_other _ hrb).trans (by rw [h1r]; exact hA.mp)
      have hg1 := grown_drew wr w1 hw1 none
      have hg2 : w1.grownBy w2 (some W.heap.size) := by rw [← hw2]; exact grown_setBlock _ _ _
      have hJ1 : J ss w1 := hJ ss wr w1 none hA.J hg1 (fun r e => by cases e)
      have hJ2 : J ss w2 := hJ ss w1 w2 _ hJ1 hg2 (fun r e => by cases e; exact ⟨Nat.le_refl _, _, by rw [h1r]; exact hit, rfl⟩)
      have hen : (Instr.entry (.pointer (some ⟨W.heap.size, 0, none⟩))).run Tryz.prog w2 = .ok (.tuple #[e.key, e.val]) w2 := run_entry_at w2 W.heap.size b clock (vs.map (·.born)).toArray es clock e (by rw [List.push_toArray]; exact hit2) hmp2 hes hnd
      rw [hx] at hen ⊢
      gi_wp2_with (first
        | (refine inEntry rfl _ rfl _ hen ?_)
        | (refine inStore rfl 44 _ _ rfl _ (store44 _ _ x _ 44 (heap_alloc_new w2 _) rfl) ?_
           generalize hw3 : World.setRow (World.alloc w2 _) w2.heap.size x.1 = w3
           have hrow3 : w3.heap[w2.heap.size]? = some (.cells x.1 44 (0, 0)) := by rw [← hw3]; exact setRow_heap _ _ _ _ _ _ (heap_alloc_new w2 _)
           have hg3 : w2.grownBy w3 none := by rw [← hw3]; exact grown_box _ _ _
           clear hw3
           have hJ3 : J ss w3 := hJ ss w2 w3 none hJ2 hg3 (fun r e => by cases e)
           obtain ⟨fn, tmps, assign, body, hy, hR⟩ := hY ss x w3 hJ3 hlt)
        | (refine inLoad rfl 44 _ rfl x.enc (load44 _ _ x 44 (0, 0) hrow3) ?_)
        | gi_in)
      refine hR.mono ?_
      rintro e' W3 ⟨rfl, hJ4, hk4⟩
      gi_wp2
      have hit3 : w3.heap[W.heap.size]? = some (.mapIter (some b) clock (vs.map (·.born) ++ [e.born]).toArray clock) := (hg3.block _ (Array.getElem?_eq_some_iff.1 hit2).1 (by simp)).trans hit2
      have hmp3 : w3.heap[b]? = some (.map es clock) := (hg3.block _ (Array.getElem?_eq_some_iff.1 hmp2).1 (by simp)).trans hmp2
      have hit4 := hk4.same _ _ hit3 rfl
      have hmp4 := hk4.same _ _ hmp3 rfl
      go_roundw
      case rel =>
        refine ⟨vs ++ [e], ss ++ [x], ⟨⟨clock, by rw [List.map_append]; exact hit4, Nat.le_refl _⟩, hmp4, fun y hy => ?_, by rw [List.map_append]; exact hnd2, ?_, hJ4⟩⟩
        · rcases List.mem_append.1 hy with hy | hy
          · exact hA.sub y hy
          · simp at hy; subst hy; exact hes
        · rw [List.map_append, List.map_append, hA.keys]; simp [hx]
      case measure =>
        have e1 : W3.iterSeen W.heap.size = (vs.map (·.born) ++ [e.born]).toArray := by simp [World.iterSeen, hit4]
        have e2 : wr.iterSeen W.heap.size = (vs.map (·.born)).toArray := by simp [World.iterSeen, hit]
        rw [e1, e2]
        have := left_shrinks es (vs.map (·.born)).toArray e (by simpa using he)
        rwa [List.push_toArray] at this
end Go.Proofs.YtfiiemjbbmdlnaaGreatDoor
end
section
namespace Go.Proofs.YtfiiemjbbmdlnaaGreatDoor
open Go.RowKit Go.Maps Go.KW
theorem info44z : (Tryz.prog.info? 44).map (fun i => (i.zero, i.size, i.bytes)) = some (some (.agg (List.replicate 32 (Value.int .u8 0)).toArray), 32, 32) := by kernel_rfl
set_option maxRecDepth 100000 in
theorem build44 (w : World) (x : K32) : (Instr.buildSlice 34 1 #[(0, x.enc)]).run Tryz.prog w = .ok (.slice (some ⟨w.heap.size, 0, none⟩) 1 1) (w.alloc (.cells x.1 44)) := by
  obtain ⟨i0, hi, hz0, hz1, hz2⟩ := info_parts info44z
  refine run_buildSlice w 34 44 1 _ x.1 i0 _ Tryz.underlying34 hi hz0 (by rw [hz1]; decide) (by rw [hz1]; decide) ?_
  have hs : x.enc.cells.size = 32 := x.2.1
  simp only [Instr.fill, hz1]
  rw [if_neg (by
    simp only [hs]
    simp)]
  congr 1
  apply Array.ext'
  rw [← Array.foldl_toList, Array.toList_zipIdx]
  have h0 := fold_set x.1.toList ((Array.range (1 * 32)).map fun k => (Value.agg (List.replicate 32 (Value.int .u8 0)).toArray).cells[k % (Value.agg (List.replicate 32 (Value.int .u8 0)).toArray).cells.size]!) 0 (by simp [x.2.1])
  have e1 : x.enc.cells = x.1 := rfl
  rw [e1]
  refine h0.trans ?_
  simp [x.2.1]
def apAssign : Code := (Code.region 2 #[{ dst := some 5, op := Op.alloc 44, type := 0, pos := "iter.go:51", after := #[], guard := none }, { dst := none, op := Op.store 44 (Operand.tmp 5) (Operand.tmp 7), type := 0, pos := "iter.go:51", after := #[{ on := 0, ground := Ground.data }, { on := 0, ground := Ground.phase }], guard := none }] false)
def apBody : Code := (Code.block 1 (Code.region 3 #[{ dst := some 8, op := Op.load 34 (Operand.tmp 2), type := 34, pos := "iter.go:52", after := #[], guard := none }, { dst := some 9, op := Op.load 44 (Operand.tmp 5), type := 44, pos := "iter.go:52", after := #[], guard := none }, { dst := some 10, op := Op.buildSlice 34 1 #[(0, Operand.tmp 9)], type := 34, pos := "iter.go:52", after := #[{ on := 1, ground := Ground.data }], guard := none }, { dst := some 11, op := Op.call { callee := Callee.builtin Builtin.append, args := #[Operand.tmp 8, Operand.tmp 10], argTypes := #[34, 34] }, type := 34, pos := "iter.go:52", after := #[{ on := 0, ground := Ground.data }, { on := 2, ground := Ground.data }], guard := none }, { dst := none, op := Op.store 34 (Operand.tmp 2) (Operand.tmp 11), type := 0, pos := "iter.go:52", after := #[{ on := 3, ground := Ground.data }, { on := 3, ground := Ground.chain }, { on := 0, ground := Ground.phase }, { on := 1, ground := Ground.phase }, { on := 2, ground := Ground.phase }, { on := 3, ground := Ground.phase }], guard := none }] false))
def apRec (fn : FuncId) (sv : Value) (Bs D : Nat) (st : LoopState) (pend : Option Code) : Loop :=
  { state := st, pending := pend, fn, tmps := #[.slice none 0 0, sv, .pointer (some ⟨Bs, 0, none⟩), undef, .slice none 0 0, undef, sv, undef, undef, undef, undef, undef, undef], params := #[7], assign := apAssign, body := apBody, defers := D }
/-- The cells of arrays one behind the other. -/
def flat (ss : List K32) : List Value := ss.flatMap fun x => x.1.toList
theorem flat_length : ∀ ss : List K32, (flat ss).length = ss.length * 32
  | [] => rfl
  | x :: r => by simp only [flat, List.flatMap_cons, List.length_append, Array.length_toList, x.2.1, List.length_cons]; have := flat_length r; simp only [flat] at this; rw [this]; omega
theorem flat_snoc (ss : List K32) (x : K32) : flat (ss ++ [x]) = flat ss ++ x.1.toList := by simp [flat]
structure ApAt (w0 : World) (fn : FuncId) (sv : Value) (Bs l D : Nat) (ss : List K32) (W : World) : Prop where
  box : ∃ v, W.heap[Bs]? = some (.cells #[v] 34 (0, 0)) ∧ W.ownsRow w0.heap.size 44 32 v ss.length (flat ss) ∧ (v = .slice none 0 0 ↔ ss = [])
  L : W.heap[l]? = some (.loop (apRec fn sv Bs D .ready none))
  K : W.heap[D]? = some (.deferred (some []))
  below : Below w0.heap.size w0 W
theorem ownsRow_abides {W W' : World} {row : Option Nat} {base : Nat} {e : TypeId} {size : Nat} {v : Value} {k : Nat} {xs : List Value} (h : W.ownsRow base e size v k xs) (hg : W.grownBy W' row)
    (hrow : ∀ r, row = some r → ∃ o : Obj, W.heap[r]? = some o ∧ o.isWalk = true) : W'.ownsRow base e size v k xs := by
  refine h.kept hg ?_
  rcases h.2 with ⟨rfl, _⟩ | ⟨g, cap, cur, rfl, _, hgb, _⟩
  · exact .inl rfl
  · refine .inr fun e' => ?_
    obtain ⟨o, ho, hw⟩ := hrow g (by simpa [Value.ownBlock] using e'.symm)
    rw [hgb] at ho; cases ho; cases hw
theorem ap_abides (w0 : World) (fn : FuncId) (sv : Value) (Bs l D B : Nat) (hB : w0.heap.size ≤ B) : AbidesFrom B (ApAt w0 fn sv Bs l D) := fun s W W' row h hg hrow => by
  have hrow' : ∀ r, row = some r → ∃ o : Obj, W.heap[r]? = some o ∧ o.isWalk = true := fun r e => (hrow r e).2
  obtain ⟨v, hv, hr, hn⟩ := h.box
  exact ⟨⟨v, (grownBy_keeps hg hrow' hv rfl).trans hv, ownsRow_abides hr hg hrow', hn⟩, (grownBy_keeps hg hrow' h.L rfl).trans h.L, (grownBy_keeps hg hrow' h.K rfl).trans h.K,
    h.below.grown hg h.below.size (fun k e => Nat.le_trans hB (hrow k e).1)⟩
theorem grownBy_putObj (W : World) (l : Nat) (o : Obj) : W.grownBy (W.putObj l o) (some l) :=
  ⟨rfl, rfl, rfl, by simp, fun k _ hk => World.putObj_heap_other (fun e => hk (by rw [e]))⟩
theorem grownBy_setCell0 (W : World) (b : Nat) (v : Value) : W.grownBy (W.setCell ⟨b, 0, none⟩ v) (some b) :=
  ⟨rfl, rfl, rfl, (KeepsWalks.setCell W _ v).size, fun k _ hk => Below.heap_setCell _ _ _ k (fun e => hk (by rw [e]))⟩
theorem ownsRow_ne {W : World} {base : Nat} {e : TypeId} {size : Nat} {v : Value} {k : Nat} {xs : List Value} (h : W.ownsRow base e size v k xs) {j : Nat} {o : Obj} (hj : W.heap[j]? = some o) (hno : ∀ cur, o ≠ .cells cur e (0, 0)) :
    v.ownBlock = none ∨ v.ownBlock ≠ some j := by
  rcases h.2 with ⟨rfl, _⟩ | ⟨g, cap, cur, rfl, _, hgb, _⟩
  · exact .inl rfl
  · refine .inr fun e' => ?_
    have : g = j := by simpa [Value.ownBlock] using e'
    subst this; rw [hgb] at hj; cases hj; exact hno cur rfl
theorem cell_of_box {W : World} {B : Nat} {v : Value} {t : TypeId} (h : W.heap[B]? = some (.cells #[v] t (0, 0))) : W.cell? ⟨B, 0, none⟩ = some v ∧ W.frozen? ⟨B, 0, none⟩ = false := by
  constructor <;> simp [World.cell?, World.frozen?, h]
theorem heap_setCell_box {W : World} {B : Nat} {v : Value} {t : TypeId} (v' : Value) (h : W.heap[B]? = some (.cells #[v] t (0, 0))) : (W.setCell ⟨B, 0, none⟩ v').heap[B]? = some (.cells #[v'] t (0, 0)) := by
  obtain ⟨hlt, hk⟩ := Array.getElem?_eq_some_iff.1 h
  show (W.heap.modify B _)[B]? = _
  rw [Array.getElem?_eq_getElem (by rw [Array.size_modify]; exact hlt), Array.getElem_modify_self, hk]
  rfl
theorem ownsRow_not_walk {W : World} {base : Nat} {e : TypeId} {size : Nat} {v : Value} {k : Nat} {xs : List Value} (h : W.ownsRow base e size v k xs) : ∀ (j : Nat) (o : Obj), v.ownBlock = some j → W.heap[j]? = some o → o.isWalk = false := by
  intro j o hj ho
  rcases h.2 with ⟨rfl, _⟩ | ⟨g, cap, cur, rfl, _, hgb, _⟩
  · simp [Value.ownBlock] at hj
  · have : g = j := by simpa [Value.ownBlock] using hj
    subst this; rw [hgb] at ho; cases ho; rfl
theorem row_cells {w : World} {g : Nat} (x : K32) {t : TypeId} (hg : w.heap[g]? = some (.cells x.1 t (0, 0))) : ∀ (j : Nat) (u : Value), x.1.toList[j]? = some u → w.cell? ((⟨g, 0, none⟩ : Addr).add j) = some u := fun j u hu => by
  have e : (⟨g, 0, none⟩ : Addr).add j = ⟨g, j, none⟩ := by
    unfold Addr.add
    split
    · rename_i h; subst h; rfl
    · simp
  rw [e, Lib.cell_of_heap hg]
  simpa using hu
set_option maxRecDepth 100000 in
set_option maxHeartbeats 4000000 in
theorem apYield (F : Fence) (m : Nat) (w0 : World) (fn : FuncId) (hfn : F.fn fn) (sv : Value) (Bs l D : Nat) (hBl : Bs ≠ l) (hDl : D ≠ l) (hDB : D ≠ Bs) (h0B : w0.heap.size ≤ Bs) (h0l : w0.heap.size ≤ l)
    (N : Nat) (hN : N ≤ maxLen) (hNb : N * 32 ≤ 140737488355328) (ss : List K32) (x : K32) (W : World) (h : ApAt w0 fn sv Bs l D ss W) (hlen : ss.length < N) :
    YieldAt F m Tryz.prog l #[x.enc] W fun e W' => e = .returned (.bool true) ∧ ApAt w0 fn sv Bs l D (ss ++ [x]) W' ∧ KeepsWalks W W' := by
  obtain ⟨i0, hi, hz0, hz1, hz2⟩ := info_parts info44z
  obtain ⟨v, hv, hrow, _⟩ := h.box
  refine ⟨fn, #[.slice none 0 0, sv, .pointer (some ⟨Bs, 0, none⟩), undef, .slice none 0 0, undef, sv, x.enc, undef, undef, undef, undef, undef], apAssign, apBody, by simpa [apRec] using run_yield (P := Tryz.prog) (args := #[x.enc]) h.L rfl, roundIn_of_wpIn hfn ?_⟩
  unfold apAssign
  gi_wp2_with (first
    | (refine inStore rfl 44 _ _ rfl _ (store44 _ _ x _ 44 (heap_alloc_new W _) rfl) ?_
       generalize hWa : World.setRow (World.alloc W _) W.heap.size x.1 = Wa
       have hx5 : Wa.heap[W.heap.size]? = some (.cells x.1 44 (0, 0)) := by rw [← hWa]; exact setRow_heap _ _ _ _ _ _ (heap_alloc_new W _)
       have hga : W.grownBy Wa none := by rw [← hWa]; exact grown_box _ _ _
       clear hWa)
    | (rw [Oper.semAt_eq _ _ _ (fun c h => by cases h)]; go_simp; try go_bits))
  have hlW : l < W.heap.size := (Array.getElem?_eq_some_iff.1 h.L).1
  have hLa : Wa.heap[l]? = some (.loop (apRec fn sv Bs D .ready none)) := (hga.block _ hlW (by simp)).trans h.L
  have hKa : Wa.heap[D]? = some (.deferred (some [])) := (hga.block _ (Array.getElem?_eq_some_iff.1 h.K).1 (by simp)).trans h.K
  have hva : Wa.heap[Bs]? = some (.cells #[v] 34 (0, 0)) := (hga.block _ (Array.getElem?_eq_some_iff.1 hv).1 (by simp)).trans hv
  have hka : KeepsWalks W Wa := KeepsWalks.of_grownBy hga (fun j o e => by cases e)
  have hrowa := hrow.kept hga (by
    cases hh : v.ownBlock
    · exact .inl rfl
    · exact .inr (by simp))
  have hba : Below w0.heap.size w0 Wa := h.below.grown hga h.below.size (fun k e => by cases e)
  have hl : l < Wa.heap.size := (Array.getElem?_eq_some_iff.1 hLa).1
  have hbr := run_beginRound (P := Tryz.prog) hLa rfl
  obtain ⟨W2, hW2⟩ : ∃ W2, Wa.putObj l (.loop { apRec fn sv Bs D .ready none with state := .busy }) = W2 := ⟨_, rfl⟩
  rw [hW2] at hbr
  have hg2 : Wa.grownBy W2 (some l) := by rw [← hW2]; exact grownBy_putObj _ _ _
  have hk2 : KeepsWalks W W2 := hka.trans (by rw [← hW2]; exact KeepsWalks.putObj _ hLa rfl)
  have hv2 : W2.heap[Bs]? = some (.cells #[v] 34 (0, 0)) := by rw [← hW2]; exact (World.putObj_heap_other hBl).trans hva
  have hx2 : W2.heap[W.heap.size]? = some (.cells x.1 44 (0, 0)) := by rw [← hW2]; exact (World.putObj_heap_other (by omega)).trans hx5
  have hK2 : W2.heap[D]? = some (.deferred (some [])) := by rw [← hW2]; exact (World.putObj_heap_other hDl).trans hKa
  have hL2 : W2.heap[l]? = some (.loop { apRec fn sv Bs D .ready none with state := .busy }) := by rw [← hW2]; exact World.putObj_heap_same hl
  have hrow2 : W2.ownsRow w0.heap.size 44 32 v ss.length (flat ss) := hrowa.kept hg2 (ownsRow_ne hrowa hLa (fun cur e => by cases e))
  have hb2 : Below w0.heap.size w0 W2 := hba.grown hg2 hba.size (fun k e => by cases e; exact h0l)
  clear hW2
  obtain ⟨hc2, hf2⟩ := cell_of_box hv2
  have hBlt : Bs < W2.heap.size := (Array.getElem?_eq_some_iff.1 hv2).1
  have hl2 : l < W2.heap.size := (Array.getElem?_eq_some_iff.1 hL2).1
  have hDlt : D < W2.heap.size := (Array.getElem?_eq_some_iff.1 hK2).1
  have ne_of : ∀ {j : Nat} {o : Obj}, W2.heap[j]? = some o → (∀ cur, o ≠ .cells cur 44 (0, 0)) → some j ≠ v.ownBlock := fun hj hno => by
    rcases ownsRow_ne hrow2 hj hno with e | e
    · rw [e]; simp
    · exact fun e' => e e'.symm
  refine ⟨W2, hbr, ?_⟩
  unfold apBody
  have h1 : ∀ u ∈ x.1.toList, u.oneCell' = true := fun u hu => (Array.all_eq_true_iff_forall_mem.1 x.2.2) u (by simpa using hu)
  gi_wp2_with (first
    | (refine inLoad rfl 44 _ rfl x.enc (load44 _ _ x 44 (0, 0) hx2) ?_)
    | (refine inBuild rfl 34 1 _ rfl [(0, x.enc)] rfl (.slice (some ⟨W2.heap.size, 0, none⟩) 1 1) (W2.alloc (.cells x.1 44)) (build44 W2 x) ?_)
    | (gi_at_builtin; refine wpListIn_append_own _ rfl _ _ 34 rfl w0.heap.size 44 i0 _ 32 32 Tryz.underlying34 hi hz0 hz1 hz2 rfl (by decide) _ _ _ rfl (hrow2.alloc _) ⟨W2.heap.size, 0, none⟩ 1 1 x.1.toList rfl (by simp [x.2.1]) (row_cells x (heap_alloc_new W2 _)) h1 (by omega) (by omega) (by have := hb2.size; simp; omega) ?_; intro v' w3 hown' hg3 hnil3
       have hv3 : w3.heap[Bs]? = some (.cells #[v] 34 (0, 0)) := (hg3.block Bs (by simp; omega) (ne_of hv2 (fun cur e => by cases e))).trans ((Below.heap_alloc _ _ Bs hBlt).trans hv2)
       obtain ⟨hc3, hf3⟩ := cell_of_box hv3
       obtain ⟨g', cap', cur', rfl, hbase', hgb', hr1, hr2, hr3, hr4⟩ : ∃ g' cap' cur', v' = .slice (some ⟨g', 0, none⟩) (ss.length + 1) cap' ∧ w0.heap.size ≤ g' ∧ w3.heap[g']? = some (.cells cur' 44 (0, 0)) ∧ ss.length + 1 ≤ cap' ∧ cap' ≤ maxLen ∧ cur'.size = cap' * 32 ∧ cur'.toList.take ((ss.length + 1) * 32) = flat ss ++ x.1.toList := by
         rcases hown'.2 with ⟨_, h0⟩ | h'
         · exact absurd h0 (by omega)
         · exact h'
       go_frame)
    | (rw [Oper.semAt_eq _ _ _ (fun c h => by cases h)]; go_simp; try go_bits))
  have hg3' : (W2.alloc (.cells x.1 44)).grownBy w3 v.ownBlock := hg3
  have hL3 : w3.heap[l]? = some (.loop { apRec fn sv Bs D .ready none with state := .busy }) := (hg3'.block l (by simp; omega) (ne_of hL2 (fun cur e => by cases e))).trans ((Below.heap_alloc _ _ l hl2).trans hL2)
  have hK3 : w3.heap[D]? = some (.deferred (some [])) := (hg3'.block D (by simp; omega) (ne_of hK2 (fun cur e => by cases e))).trans ((Below.heap_alloc _ _ D hDlt).trans hK2)
  obtain ⟨w4, hw4⟩ : ∃ w4, w3.setCell ⟨Bs, 0, none⟩ (.slice (some ⟨g', 0, none⟩) (ss.length + 1) cap') = w4 := ⟨_, rfl⟩
  rw [hw4]
  have hg4 : w3.grownBy w4 (some Bs) := by rw [← hw4]; exact grownBy_setCell0 _ _ _
  have hv4 : w4.heap[Bs]? = some (.cells #[.slice (some ⟨g', 0, none⟩) (ss.length + 1) cap'] 34 (0, 0)) := by rw [← hw4]; exact heap_setCell_box _ hv3
  have hL4 : w4.heap[l]? = some (.loop { apRec fn sv Bs D .ready none with state := .busy }) := (hg4.block l (Array.getElem?_eq_some_iff.1 hL3).1 (fun e => hBl (by cases e; rfl))).trans hL3
  have hK4 : w4.heap[D]? = some (.deferred (some [])) := (hg4.block D (Array.getElem?_eq_some_iff.1 hK3).1 (fun e => hDB (by cases e; rfl))).trans hK3
  have hrow4 := hown'.kept hg4 (ownsRow_ne hown' hv3 (fun cur e => by cases e))
  have hl4 : l < w4.heap.size := (Array.getElem?_eq_some_iff.1 hL4).1
  have hb3 : Below w0.heap.size w0 w3 := (hb2.alloc hb2.size _).grown hg3' (by have := hb2.size; simp; omega) (fun k e => (hrow2.lt k e).1)
  have hb4 : Below w0.heap.size w0 w4 := hb3.grown hg4 hb3.size (fun k e => by cases e; exact h0B)
  have hk4 : KeepsWalks W w4 := ((hk2.trans (KeepsWalks.alloc _ _)).trans (KeepsWalks.of_grownBy hg3' (ownsRow_not_walk (hrow2.alloc _)))).trans (by rw [← hw4]; exact KeepsWalks.setCell _ _ _)
  clear hw4
  refine ⟨_, _, run_endRound none hL4, rfl, ⟨⟨_, (World.putObj_heap_other hBl).trans hv4, ?_, by simp⟩, World.putObj_heap_same hl4, (World.putObj_heap_other hDl).trans hK4, hb4.grown (grownBy_putObj _ _ _) hb4.size (fun k e => by cases e; exact h0l)⟩, hk4.trans (KeepsWalks.putObj _ hL4 rfl)⟩
  have := hrow4.kept (grownBy_putObj w4 l (.loop { { apRec fn sv Bs D .ready none with state := .busy } with state := if (none : Option Code).isNone then .ready else .done, pending := none })) (ownsRow_ne hrow4 hL4 (fun cur e => by cases e))
  rw [flat_snoc]
  simpa using this
set_option maxRecDepth 100000 in
set_option maxHeartbeats 2000000 in
theorem appendSeq_in (F : Fence) (n : Nat) (h11 : F.fn 232) (hro : F.round = none) (hn : 2 ≤ n) (g : Nat) (lb : Array Value) (hFg : F.fn g) (eg : ∀ args w, (callFunc g args).run Tryz.prog w = .ok (.enter g args) w)
    (S : List K32 → Prop) (N : Nat) (hN : N ≤ maxLen) (hNb : N * 32 ≤ 140737488355328) (w : World) (hseq : SeqGives F (n - 1) Tryz.prog g lb K32.enc S N w) :
    CallsIn F n Tryz.prog 232 #[.slice none 0 0, .func (.func g) #[] lb] w fun e w' => ∃ (v : Value) (ss : List K32), e = .returned v ∧ S ss ∧ w'.ownsRow w.heap.size 44 32 v ss.length (flat ss) ∧ (v = .slice none 0 0 ↔ ss = []) ∧ Below w.heap.size w w' := by
  have h1 : 1 ≤ n := by omega
  refine callsIn_of_wp_marks Tryz.func232 rfl h11 ?_ hro
  simp only [Tryz.ntmps232, List.size_toArray, List.length_cons, List.length_nil, Nat.reduceAdd, Nat.reduceSub, Array.replicate_succ, Array.replicate_zero, List.push_toArray, List.append_toArray, List.nil_append, List.cons_append]
  gi_wp2
  refine wpIn_rangeFunc ?_
  intro fn hfn
  rw [hro]
  obtain ⟨W0, hW0⟩ : ∃ W0, w.alloc (.cells #[.slice none 0 0] 34) = W0 := ⟨_, rfl⟩
  have hs0 : W0.heap.size = w.heap.size + 1 := by rw [← hW0]; simp
  have hv0 : W0.heap[w.heap.size]? = some (.cells #[.slice none 0 0] 34 (0, 0)) := by rw [← hW0]; exact World.alloc_heap_new w _
  have hb0 : Below w.heap.size w W0 := by rw [← hW0]; exact (Below.refl _ w).alloc (Nat.le_refl _) _
  rw [hW0]
  obtain ⟨W1, hW1⟩ : ∃ W1, (W0.alloc (.deferred (some []))).alloc (.loop (apRec fn (.func (.func g) #[] lb) w.heap.size W0.heap.size .ready none)) = W1 := ⟨_, rfl⟩
  have hold : ∀ k, k < W0.heap.size → W1.heap[k]? = W0.heap[k]? := fun k hk => by
    rw [← hW1]; exact (Below.heap_alloc _ _ k (by simp; omega)).trans (Below.heap_alloc _ _ k hk)
  have hb1 : Below w.heap.size w W1 := by rw [← hW1]; exact (hb0.alloc hb0.size _).alloc (by have := hb0.size; simp; omega) _
  have hs1 : W1.heap.size = W0.heap.size + 2 := by rw [← hW1]; simp
  have hM : ApAt w fn (.func (.func g) #[] lb) w.heap.size (W0.heap.size + 1) W0.heap.size [] W1 :=
    ⟨⟨_, (hold w.heap.size (by omega)).trans hv0, ⟨rfl, .inl ⟨rfl, rfl⟩⟩, by simp⟩,
     by rw [← hW1]; have := World.alloc_heap_new (W0.alloc (.deferred (some []))) (.loop (apRec fn (.func (.func g) #[] lb) w.heap.size W0.heap.size .ready none)); rwa [World.size_alloc] at this,
     by rw [← hW1]; exact (Below.heap_alloc _ _ _ (by simp)).trans (World.alloc_heap_new W0 _), hb1⟩
  refine ⟨W0.heap.size + 1, [{ target := .collected W0.heap.size, args := #[] }], W1, { target := .fn (.func g) lb, args := #[.func (.yield (W0.heap.size + 1)) #[] #[]] }, W1, g,
    #[.func (.yield (W0.heap.size + 1)) #[] #[]] ++ lb, W1, ?_, ?_, ?_, ?_, fun _ => h1, ?_⟩
  · rw [← hW1]; exact run_enterLoop_outer _ _ _ _ _
  · simp [resolve, go_sem]
  · intro f' hf'; simp [Target.leads] at hf'; subst hf'; exact hFg
  · simp [invoke, go_sem, eg]
  · refine (hseq (W0.heap.size + 1) (ApAt w fn (.func (.func g) #[] lb) w.heap.size (W0.heap.size + 1) W0.heap.size) W1 hb1 (ap_abides _ _ _ _ _ _ _ hb1.size)
      (fun pre x W hJ hl => apYield F (n - 1 - 1) w fn hfn _ w.heap.size (W0.heap.size + 1) W0.heap.size (by omega) (by omega) (by omega) (Nat.le_refl _) (by omega) N hN hNb pre x W hJ hl) hM).mono ?_
    rintro e W2 ⟨⟨v0, rfl⟩, ss, hS, h2⟩
    obtain ⟨v, hv, hrow, hnil⟩ := h2.box
    have hend := run_endLoop (P := Tryz.prog) h2.L (by simp [apRec])
    obtain ⟨W3, hW3⟩ : ∃ W3, W2.putObj (W0.heap.size + 1) (.loop { apRec fn (.func (.func g) #[] lb) w.heap.size W0.heap.size .ready none with state := .exhausted }) = W3 := ⟨_, rfl⟩
    rw [hW3] at hend
    have hg3 : W2.grownBy W3 (some (W0.heap.size + 1)) := by rw [← hW3]; exact grownBy_putObj _ _ _
    have hv3 : W3.heap[w.heap.size]? = some (.cells #[v] 34 (0, 0)) := by rw [← hW3]; exact (World.putObj_heap_other (by omega)).trans hv
    have hK3 : W3.heap[W0.heap.size]? = some (.deferred (some [])) := by rw [← hW3]; exact (World.putObj_heap_other (by omega)).trans h2.K
    have hrow3 := hrow.kept hg3 (ownsRow_ne hrow h2.L (fun cur e => by cases e))
    have hb3 : Below w.heap.size w W3 := h2.below.grown hg3 h2.below.size (fun k e => by cases e; omega)
    obtain ⟨hc3, hf3⟩ := cell_of_box hv3
    clear hW3
    refine ⟨none, W3, hend, ?_⟩
    gi_wp2
    rw [← hs0]
    refine ⟨by simp, .inl ⟨_, _, rfl, run_takeDeferred hK3, ?_⟩⟩
    exact ⟨_, results_tmp rfl _ _ _, v, ss, rfl, hS, hrow3.kept (grownBy_putObj _ _ _) (ownsRow_ne hrow3 hK3 (fun cur e => by cases e)), hnil, hb3.grown (grownBy_putObj _ _ _) hb3.size (fun k e => by cases e; omega)⟩
set_option maxHeartbeats 1000000 in
theorem collect_in (F : Fence) (n : Nat) (h8 : F.fn 156) (h11 : F.fn 232) (hro : F.round = none) (hn : 3 ≤ n) (g : Nat) (lb : Array Value) (hFg : F.fn g) (eg : ∀ args w, (callFunc g args).run Tryz.prog w = .ok (.enter g args) w)
    (S : List K32 → Prop) (N : Nat) (hN : N ≤ maxLen) (hNb : N * 32 ≤ 140737488355328) (w : World) (hseq : SeqGives F (n - 1 - 1) Tryz.prog g lb K32.enc S N w) :
    CallsIn F n Tryz.prog 156 #[.func (.func g) #[] lb] w fun e w' => ∃ (v : Value) (ss : List K32), e = .returned v ∧ S ss ∧ w'.ownsRow w.heap.size 44 32 v ss.length (flat ss) ∧ (v = .slice none 0 0 ↔ ss = []) ∧ Below w.heap.size w w' := by
  have h1 : 1 ≤ n := by omega
  refine callsIn_of_wp Tryz.func156 rfl h8 ?_ hro
  simp only [Tryz.ntmps156, List.size_toArray, List.length_cons, List.length_nil, Nat.reduceAdd, Nat.reduceSub, Array.replicate_succ, Array.replicate_zero, List.push_toArray, List.append_toArray, List.nil_append, List.cons_append]
  gi_wp2_with (gi_at_call 232; refine (appendSeq_in F (n - 1) h11 hro (by omega) g lb hFg eg S N hN hNb _ hseq).mono ?_; rintro e w' ⟨v, ss, rfl, hS, hrow, hnil, hb⟩)
  go_ret
  exact ⟨v, ss, rfl, hS, hrow, hnil, hb⟩
end Go.Proofs.YtfiiemjbbmdlnaaGreatDoor
end
section
namespace Go.Proofs.YtfiiemjbbmdlnaaGreatDoor
open Go.RowKit Go.Maps Go.KW
theorem keys_gives (F : Fence) (n : Nat) (h10 : F.fn 233) (hro : F.round = none) (hn : 1 ≤ n) (Bm b clock : Nat) (es : Array MapEntry) (w : World) (hBm : Bm < w.heap.size)
    (hk32 : ∀ e ∈ es.toList, ∃ x : K32, e.key = x.enc) (hold : ∀ x ∈ es.toList, x.born < clock) (hnd : (es.toList.map (·.born)).Nodup)
    (hm : w.cell? ⟨Bm, 0, none⟩ = some (.map (some b))) (hb : w.heap[b]? = some (.map es clock)) :
    SeqGives F n Tryz.prog 233 #[.pointer (some ⟨Bm, 0, none⟩)] K32.enc (fun ss => (ss.map K32.enc).Perm (es.toList.map (·.key))) es.size w := fun l J W hW hJ hY h0 =>
  keys233 F n h10 hro hn l Bm b clock es J hk32 hold hnd hY W hJ ((hW.cell (p := ⟨Bm, 0, none⟩) hBm).trans hm) ((hW.block b (Array.getElem?_eq_some_iff.1 hb).1).trans hb) h0
set_option maxHeartbeats 1000000 in
theorem keys157 (F : Fence) (n : Nat) (h7 : F.fn 157) (hro : F.round = none) (mb : Option Nat) (w : World) :
    CallsIn F n Tryz.prog 157 #[.map mb] w fun e w' => e = .returned (.func (.func 233) #[] #[.pointer (some ⟨w.heap.size, 0, none⟩)]) ∧ w' = w.alloc (.cells #[.map mb] 178) := by
  refine callsIn_of_wp Tryz.func157 rfl h7 ?_ hro
  simp only [Tryz.ntmps157, List.size_toArray, List.length_cons, List.length_nil, Nat.reduceAdd, Nat.reduceSub, Array.replicate_succ, Array.replicate_zero, List.push_toArray, List.append_toArray, List.nil_append, List.cons_append]
  gi_wp2
  go_ret
  exact ⟨rfl, rfl⟩
/-- The row of keys that maps.Keys and slices.Collect give. -/
def KRow (es : Array MapEntry) (w : World) (v : Value) (w' : World) : Prop :=
  ∃ ss : List K32, (ss.map K32.enc).Perm (es.toList.map (·.key)) ∧ w'.ownsRow w.heap.size 44 32 v ss.length (flat ss) ∧ (v = .slice none 0 0 ↔ ss = []) ∧ Below w.heap.size w w'
theorem collect156 (b clock : Nat) (es : Array MapEntry) (w : World) 
    (hk32 : ∀ e ∈ es.toList, ∃ x : K32, e.key = x.enc) (hold : ∀ x ∈ es.toList, x.born < clock) (hnd : (es.toList.map (·.born)).Nodup)
    (hb : w.heap[b]? = some (.map es clock)) (hN : es.size ≤ 1000) :
    Calls Tryz.prog 156 #[.func (.func 233) #[] #[.pointer (some ⟨w.heap.size, 0, none⟩)]] (w.alloc (.cells #[.map (some b)] 178)) fun e w' => ∃ v, e = .returned v ∧ KRow es (w.alloc (.cells #[.map (some b)] 178)) v w' := by
  have hbl : b < w.heap.size := (Array.getElem?_eq_some_iff.1 hb).1
  refine callsIn_wide.1 ((collect_in Fence.wide 5 trivial trivial rfl (by omega) 233 _ trivial (enters_of Tryz.func233 (by kernel_rfl) rfl) _ es.size (by simp [maxLen]; omega) (by omega) _
    (keys_gives Fence.wide _ trivial rfl (by omega) w.heap.size b clock es _ (by simp) hk32 hold hnd (by simp) ((Below.heap_alloc _ _ b hbl).trans hb))).mono ?_)
  rintro e w' ⟨v, ss, rfl, hS, hrow, hnil, hbw⟩
  exact ⟨v, rfl, ss, hS, hrow, hnil, hbw⟩
end Go.Proofs.YtfiiemjbbmdlnaaGreatDoor
end
section
namespace Go.Proofs.YtfiiemjbbmdlnaaGreatDoor
open Go.RowKit Go.KW Go.AS
/-- A hash: 32 bytes. -/
def H32 : Type := { bs : List UInt8 // bs.length = 32 }
def byteV (b : UInt8) : Value := .int .u8 (b.toNat : Int)
def H32.cells (x : H32) : List Value := x.1.map byteV
def H32.cmp (x y : H32) : Int := Extern.BytealgCompare.cmp ⟨x.1.toArray⟩ ⟨y.1.toArray⟩
theorem isExt295 : IsExt Tryz.prog 295 Tryz.f295 (Extern.BytealgCompare.compare) := ⟨Tryz.func295, by kernel_rfl, by kernel_rfl, by kernel_rfl, by kernel_rfl⟩
theorem bytes_of (x : H32) (w : World) (b : Nat) (t : TypeId) (h : w.heap[b]? = some (.cells x.cells.toArray t (0, 0))) :
    (Extern.Bytes.bytesOf (.slice (some ⟨b, 0, none⟩) 32 32)).run Tryz.prog w = .ok ⟨x.1.toArray⟩ w := by
  have := run_loadBytes (P := Tryz.prog) h (x.1.map fun b => (b.toNat : Int)) 0 [] .empty (by simp [H32.cells, byteV, Function.comp_def])
  simp only [List.length_map, x.2] at this
  simp only [Extern.Bytes.bytesOf]
  rw [this]
  have e0 : (ByteArray.empty).data.toList = [] := rfl
  have e1 : (x.1.map fun b => (b.toNat : Int)).map (fun n => n.toNat.toUInt8) = x.1 := by simp [Function.comp_def]
  rw [e0, e1]
  rfl
theorem call295 (x y : H32) (w : World) (b c : Nat) (t u : TypeId) (h : w.heap[b]? = some (.cells x.cells.toArray t (0, 0))) (h' : w.heap[c]? = some (.cells y.cells.toArray u (0, 0))) :
    (callFunc 295 #[.slice (some ⟨b, 0, none⟩) 32 32, .slice (some ⟨c, 0, none⟩) 32 32]).run Tryz.prog w = .ok (.value (.int .i64 (H32.cmp x y))) w := by
  rw [isExt295.run]
  have ec : ∀ v u, Extern.BytealgCompare.compare #[v, u] = (do pure (goInt (Extern.BytealgCompare.cmp (← Extern.Bytes.bytesOf v) (← Extern.Bytes.bytesOf u)))) := fun _ _ => rfl
  simp only [ec, Sem.run_bind, bytes_of x w b t h, bytes_of y w c u h', Result.andThen_ok, Sem.run_pure]
  rfl
theorem call230 (x y : H32) (w : World) (b c : Nat) (t u : TypeId) (h : w.heap[b]? = some (.cells x.cells.toArray t (0, 0))) (h' : w.heap[c]? = some (.cells y.cells.toArray u (0, 0))) :
    Calls Tryz.prog 230 #[.slice (some ⟨b, 0, none⟩) 32 32, .slice (some ⟨c, 0, none⟩) 32 32] w fun e w' => e = .returned (.int .i64 (H32.cmp x y)) ∧ w' = w := by
  have hc := call295 x y w b c t u h h'
  go_enter Tryz.func230, Tryz.ntmps230
  go_wp2
  go_ret
  exact ⟨rfl, rfl⟩
end Go.Proofs.YtfiiemjbbmdlnaaGreatDoor
end
section
namespace Go.Proofs.YtfiiemjbbmdlnaaGreatDoor
open Go.RowKit Go.KW Go.AS Go.Shelf Go.Sort
set_option maxRecDepth 100000 in
set_option maxHeartbeats 2000000 in
theorem closure229 (x y : H32) (W : World) : Calls Tryz.prog 229 #[.agg x.cells.toArray, .agg y.cells.toArray] W fun e w' => e = .returned (.int .i64 (H32.cmp x y)) ∧ ∃ q os', w' = grow (W.drewN q) os' := by
  have a2 : ((W.alloc (.cells x.cells.toArray 44)).alloc (.cells y.cells.toArray 44)).drew.heap[W.heap.size + 1]? = some (.cells y.cells.toArray 44) := by
    have := heap_alloc_new (W.alloc (.cells x.cells.toArray 44)) (.cells y.cells.toArray 44)
    rwa [show (W.alloc (.cells x.cells.toArray 44)).heap.size = W.heap.size + 1 from by simp] at this
  have a1 : ((W.alloc (.cells x.cells.toArray 44)).alloc (.cells y.cells.toArray 44)).drew.heap[W.heap.size]? = some (.cells x.cells.toArray 44) :=
    (Below.heap_alloc (W.alloc (.cells x.cells.toArray 44)) _ W.heap.size (by simp)).trans (heap_alloc_new W _)
  have hcon := call230 x y _ W.heap.size (W.heap.size + 1) 44 44 a1 a2
  generalize H32.cmp x y = r at hcon ⊢
  go_enter Tryz.func229, Tryz.ntmps229
  go_wp2
  go_region_with (go_at_call 230; refine hcon.mono ?_; rintro e w' ⟨rfl, rfl⟩)
  go_wp2
  go_ret
  exact ⟨rfl, 1, _, by rw [alloc_eq_grow, alloc_eq_grow, grow_grow]; rfl⟩
end Go.Proofs.YtfiiemjbbmdlnaaGreatDoor
end
section
namespace Go.Proofs.YtfiiemjbbmdlnaaGreatDoor
open Go.Shelf
def sortLaid_ren : Go.Shelf.Ren := ⟨fun | 6 => 228 | 15 => 186 | 14 => 294 | 28 => 274 | 29 => 275 | 20 => 321 | 21 => 322 | 22 => 323 | 23 => 324 | 24 => 325 | 25 => 326 | 26 => 327 | 27 => 328 | 46 => 343 | 47 => 315 | 48 => 316 | 49 => 344 | 50 => 345 | 57 => 352 | n => n, fun | 22 => 34 | 24 => 44 | 25 => 360 | 3 => 3 | 39 => 281 | 0 => 0 | 53 => 385 | 55 => 280 | 4 => 4 | 46 => 379 | 45 => 378 | 50 => 100 | 5 => 5 | 9 => 9 | 66 => 418 | 70 => 422 | 76 => 436 | 77 => 292 | n => n, fun | n => n⟩
theorem sortLaid : Go.Proofs.SlLaysF0.n6 Tryz.prog sortLaid_ren := {
  mixed := by kernel_rfl
  f6 := ⟨Tryz.f228.name, by decide, Tryz.func228.trans (congrArg some (by kernel_rfl))⟩
  f14 := ⟨Tryz.f294.name, by decide, Tryz.func294.trans (congrArg some (by kernel_rfl))⟩
  f15 := Tryz.func186.trans (congrArg some (by kernel_rfl))
  f20 := ⟨Tryz.f321.name, by decide, Tryz.func321.trans (congrArg some (by kernel_rfl))⟩
  f21 := ⟨Tryz.f322.name, by decide, Tryz.func322.trans (congrArg some (by kernel_rfl))⟩
  f22 := ⟨Tryz.f323.name, by decide, Tryz.func323.trans (congrArg some (by kernel_rfl))⟩
  f23 := ⟨Tryz.f324.name, by decide, Tryz.func324.trans (congrArg some (by kernel_rfl))⟩
  f24 := ⟨Tryz.f325.name, by decide, Tryz.func325.trans (congrArg some (by kernel_rfl))⟩
  f25 := ⟨Tryz.f326.name, by decide, Tryz.func326.trans (congrArg some (by kernel_rfl))⟩
  f26 := ⟨Tryz.f327.name, by decide, Tryz.func327.trans (congrArg some (by kernel_rfl))⟩
  f27 := ⟨Tryz.f328.name, by decide, Tryz.func328.trans (congrArg some (by kernel_rfl))⟩
  f28 := Tryz.func274.trans (congrArg some (by kernel_rfl))
  f29 := Tryz.func275.trans (congrArg some (by kernel_rfl))
  f46 := ⟨Tryz.f343.name, by decide, Tryz.func343.trans (congrArg some (by kernel_rfl))⟩
  f47 := Tryz.func315.trans (congrArg some (by kernel_rfl))
  f48 := Tryz.func316.trans (congrArg some (by kernel_rfl))
  f49 := ⟨Tryz.f344.name, by decide, Tryz.func344.trans (congrArg some (by kernel_rfl))⟩
  f50 := ⟨Tryz.f345.name, by decide, Tryz.func345.trans (congrArg some (by kernel_rfl))⟩
  f57 := ⟨Tryz.f352.name, by decide, Tryz.func352.trans (congrArg some (by kernel_rfl))⟩
  t0 := Tryz.underlying0
  a0 := Tryz.isAgg0
  z0 := Tryz.sizeOf0
  v0 := Tryz.zeroValue0
  t3 := Tryz.underlying3
  a3 := Tryz.isAgg3
  z3 := Tryz.sizeOf3
  v3 := Tryz.zeroValue3
  t4 := Tryz.underlying4
  a4 := Tryz.isAgg4
  z4 := Tryz.sizeOf4
  v4 := Tryz.zeroValue4
  t5 := Tryz.underlying5
  a5 := Tryz.isAgg5
  z5 := Tryz.sizeOf5
  v5 := Tryz.zeroValue5
  t9 := Tryz.underlying9
  a9 := Tryz.isAgg9
  z9 := Tryz.sizeOf9
  v9 := Tryz.zeroValue9
  t22 := Tryz.underlying34
  a22 := Tryz.isAgg34
  z22 := Tryz.sizeOf34
  v22 := Tryz.zeroValue34
  t25 := Tryz.underlying360
  a25 := Tryz.isAgg360
  z25 := Tryz.sizeOf360
  v25 := Tryz.zeroValue360
  t39 := Tryz.underlying281
  a39 := Tryz.isAgg281
  z39 := Tryz.sizeOf281
  v39 := Tryz.zeroValue281
  t45 := Tryz.underlying378
  a45 := Tryz.isAgg378
  z45 := Tryz.sizeOf378
  v45 := Tryz.zeroValue378
  t46 := Tryz.underlying379
  a46 := Tryz.isAgg379
  z46 := Tryz.sizeOf379
  v46 := Tryz.zeroValue379
  t50 := Tryz.underlying100
  a50 := Tryz.isAgg100
  z50 := Tryz.sizeOf100
  v50 := Tryz.zeroValue100
  t53 := Tryz.underlying385
  a53 := Tryz.isAgg385
  z53 := Tryz.sizeOf385
  v53 := Tryz.zeroValue385
  t55 := Tryz.underlying280
  a55 := Tryz.isAgg280
  z55 := Tryz.sizeOf280
  v55 := Tryz.zeroValue280
  t66 := Tryz.underlying418
  a66 := Tryz.isAgg418
  z66 := Tryz.sizeOf418
  v66 := Tryz.zeroValue418
  t70 := Tryz.underlying422
  a70 := Tryz.isAgg422
  z70 := Tryz.sizeOf422
  v70 := Tryz.zeroValue422
  t76 := Tryz.underlying436
  a76 := Tryz.isAgg436
  z76 := Tryz.sizeOf436
  v76 := Tryz.zeroValue436
  t77 := Tryz.underlying292
  a77 := Tryz.isAgg292
  z77 := Tryz.sizeOf292
  v77 := Tryz.zeroValue292 }
def bitsLaid_ren : Go.Shelf.Ren := ⟨fun | 125 => 186 | 128 => 274 | 129 => 275 | n => n, fun | 46 => 281 | 3 => 3 | 51 => 385 | 53 => 280 | 4 => 4 | 5 => 5 | 9 => 9 | n => n, fun | n => n⟩
theorem bitsLaid : Go.Proofs.Lays.n125 Tryz.prog bitsLaid_ren := {
  mixed := by kernel_rfl
  f125 := Tryz.func186.trans (congrArg some (by kernel_rfl))
  f128 := Tryz.func274.trans (congrArg some (by kernel_rfl))
  f129 := Tryz.func275.trans (congrArg some (by kernel_rfl))
  t3 := Tryz.underlying3
  a3 := Tryz.isAgg3
  z3 := Tryz.sizeOf3
  v3 := Tryz.zeroValue3
  t4 := Tryz.underlying4
  a4 := Tryz.isAgg4
  z4 := Tryz.sizeOf4
  v4 := Tryz.zeroValue4
  t5 := Tryz.underlying5
  a5 := Tryz.isAgg5
  z5 := Tryz.sizeOf5
  v5 := Tryz.zeroValue5
  t9 := Tryz.underlying9
  a9 := Tryz.isAgg9
  z9 := Tryz.sizeOf9
  v9 := Tryz.zeroValue9
  t46 := Tryz.underlying281
  a46 := Tryz.isAgg281
  z46 := Tryz.sizeOf281
  v46 := Tryz.zeroValue281
  t51 := Tryz.underlying385
  a51 := Tryz.isAgg385
  z51 := Tryz.sizeOf385
  v51 := Tryz.zeroValue385
  t53 := Tryz.underlying280
  a53 := Tryz.isAgg280
  z53 := Tryz.sizeOf280
  v53 := Tryz.zeroValue280 }
end Go.Proofs.YtfiiemjbbmdlnaaGreatDoor
end
section
namespace Go.Proofs.YtfiiemjbbmdlnaaGreatDoor
open Go.RowKit Go.KW Go.AS Go.Shelf Go.Sort
theorem cb_refl : ∀ l : List UInt8, Lib.compareBytes l l = 0
  | [] => rfl
  | a :: l => by simp [Lib.compareBytes, UInt8.lt_irrefl, cb_refl l]
theorem cb_cons (a b : UInt8) (l m : List UInt8) : Lib.compareBytes (a :: l) (b :: m) = if a.toNat < b.toNat then -1 else if b.toNat < a.toNat then 1 else Lib.compareBytes l m := by
  simp [Lib.compareBytes, UInt8.lt_iff_toNat_lt]
theorem cb_trans : ∀ l m n : List UInt8, Lib.compareBytes l m < 0 → Lib.compareBytes m n < 0 → Lib.compareBytes l n < 0
  | [], [], _, h, _ => by simp [Lib.compareBytes] at h
  | _ :: _, [], _, h, _ => by simp [Lib.compareBytes] at h
  | [], _ :: _, [], _, h => by simp [Lib.compareBytes] at h
  | [], _ :: _, _ :: _, _, _ => by simp [Lib.compareBytes]
  | _ :: _, _ :: _, [], _, h => by simp [Lib.compareBytes] at h
  | a :: l, b :: m, c :: n, h, h' => by
    rw [cb_cons] at h h' ⊢
    have ih := cb_trans l m n
    split at h <;> split at h' <;> (try split at h) <;> (try split at h') <;> (try split) <;> (try split) <;> first | omega | exact ih h h'
theorem cb_ntrans : ∀ l m n : List UInt8, 0 ≤ Lib.compareBytes l m → 0 ≤ Lib.compareBytes m n → 0 ≤ Lib.compareBytes l n
  | [], [], _, _, h => h
  | [], _ :: _, _, h, _ => by simp [Lib.compareBytes] at h
  | _ :: _, [], [], _, _ => by simp [Lib.compareBytes]
  | _ :: _, [], _ :: _, _, h => by simp [Lib.compareBytes] at h
  | _ :: _, _ :: _, [], _, _ => by simp [Lib.compareBytes]
  | a :: l, b :: m, c :: n, h, h' => by
    rw [cb_cons] at h h' ⊢
    have ih := cb_ntrans l m n
    split at h <;> split at h' <;> (try split at h) <;> (try split at h') <;> (try split) <;> (try split) <;> first | omega | exact ih h h'
theorem cb_anti : ∀ l m : List UInt8, 0 ≤ Lib.compareBytes l m → 0 ≤ Lib.compareBytes m l → l = m
  | [], [], _, _ => rfl
  | [], _ :: _, h, _ => by simp [Lib.compareBytes] at h
  | _ :: _, [], _, h => by simp [Lib.compareBytes] at h
  | a :: l, b :: m, h, h' => by
    rw [cb_cons] at h h'
    have e : a.toNat = b.toNat := by
      split at h <;> split at h' <;> omega
    have ih := cb_anti l m
    rw [e] at h h'
    simp only [Nat.lt_irrefl, if_false] at h h'
    rw [ih h h', UInt8.toNat_inj.1 e]
end Go.Proofs.YtfiiemjbbmdlnaaGreatDoor
end
section
namespace Go.Proofs.YtfiiemjbbmdlnaaGreatDoor
open Go.RowKit Go.KW Go.AS Go.Shelf Go.Sort
theorem cmp_cb (x y : H32) : H32.cmp x y = Lib.compareBytes x.1 y.1 := Lib.cmp_eq _ _
theorem swoH : SWO (ltOf H32.cmp) where
  irrefl x := by simp [ltOf, cmp_cb, cb_refl]
  trans x y z h h' := by
    simp only [ltOf, cmp_cb, decide_eq_true_eq] at h h' ⊢
    exact cb_trans _ _ _ h h'
  ntrans x y z h h' := by
    simp only [ltOf, cmp_cb, decide_eq_false_iff_not, Int.not_lt] at h h' ⊢
    exact cb_ntrans _ _ _ h h'
instance : Inhabited H32 := ⟨⟨List.replicate 32 0, by simp⟩⟩
theorem agg44 (w : World) : (isAgg 44).run Tryz.prog w = .ok true w := by
  kernel_rfl
theorem size44 (w : World) : (Go.sizeOf 44).run Tryz.prog w = .ok 32 w := by
  kernel_rfl
theorem cells_len (x : H32) : x.cells.length = 32 := by simp [H32.cells, x.2]
theorem cells_one (x : H32) : ∀ v ∈ x.cells, v.oneCell' = true := fun v hv => by
  obtain ⟨b, _, rfl⟩ := List.mem_map.1 hv
  rfl
theorem sort228 (blk off cap : Nat) (d : Array H32) (w : World) (hH : HoldsK H32.cells 32 w blk off d) (hblk : blk < w.heap.size) (h12 : d.size ≤ 12) :
    Calls Tryz.prog 228 #[.slice (some ⟨blk, off, none⟩) d.size cap, .func (.func 229) #[] #[]] w fun e w' => e = .returned (.tuple #[]) ∧ ∃ d' n os, PermIn 0 d.size d d' ∧ SortedIn (ltOf H32.cmp) 0 d.size d' ∧ w' = sortWorldK H32.cells 32 w blk off n d' os :=
  AnyQ.slices_SortFunc_small_sorted sortLaid 32 agg44 size44 H32.cells cells_len cells_one H32.cmp 229 #[] swoH blk off cap d w (enters_of Tryz.func229 (by kernel_rfl) rfl)
    (fun _ _ _ _ x y => closure229 x y _) hH hblk h12
    (fun n W h => (Any.bits_Len bitsLaid n W (by omega) (by omega)).mono fun _ _ ⟨he, hw⟩ => ⟨⟨_, he⟩, hw⟩)
end Go.Proofs.YtfiiemjbbmdlnaaGreatDoor
end
section
namespace Go.Proofs.YtfiiemjbbmdlnaaGreatDoor
open Go.RowKit Go.KW Go.AS Go.Shelf Go.Sort
theorem arr44 : ∃ e, Tryz.prog.underlying 44 = some (.array 32 e) ∧ Tryz.prog.underlying e = some (.int .u8) ∧ Tryz.prog.cellsOf e = 1 ∧ Tryz.prog.cellsOf 44 = 32 :=
  ⟨_, Tryz.underlying44, by kernel_rfl, by kernel_rfl, by kernel_rfl⟩
def H32.lits (x : H32) : List Lit := x.1.map fun b => .int .u8 (b.toNat : Int)
theorem lits_inj {x y : H32} (h : x.lits = y.lits) : x = y := by
  apply Subtype.ext
  refine List.map_inj_right (f := fun b : UInt8 => Lit.int .u8 (b.toNat : Int)) (fun a b hab => ?_) |>.1 h
  have := (Lit.int.inj hab).2
  exact UInt8.toNat_inj.1 (by omega)
theorem lits_range (l : List UInt8) : (List.range l.length).map (fun i => Lit.int .u8 ((l.getD i 0).toNat : Int)) = l.map fun b => Lit.int .u8 (b.toNat : Int) := by
  apply List.ext_getElem
  · simp
  · intro i h h'
    have hi : i < l.length := by simpa using h'
    simp [List.getElem?_eq_getElem hi]
theorem keyLits44 (x : H32) : Tryz.prog.keyLits 2 44 x.cells = some x.lits := by
  obtain ⟨e, h1, h2, h3, h4⟩ := arr44
  have hl := cells_len x
  unfold Program.keyLits
  simp only [h1, h4, hl, if_true, h3]
  have hm : (List.range 32).mapM (fun i => Tryz.prog.keyLits 1 e ((x.cells.drop (i * 1)).take 1)) = some ((List.range 32).map fun i => [Lit.int .u8 ((x.1.getD i 0).toNat : Int)]) := by
    refine Lay.mapM_some' _ _ _ fun i hi => ?_
    have hi : i < 32 := List.mem_range.1 hi
    have hx : i < x.1.length := by rw [x.2]; exact hi
    have hc : (x.cells.drop (i * 1)).take 1 = [byteV (x.1.getD i 0)] := by
      rw [Nat.mul_one]
      apply List.ext_getElem?
      intro j
      cases j with
      | zero => simp [H32.cells, List.getElem?_drop, List.getD, List.getElem?_eq_getElem hx]
      | succ j => simp [List.getElem?_take]
    rw [hc]
    unfold Program.keyLits
    simp only [h2, byteV]
    have hb := (x.1.getD i 0).toNat_lt
    rw [List.getD_eq_getElem?_getD] at hb
    have e1 : IntKind.u8.min = 0 := by decide +kernel
    have e2 : IntKind.u8.max = 255 := by decide +kernel
    simp [Lit.wf, e1, e2]
    omega
  rw [hm]
  have hf : ∀ l : List Nat, (l.map fun i => [Lit.int .u8 ((x.1.getD i 0).toNat : Int)]).flatten = l.map fun i => Lit.int .u8 ((x.1.getD i 0).toNat : Int) := fun l => by
    induction l with
    | nil => rfl
    | cons a r ih => simp only [List.map_cons, List.flatten_cons, ih, List.singleton_append]
  have he := lits_range x.1
  rw [x.2] at he
  rw [Option.map_some, hf, he]
  rfl
theorem formed44 (x : H32) : (Value.agg x.cells.toArray).formed Tryz.prog 44 = true := by
  obtain ⟨e, h1, h2, h3, h4⟩ := arr44
  unfold Value.formed
  simp only [h1, h4, List.size_toArray, cells_len]
  rfl
theorem eq44 (x y : H32) (W : World) : ∃ r : Bool, (Op.equalIn 10000 44 (.agg x.cells.toArray) (.agg y.cells.toArray)).run Tryz.prog W = .ok r W ∧ (r = true ↔ x = y) := by
  obtain ⟨r, h1, h2⟩ := run_equalIn_deep (P := Tryz.prog) 9998 2 44 (by kernel_rfl) W 2 2 _ _ x.lits y.lits (formed44 x) (formed44 y) (keyLits44 x) (keyLits44 y)
  exact ⟨r, h1, h2.trans ⟨lits_inj, fun h => by rw [h]⟩⟩
theorem neq44 (x y : H32) (W : World) (h : x ≠ y) : (Op.equalIn 10000 44 (.agg x.cells.toArray) (.agg y.cells.toArray)).run Tryz.prog W = .ok false W := by
  obtain ⟨r, h1, h2⟩ := eq44 x y W
  cases r
  · exact h1
  · exact absurd (h2.1 rfl) h
end Go.Proofs.YtfiiemjbbmdlnaaGreatDoor
end
section
namespace Go.Proofs.YtfiiemjbbmdlnaaGreatDoor
open Go.RowKit Go.KW Go.AS Go.Shelf Go.Sort
set_option maxRecDepth 100000 in
set_option maxHeartbeats 4000000 in
theorem compact231 (blk off cap : Nat) (d : Array H32) (w : World) (hH : HoldsK H32.cells 32 w blk off d) (h12 : d.size ≤ 12) (hne : ∀ k, k + 1 < d.size → d[k + 1]! ≠ d[k]!) :
    Calls Tryz.prog 231 #[.slice (some ⟨blk, off, none⟩) d.size cap] w fun e w' => e = .returned (.slice (some ⟨blk, off, none⟩) d.size cap) ∧ ∃ q, w' = w.drewN q := by
  by_cases h2 : d.size < 2
  · go_enter Tryz.func231, Tryz.ntmps231
    have h2z : (d.size : Int) < 2 := by omega
    go_wp2
    go_ret
    exact ⟨rfl, 0, rfl⟩
  · go_enter Tryz.func231, Tryz.ntmps231
    have h2z : ¬ (d.size : Int) < 2 := by omega
    go_wp2
    go_loopg [3] d.size (fun g s3 wr => ∃ k q : Nat, k + 1 ≤ d.size ∧ d.size - k ≤ g ∧ s3 = .int .i64 (k + 1 : Nat) ∧ wr = w.drewN q)
    case atStart => exact ⟨0, 0, by omega, by omega, rfl, rfl⟩
    case round =>
      obtain ⟨k, q, hk, hg, rfl, rfl⟩ := hrel
      by_cases hlt : k + 1 < d.size
      · have hltz : ((k + 1 : Nat) : Int) < (d.size : Int) := by omega
        have hw1 : IntKind.i64.wrap (((k + 1 : Nat) : Int) - 1) = (k : Int) := by rw [IntKind.wrap_i64]; omega
        have hw2 : IntKind.i64.wrap (((k + 1 : Nat) : Int) + 1) = ((k + 1 + 1 : Nat) : Int) := by rw [IntKind.wrap_i64]; omega
        go_wp2_with fail
        generalize hW : w.drewN q = W
        have hHd : HoldsK H32.cells 32 W.drew blk off d := by rw [← hW]; exact hH
        obtain ⟨K, hK⟩ : ∃ K : Nat, K = 32 := ⟨_, rfl⟩
        have l1 : Sem.run Tryz.prog (loadCellsFrom ⟨blk, off + (k + 1) * K, none⟩ 0 K #[]) W.drew = .ok (H32.cells d[k + 1]!).toArray W.drew := by
          rw [hK]; exact run_loadCellsFrom_list Tryz.prog _ _ _ 32 (cells_len _) (HoldsK.cells hHd cells_len hlt)
        have l0 : Sem.run Tryz.prog (loadCellsFrom ⟨blk, off + k * K, none⟩ 0 K #[]) W.drew = .ok (H32.cells d[k]!).toArray W.drew := by
          rw [hK]; exact run_loadCellsFrom_list Tryz.prog _ _ _ 32 (cells_len _) (HoldsK.cells hHd cells_len (by omega))
        have hn := hne k hlt
        generalize d[k + 1]! = x at l1 hn
        generalize d[k]! = y at l0 hn
        clear hHd
        have aE := agg44
        have zE : ∀ w, (Go.sizeOf 44).run Tryz.prog w = .ok K w := by rw [hK]; exact size44
        have HK : Hid (K = 32) := hK
        clear hK
        have p0 : (0 : Int) ≤ (k : Int) + 1 := by omega
        have mixed : Tryz.prog.follows .mixedOrders = true := by kernel_rfl
        have hq := neq44 x y W.drew hn
        have hG : Tryz.prog.eqGuardType Tryz.prog.depth 44 = false := by kernel_rfl
        go_big_region_o
        go_wp2
        go_roundg (gk - 1)
        case measure => omega
        case rel => exact ⟨k + 1, q + 1, by omega, by omega, by push_cast; rfl, by rw [← hW]; rfl⟩
      · have hltz : ¬ ((k + 1 : Nat) : Int) < (d.size : Int) := by omega
        go_wp2
        go_ret
        exact ⟨rfl, q, rfl⟩
end Go.Proofs.YtfiiemjbbmdlnaaGreatDoor
end
section
namespace Go.Proofs.YtfiiemjbbmdlnaaGreatDoor
open Go.RowKit Go.KW Go.AS Go.Shelf Go.Sort
set_option maxRecDepth 100000 in
set_option maxHeartbeats 4000000 in
theorem clone152 (g cap n : Nat) (news : List Value) (w : World) (hn : n ≤ 1000) (hl : news.length = n * 32) (hc : ∀ j u, news[j]? = some u → w.cell? ((⟨g, 0, none⟩ : Addr).add j) = some u) (h1 : ∀ u ∈ news, u.oneCell' = true) (hg : g < w.heap.size) :
    Calls Tryz.prog 152 #[.slice (some ⟨g, 0, none⟩) n cap] w fun e w' => ∃ v, e = .returned v ∧ w'.ownsRow w.heap.size 44 32 v n news ∧ v ≠ .slice none 0 0 ∧ Below w.heap.size w w' := by
  obtain ⟨i0, hi, hz0, hz1, hz2⟩ := info_parts info44z
  have hq : (Go.binOp BinOp.eql 34 (Value.slice (some ⟨g, 0, none⟩) n cap) (Value.slice none 0 0)).run Tryz.prog w = Result.ok (.bool false) w := by
    have := run_equal_slice_nil w 34 44 (some ⟨g, 0, none⟩) n cap Tryz.underlying34
    simp [Go.binOp, this]
  go_enter Tryz.func152, Tryz.ntmps152
  go_wp2_with (at_builtin; (refine wpList_append_own _ rfl _ _ 34 rfl w.heap.size 44 i0 _ 32 32 Tryz.underlying34 hi hz0 hz1 hz2 rfl (by decide) (.slice (some ⟨w.heap.size, 0, none⟩) 0 0) 0 [] rfl ?c0 ⟨g, 0, none⟩ n cap news rfl hl ?c1 h1 ?c2 ?c3 ?c4 ?_))
  case c0 => exact ⟨rfl, .inr ⟨w.heap.size, 0, #[], rfl, Nat.le_refl _, heap_alloc_new w _, Nat.le_refl _, Nat.zero_le _, rfl, rfl⟩⟩
  case c1 => exact fun j u hj => ((((Below.refl w.heap.size w).alloc (Nat.le_refl _) (.cells #[] 44)).cell (p := (⟨g, 0, none⟩ : Addr).add j) (by unfold Addr.add; split <;> exact hg))).trans (hc j u hj)
  case c2 => unfold maxLen; omega
  case c3 => omega
  case c4 => simp
  intro v' w2 hown' hg2 hnil
  go_wp2
  go_ret
  have hb := (Below.refl w.heap.size w).alloc (Nat.le_refl _) (.cells #[] 44)
  exact ⟨v', rfl, by simpa using hown', hnil, hb.grown hg2 hb.size (fun k e => by cases e; exact Nat.le_refl _)⟩
end Go.Proofs.YtfiiemjbbmdlnaaGreatDoor
end
section
namespace Go.Proofs.YtfiiemjbbmdlnaaGreatDoor
open Go.RowKit Go.KW Go.AS Go.Shelf Go.Sort
theorem get_of_take {c : Array Value} {F : Array Value} (h : c.toList.take F.size = F.toList) (j : Nat) (hj : j < F.size) : c[j]? = some F[j]! := by
  have h1 := congrArg (·[j]?) h
  simp only [List.getElem?_take, hj, if_true] at h1
  rw [← Array.getElem?_toList, h1, Array.getElem?_toList, Array.getElem?_eq_getElem hj, getElem!_pos F j hj]
theorem holds_of_row {w : World} {g : Nat} {c : Array Value} {t : TypeId} (hb : w.heap[g]? = some (.cells c t (0, 0))) {F : Array Value} (h : c.toList.take F.size = F.toList) : Holds id w g 0 F := fun j hj => by
  have hc := get_of_take h j hj
  constructor
  · simp [World.cell?, hb, hc]
  · simp [World.frozen?, hb]
theorem putRow_block {w : World} {g : Nat} {c : Array Value} {t : TypeId} (hb : w.heap[g]? = some (.cells c t (0, 0))) (F : Array Value) : (putRow id w g 0 F).heap[g]? = some (.cells (putCells id 0 F c) t (0, 0)) := by
  simp [putRow, mapBlock, Array.getElem?_modify, hb, onCells]
theorem putCells_take {c F : Array Value} (h : F.size ≤ c.size) : (putCells id 0 F c).size = c.size ∧ (putCells id 0 F c).toList.take F.size = F.toList := by
  refine ⟨by simp [putCells], ?_⟩
  apply List.ext_getElem?
  intro j
  by_cases hj : j < F.size
  · rw [List.getElem?_take_of_lt hj, Array.getElem?_toList, Array.getElem?_toList]
    have hjc : j < c.size := by omega
    simp [putCells, Array.getElem?_mapIdx, Array.getElem?_eq_getElem hjc, hj]
  · rw [List.getElem?_eq_none (by simp; omega), List.getElem?_eq_none (by simp; omega)]
theorem grown_sort (w : World) (g n : Nat) (d : Array H32) (os : Array Obj) : w.grownBy (sortWorldK H32.cells 32 w g 0 n d os) (some g) := by
  refine ⟨rfl, rfl, rfl, ?_, fun k hk hne => ?_⟩
  · simp [sortWorldK, grow, putRowK, putRow, mapBlock, Sort.ahead]
  · have hne' : ¬ g = k := fun e => hne (by rw [e])
    simp only [sortWorldK, grow, putRowK, putRow, mapBlock, Sort.ahead]
    rw [Array.getElem?_append_left (by simpa using hk), Array.getElem?_modify, if_neg hne']
theorem sort_block {w : World} {g n : Nat} {c : Array Value} {t : TypeId} (d : Array H32) (os : Array Obj) (hb : w.heap[g]? = some (.cells c t (0, 0))) : (sortWorldK H32.cells 32 w g 0 n d os).heap[g]? = some (.cells (putCells id 0 (flatK H32.cells 32 d) c) t (0, 0)) := by
  have hg : g < w.heap.size := (Array.getElem?_eq_some_iff.1 hb).1
  have := putRow_block (w := Sort.ahead w n) hb (flatK H32.cells 32 d)
  simp only [sortWorldK, grow, putRowK]
  rw [Array.getElem?_append_left (by simpa using hg)]
  exact this
end Go.Proofs.YtfiiemjbbmdlnaaGreatDoor
end
section
namespace Go.Proofs.YtfiiemjbbmdlnaaGreatDoor
open Go.RowKit Go.KW Go.AS Go.Shelf Go.Sort
theorem perm_full {d d' : Array H32} (h : PermIn 0 d.size d d') : d'.size = d.size ∧ d'.toList.Perm d.toList := by
  obtain ⟨h1, _, h3⟩ := h
  refine ⟨h1, ?_⟩
  have e1 : d.extract 0 d.size = d := Array.extract_size
  have e2 : d'.extract 0 d.size = d' := by rw [← h1]; exact Array.extract_size
  rw [e1, e2] at h3
  exact h3
theorem nodup_next {d : Array H32} (h : d.toList.Nodup) (k : Nat) (hk : k + 1 < d.size) : d[k + 1]! ≠ d[k]! := by
  rw [getElem!_pos d (k + 1) hk, getElem!_pos d k (by omega)]
  intro e
  have hp := List.pairwise_iff_getElem.1 h k (k + 1) (by simp; omega) (by simpa using hk) (by omega)
  exact hp (by simpa using e.symm)
set_option maxRecDepth 100000 in
set_option maxHeartbeats 4000000 in
theorem sort155 (g cap : Nat) (d0 : Array H32) (w : World) (c : Array Value) (hb : w.heap[g]? = some (.cells c 44 (0, 0))) (hc : c.toList.take (flatK H32.cells 32 d0).size = (flatK H32.cells 32 d0).toList) (h12 : d0.size ≤ 12) (hnd : d0.toList.Nodup) :
    Calls Tryz.prog 155 #[.slice (some ⟨g, 0, none⟩) d0.size cap] w fun e w' => ∃ v d', e = .returned v ∧ d'.toList.Perm d0.toList ∧ SortedIn (ltOf H32.cmp) 0 d0.size d' ∧ w'.ownsRow w.heap.size 44 32 v d0.size (flatK H32.cells 32 d').toList ∧ v ≠ .slice none 0 0 ∧ Below w.heap.size w w' := by
  have hg : g < w.heap.size := (Array.getElem?_eq_some_iff.1 hb).1
  have hl : (flatK H32.cells 32 d0).toList.length = d0.size * 32 := by simp
  have hcell : ∀ j u, (flatK H32.cells 32 d0).toList[j]? = some u → w.cell? ((⟨g, 0, none⟩ : Addr).add j) = some u := fun j u hj => by
    have hjs : j < (flatK H32.cells 32 d0).size := by simpa using (List.getElem?_eq_some_iff.1 hj).1
    have h := (holds_of_row hb hc j hjs).1
    have e : (⟨g, 0, none⟩ : Addr).add j = ⟨g, 0 + j, none⟩ := by unfold Addr.add; split <;> simp_all
    rw [e, h]
    rw [Array.getElem?_toList, Array.getElem?_eq_getElem hjs] at hj
    rw [getElem!_pos _ j hjs]
    exact hj
  have hone : ∀ u ∈ (flatK H32.cells 32 d0).toList, u.oneCell' = true := fun u hu => by
    obtain ⟨j, hj⟩ := List.getElem?_of_mem hu
    have hjs : j < (flatK H32.cells 32 d0).size := by simpa using (List.getElem?_eq_some_iff.1 hj).1
    have hj2 : j < d0.size * 32 := by simpa using hjs
    rw [Array.getElem?_toList, Array.getElem?_eq_getElem hjs] at hj
    have e2 := get_flatK H32.cells 32 d0 j hj2
    rw [getElem!_pos _ j hjs, Option.some.inj hj] at e2
    have hm : j % 32 < (H32.cells d0[j / 32]!).length := by rw [cells_len]; exact Nat.mod_lt _ (by decide)
    rw [getElem!_pos (H32.cells d0[j / 32]!) (j % 32) hm] at e2
    rw [e2]
    exact cells_one _ _ (List.getElem_mem hm)
  have hcl := clone152 g cap d0.size _ w (by omega) hl hcell hone hg
  clear hcell hone
  go_enter Tryz.func155, Tryz.ntmps155
  go_wp2_with (first
    | (go_at_call 152; refine hcl.mono ?_; rintro e w1 ⟨v1, rfl, ⟨hl1, (⟨e1, _⟩ | ⟨g1, cap1, cur1, rfl, hg1, hh1, hn1, hcap1, hsz1, htk1⟩)⟩, hne1, hb1⟩
       · exact absurd e1 hne1
       have hH1 : HoldsK H32.cells 32 w1 g1 0 d0 := holds_of_row hh1 (by rw [size_flatK]; exact htk1)
       have hlt1 : g1 < w1.heap.size := (Array.getElem?_eq_some_iff.1 hh1).1
       have hso := sort228 g1 0 cap1 d0 w1 hH1 hlt1 h12)
    | (go_at_call 228; refine hso.mono ?_; rintro e w2 ⟨rfl, d2, n2, os2, hP, hS, hw2⟩
       obtain ⟨hs2, hp2⟩ := perm_full hP
       have hH2 : HoldsK H32.cells 32 w2 g1 0 d2 := by rw [hw2]; exact holdsK_sortWorldK_c H32.cells 32 w1 g1 0 d0 d2 n2 os2 hH1 hlt1 hs2
       have hco := compact231 g1 0 cap1 d2 w2 hH2 (by omega) (nodup_next ((List.Perm.nodup_iff hp2).2 hnd))
       rw [hs2] at hco
       have HW2 : Hid (w2 = sortWorldK H32.cells 32 w1 g1 0 n2 d2 os2) := hw2
       clear hw2)
    | (go_at_call 231; refine hco.mono ?_; rintro e w3 ⟨rfl, q3, rfl⟩))
  go_ret
  have hw2 : w2.drewN q3 = sortWorldK H32.cells 32 w1 g1 0 (n2 + q3) d2 os2 := by
    have := sortWorldK_grown_c H32.cells 32 w1 g1 0 n2 q3 d2 os2 #[]
    rw [grow_empty, Array.append_empty] at this
    rw [HW2.out, this]
  have hg2 : w1.grownBy (w2.drewN q3) (some g1) := by rw [hw2]; exact grown_sort w1 g1 (n2 + q3) d2 os2
  have hk2 : (w2.drewN q3).heap[g1]? = some (.cells (putCells id 0 (flatK H32.cells 32 d2) cur1) 44 (0, 0)) := by rw [hw2]; exact sort_block d2 os2 hh1
  have hsz : (flatK H32.cells 32 d2).size = d0.size * 32 := by rw [size_flatK, hs2]
  obtain ⟨p1, p2⟩ := putCells_take (c := cur1) (F := flatK H32.cells 32 d2) (by rw [hsz, hsz1]; omega)
  exact ⟨_, d2, rfl, hp2, hS, ⟨by rw [Array.length_toList, hsz], .inr ⟨g1, cap1, _, rfl, hg1, hk2, hn1, hcap1, by rw [p1, hsz1], by rw [← hsz]; exact p2⟩⟩, by simp, hb1.grown hg2 hb1.size (fun k e => by cases e; exact hg1)⟩
end Go.Proofs.YtfiiemjbbmdlnaaGreatDoor
end
section
namespace Go.Proofs.YtfiiemjbbmdlnaaGreatDoor
open Go.RowKit Go.KW Go.AS Go.Shelf Go.Sort
def H32.K (x : H32) : K32 := ⟨x.cells.toArray, by simp [cells_len], by
  rw [Array.all_eq_true_iff_forall_mem]
  exact fun v hv => cells_one x v (by simpa using hv)⟩
theorem perm_lift {β γ : Type} (f : β → γ) : ∀ (l : List γ) (m : List β), l.Perm (m.map f) → ∃ m' : List β, m'.Perm m ∧ l = m'.map f
  | [], m, h => by
    have := h.symm.eq_nil
    exact ⟨[], by rw [List.map_eq_nil_iff.1 this], rfl⟩
  | a :: l, m, h => by
    have ha : a ∈ m.map f := h.subset (List.mem_cons_self ..)
    obtain ⟨x, hx, rfl⟩ := List.mem_map.1 ha
    obtain ⟨s, t, rfl⟩ := List.append_of_mem hx
    have h2 : (f x :: l).Perm (f x :: (s ++ t).map f) := h.trans (by simp only [List.map_append, List.map_cons]; exact List.perm_middle)
    obtain ⟨m', h3, rfl⟩ := perm_lift f l (s ++ t) (List.Perm.cons_inv h2)
    exact ⟨x :: m', (h3.cons x).trans List.perm_middle.symm, rfl⟩
theorem enc_inj {x y : K32} (h : x.enc = y.enc) : x = y := Subtype.ext (Value.agg.inj h)
theorem fm_get : ∀ (l : List H32) (t : Nat), t < l.length * 32 → (l.flatMap H32.cells)[t]? = some ((H32.cells (l.toArray[t / 32]!))[t % 32]!)
  | [], t, h => by simp at h
  | x :: l, t, h => by
    rw [List.flatMap_cons]
    by_cases ht : t < 32
    · rw [List.getElem?_append_left (by rw [cells_len]; exact ht), Nat.div_eq_of_lt ht, Nat.mod_eq_of_lt ht]
      have hx : t < x.cells.length := by rw [cells_len]; exact ht
      rw [List.getElem?_eq_getElem hx]
      simp [hx]
    · obtain ⟨u, rfl⟩ : ∃ u, t = u + 32 := ⟨t - 32, by omega⟩
      rw [List.getElem?_append_right (by rw [cells_len]; omega), cells_len, Nat.add_sub_cancel, fm_get l u (by simp at h; omega), Nat.add_div_right _ (by decide), Nat.add_mod_right]
      simp
theorem flat_K (l : List H32) : flat (l.map H32.K) = (flatK H32.cells 32 l.toArray).toList := by
  have e : flat (l.map H32.K) = l.flatMap H32.cells := by
    unfold flat
    rw [List.flatMap_map]
    rfl
  rw [e]
  apply List.ext_getElem?
  intro t
  by_cases ht : t < l.length * 32
  · rw [fm_get l t ht, Array.getElem?_toList]
    have hs : t < (flatK H32.cells 32 l.toArray).size := by simpa using ht
    rw [Array.getElem?_eq_getElem hs, ← getElem!_pos _ t hs, get_flatK _ _ _ t (by simpa using ht)]
  · rw [List.getElem?_eq_none, List.getElem?_eq_none]
    · simp; omega
    · rw [← e, flat_length]; simp; omega
end Go.Proofs.YtfiiemjbbmdlnaaGreatDoor
end
section
namespace Go.Proofs.YtfiiemjbbmdlnaaGreatDoor
open Go.RowKit Go.KW Go.AS Go.Shelf Go.Sort
theorem collectH (b clock : Nat) (es : Array MapEntry) (hs : List H32) (w : World) (hb : w.heap[b]? = some (.map es clock))
    (hk : es.toList.map (·.key) = hs.map fun x => x.K.enc) (hold : ∀ x ∈ es.toList, x.born < clock) (hbn : (es.toList.map (·.born)).Nodup) (h0 : 0 < hs.length) (h12 : hs.length ≤ 12) :
    Calls Tryz.prog 156 #[.func (.func 233) #[] #[.pointer (some ⟨w.heap.size, 0, none⟩)]] (w.alloc (.cells #[.map (some b)] 178)) fun e w' =>
      ∃ (hs2 : List H32) (g1 cap1 : Nat) (cur1 : Array Value), e = .returned (.slice (some ⟨g1, 0, none⟩) hs2.toArray.size cap1) ∧ hs2.Perm hs ∧ w.heap.size ≤ g1 ∧ w'.heap[g1]? = some (.cells cur1 44 (0, 0)) ∧
        cur1.toList.take (flatK H32.cells 32 hs2.toArray).size = (flatK H32.cells 32 hs2.toArray).toList ∧ Below w.heap.size w w' := by
  have hlen : es.size = hs.length := by have := congrArg List.length hk; simpa using this
  have hk32 : ∀ e ∈ es.toList, ∃ x : K32, e.key = x.enc := fun e he => by
    have : e.key ∈ hs.map fun x => x.K.enc := by rw [← hk]; exact List.mem_map.2 ⟨e, he, rfl⟩
    obtain ⟨x, _, hx⟩ := List.mem_map.1 this
    exact ⟨x.K, hx.symm⟩
  refine (collect156 b clock es w hk32 hold hbn hb (by omega)).mono ?_
  rintro e w2 ⟨v2, rfl, ss, hS, hown, _, hb2⟩
  rw [hk] at hS
  obtain ⟨hs2, hp2, hm⟩ := perm_lift (fun x : H32 => x.K.enc) _ _ hS
  have hss : ss = hs2.map H32.K := by
    refine List.map_inj_right (f := K32.enc) (fun _ _ h => enc_inj h) |>.1 ?_
    rw [hm, List.map_map]
    rfl
  subst hss
  have hl2 := hp2.length_eq
  rw [flat_K] at hown
  obtain ⟨hl3, h⟩ := hown
  rcases h with ⟨_, e2⟩ | ⟨g1, cap1, cur1, rfl, hg1, hh1, hn1, hcap1, hsz1, htk1⟩
  · rw [List.length_map] at e2
    omega
  · refine ⟨hs2, g1, cap1, cur1, by simp, hp2, Nat.le_trans (by simp) hg1, hh1, by rw [size_flatK]; simpa using htk1, ((Below.refl w.heap.size w).alloc (Nat.le_refl _) _).trans (hb2.mono (by simp))⟩
def AfterSort (hs : List H32) (w : World) (v : Value) (w' : World) : Prop :=
  ∃ d' : Array H32, d'.toList.Perm hs ∧ SortedIn (ltOf H32.cmp) 0 hs.length d' ∧ w'.ownsRow w.heap.size 44 32 v hs.length (flatK H32.cells 32 d').toList ∧ v ≠ .slice none 0 0 ∧ Below w.heap.size w w'
def AfterCollect (hs : List H32) (w : World) (v : Value) (w' : World) : Prop :=
  ∃ (hs2 : List H32) (g1 cap1 : Nat) (cur1 : Array Value), v = .slice (some ⟨g1, 0, none⟩) hs2.toArray.size cap1 ∧ hs2.Perm hs ∧ w.heap.size ≤ g1 ∧ w'.heap[g1]? = some (.cells cur1 44 (0, 0)) ∧
        cur1.toList.take (flatK H32.cells 32 hs2.toArray).size = (flatK H32.cells 32 hs2.toArray).toList ∧ Below w.heap.size w w'
theorem sort_after (hs : List H32) (w : World) (v : Value) (w2 : World) (hnd : hs.Nodup) (h12 : hs.length ≤ 12) (h : AfterCollect hs w v w2) : Calls Tryz.prog 155 #[v] w2 fun e w' => ∃ u, e = .returned u ∧ AfterSort hs w u w' := by
  obtain ⟨hs2, g1, cap1, cur1, rfl, hp2, hg1, hh1, htk1, hb2⟩ := h
  have hl2 := hp2.length_eq
  have hz : hs2.toArray.size = hs.length := by rw [List.size_toArray, hl2]
  refine (sort155 g1 cap1 hs2.toArray w2 cur1 hh1 htk1 (by omega) ((List.Perm.nodup_iff hp2).2 hnd)).mono ?_
  rintro e w3 ⟨v3, d3, rfl, hp3, hS3, hown3, hne3, hb3⟩
  rw [hz] at hS3 hown3
  exact ⟨v3, rfl, d3, hp3.trans hp2, hS3, ⟨hown3.1, hown3.2.imp id fun ⟨g, c, cu, a1, a2, a3⟩ => ⟨g, c, cu, a1, Nat.le_trans hb2.size a2, a3⟩⟩, hne3, hb2.trans (hb3.mono hb2.size)⟩
set_option maxRecDepth 100000 in
set_option maxHeartbeats 4000000 in
theorem hashes100 (gb go b clock : Nat) (es : Array MapEntry) (hs : List H32) (w : World) (hgb : w.cell? ⟨gb, go, none⟩ = some (.map (some b))) (hb : w.heap[b]? = some (.map es clock))
    (hk : es.toList.map (·.key) = hs.map fun x => x.K.enc) (hold : ∀ x ∈ es.toList, x.born < clock) (hbn : (es.toList.map (·.born)).Nodup) (hnd : hs.Nodup) (h0 : 0 < hs.length) (h12 : hs.length ≤ 12) :
    Calls Tryz.prog 100 #[.pointer (some ⟨gb, go, none⟩)] w fun e w' => ∃ v, e = .returned v ∧ AfterSort hs w v w' := by
  have c157 := callsIn_wide.1 (keys157 Fence.wide 5 trivial rfl (some b) w)
  have c156 : Calls Tryz.prog 156 #[.func (.func 233) #[] #[.pointer (some ⟨w.heap.size, 0, none⟩)]] (w.alloc (.cells #[.map (some b)] 178)) fun e w' => ∃ v, e = .returned v ∧ AfterCollect hs w v w' :=
    (collectH b clock es hs w hb hk hold hbn h0 h12).mono fun _ _ ⟨hs2, g1, cap1, cur1, e1, r⟩ => ⟨_, e1, hs2, g1, cap1, cur1, rfl, r⟩
  have c155 := sort_after hs w
  clear hk hold hbn hb
  have HN : Hid hs.Nodup := hnd
  have HL : Hid (hs.length ≤ 12) := h12
  clear hnd h12 h0
  go_enter Tryz.func100, Tryz.ntmps100
  go_wp2_with (first
    | (go_at_call 157; refine c157.mono ?_; rintro e w1 ⟨rfl, rfl⟩)
    | (go_at_call 156; refine c156.mono ?_; rintro e w2 ⟨v2, rfl, hA⟩
       have hso := c155 v2 w2 HN.out HL.out hA
       clear c155 hA)
    | (go_at_call 155; refine hso.mono ?_; rintro e w3 ⟨v3, rfl, hA3⟩))
  go_ret
  exact ⟨v3, rfl, hA3⟩
end Go.Proofs.YtfiiemjbbmdlnaaGreatDoor
end
section
namespace Go.Proofs.YtfiiemjbbmdlnaaGreatDoor
open Go.RowKit Go.KW Go.AS Go.Shelf Go.Sort
theorem flat_cells (l : List H32) : l.flatMap H32.cells = (flatK H32.cells 32 l.toArray).toList := by
  rw [← flat_K]
  unfold flat
  rw [List.flatMap_map]
  rfl
theorem hash_list : ∀ ls : List (List UInt8), (∀ l ∈ ls, l.length = 32) → ∃ hs : List H32, hs.map (·.1) = ls
  | [], _ => ⟨[], rfl⟩
  | l :: r, h => by
    obtain ⟨hs, e⟩ := hash_list r fun x hx => h x (List.mem_cons_of_mem _ hx)
    exact ⟨⟨l, h l (List.mem_cons_self ..)⟩ :: hs, congrArg (l :: ·) e⟩
theorem hashOk : HashOk Tryz.prog 100 44 := fun gb go b clock es ls w h1 h2 h3 h4 h5 h6 h7 h8 h9 => by
  obtain ⟨hs, rfl⟩ := hash_list ls h4
  have hnd : hs.Nodup := List.Pairwise.of_map (·.1) (fun a b hab e => hab (by rw [e])) h7
  rw [List.length_map] at h8 h9
  rw [List.length_map]
  refine (hashes100 gb go b clock es hs w h1 h2 (by rw [h3, List.map_map]; rfl) h5 h6 hnd h8 h9).mono ?_
  rintro e w' ⟨v, rfl, d, hp, hS, hown, hne, hb⟩
  refine ⟨v, d.toList.map (·.1), rfl, hp.map _, ?_, ?_, hne, hb⟩
  · rw [List.pairwise_map, List.pairwise_iff_getElem]
    intro i j hi hj hij
    have hjs : j < d.size := by simpa using hj
    have hl : d.size = hs.length := by have := hp.length_eq; simpa using this
    have := hS i j (Nat.zero_le _) hij (by omega)
    rw [getElem!_pos d j hjs, getElem!_pos d i (by omega)] at this
    simp only [ltOf, cmp_cb, decide_eq_false_iff_not, Int.not_lt] at this
    simpa using this
  · have e1 : (d.toList.map (·.1)).flatMap (fun l => l.map bV) = (flatK H32.cells 32 d).toList := by
      rw [List.flatMap_map]
      have := flat_cells d.toList
      rw [Array.toArray_toList] at this
      exact this
    rw [e1]
    exact hown
end Go.Proofs.YtfiiemjbbmdlnaaGreatDoor
end
