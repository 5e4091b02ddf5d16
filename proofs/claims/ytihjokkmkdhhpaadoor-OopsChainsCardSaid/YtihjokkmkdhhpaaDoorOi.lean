/- The law's layers, read from what is handed in; the library's table. -/
import Derived.Test.YtihjokkmkdhhpaaDoorOh
import Derived.Test.YtihjokkmkdhhpaaDoorOf
import Derived.SizedLaws
import Derived.Deep.DeepHandedRow
import Derived.Test.YtihjokkmkdhhpaaDoorOa
import Derived.Deep.Slices
section
namespace Go.Proofs.YtihjokkmkdhhpaaDoor
open Go.AS Go.ChangeShapes Go.WideShapes
noncomputable section
variable {H : Type} {enc : TypeId × Value → H} {W : World} {spare : Nat → Bool} {held : Bool}
def Lay.dat (H : Type) (x : Lay) : DataW H := .agg [.lit (.int .i64 x.w), .lit (.int .i64 x.n), .lit (.string x.s.data.toList)]
attribute [local irreducible] fs61
instance : Inhabited Lay := ⟨⟨0, 0, ⟨#[]⟩⟩⟩
theorem three {α : Type} : ∀ {l : List α}, l.length = 3 → ∃ a b c, l = [a, b, c]
  | [a, b, c], _ => ⟨a, b, c, rfl⟩
theorem c61 : Tryd.prog.cellsOf 61 = 3 := by kernel_rfl
theorem c3 : Tryd.prog.cellsOf 3 = 1 := by kernel_rfl
theorem c9 : Tryd.prog.cellsOf 9 = 1 := by kernel_rfl
theorem u3 : Tryd.prog.underlying 3 = some (.int .i64) := by kernel_rfl
theorem u9 : Tryd.prog.underlying 9 = some .string := by kernel_rfl
theorem fs61_eq : ∃ f0 f1 f2 : Field, fs61 = #[f0, f1, f2] ∧ f0.type = 3 ∧ f0.offset = 0 ∧ f1.type = 3 ∧ f1.offset = 1 ∧ f2.type = 9 ∧ f2.offset = 2 := by
  have key : ∀ a : Array Field, a.toList.map (fun f => (f.type, f.offset)) = [(3, 0), (3, 1), (9, 2)] → ∃ f0 f1 f2 : Field, a = #[f0, f1, f2] ∧ f0.type = 3 ∧ f0.offset = 0 ∧ f1.type = 3 ∧ f1.offset = 1 ∧ f2.type = 9 ∧ f2.offset = 2 := by
    rintro ⟨l⟩ h
    obtain ⟨f0, f1, f2, rfl⟩ := three (show l.length = 3 by have := congrArg List.length h; simpa using this)
    simp only [List.map_cons, List.map_nil, List.cons.injEq, Prod.mk.injEq, and_true] at h
    obtain ⟨⟨h1, h2⟩, ⟨h3, h4⟩, h5, h6⟩ := h
    exact ⟨f0, f1, f2, rfl, h1, h2, h3, h4, h5, h6⟩
  exact key fs61 f61
theorem lay_read {n : Nat} {cs : List Value} {x : DataW H × List MemPlace} (h : DataW.trod enc Tryd.prog W 0 spare held n 61 cs = some x) : ∃ l : Lay, cs = l.cells ∧ x.1 = l.dat H := by
  obtain ⟨xs, k, rfl, rfl, hl, hxl, hf⟩ := DataW.trod_struct u61 h
  obtain ⟨f0, f1, f2, he, t0, o0, t1, o1, t2, o2⟩ := fs61_eq
  rw [he] at hf hxl
  rw [c61] at hl
  obtain ⟨v0, v1, v2, rfl⟩ := three hl
  obtain ⟨y0, y1, y2, rfl⟩ := three (show xs.length = 3 from hxl)
  have g0 := hf 0 f0 rfl
  have g1 := hf 1 f1 rfl
  have g2 := hf 2 f2 rfl
  simp [o0, o1, o2, t0, t1, t2, c3, c9] at g0 g1 g2
  obtain ⟨w, e0, rfl, _⟩ := DataW.trod_int u3 g0
  obtain ⟨m, e1, rfl, _⟩ := DataW.trod_int u3 g1
  obtain ⟨s, e2, rfl, _⟩ := DataW.trod_string u9 g2
  cases e0; cases e1; cases e2
  exact ⟨⟨w, m, s⟩, rfl, rfl⟩
theorem open_lays {n : Nat} {cs : List Value} {x : DataW H × List MemPlace} (h : DataW.trod enc Tryd.prog W 0 spare held n 59 cs = some x) :
    (cs = [.slice none 0 0] ∧ x.1 = .nil) ∨ ∃ (a : Addr) (len cap : Nat) (q : Nat → Lay) (rest : List (DataW H)), cs = [.slice (some a) len cap] ∧ len ≤ cap ∧ x.1 = .slice ((List.range len).map fun i => (q i).dat H) rest ∧
      ∀ i, i < len → W.cell? (a.add (i * 3)) = some (.int .i64 (q i).w) ∧ W.cell? (a.add (i * 3 + 1)) = some (.int .i64 (q i).n) ∧ W.cell? (a.add (i * 3 + 2)) = some (.string (q i).s) := by
  rcases Go.Deep.open_slice u59 h with ⟨rfl, rfl⟩ | ⟨a, len, cap, m, k, D, Pl, rfl, hb, hl, hm, hmm, rfl, hx⟩
  · exact .inl ⟨rfl, rfl⟩
  right
  have hlm : len ≤ m := by rw [hmm]; split <;> omega
  have each : ∀ i, i < len → ∃ l : Lay, D i = l.dat H ∧ W.cell? (a.add (i * 3)) = some (.int .i64 l.w) ∧ W.cell? (a.add (i * 3 + 1)) = some (.int .i64 l.n) ∧ W.cell? (a.add (i * 3 + 2)) = some (.string l.s) := by
    intro i hi
    obtain ⟨cs', h1, h2⟩ := hx i (by omega)
    rw [c61] at h1
    obtain ⟨_, hlen, hcell⟩ := World.cells?_some h1
    obtain ⟨l, rfl, hd⟩ := lay_read h2
    have e0 := hcell 0 (by omega)
    have e1 := hcell 1 (by omega)
    have e2 := hcell 2 (by omega)
    rw [Go.Deep.add_add] at e0 e1 e2
    exact ⟨l, hd, e0, e1, e2⟩
  obtain ⟨q, hq⟩ := Go.Deep.choose_lt each
  exact ⟨a, len, cap, q, _, rfl, hl, by show DataW.slice _ _ = _; rw [List.map_congr_left (fun i hi => (hq i (List.mem_range.1 hi)).1)], fun i hi => (hq i hi).2⟩
theorem dat_weights (x : Lay) : (x.dat H).weights Tryd.prog 61 = [x.s.data.toList.length] := by
  obtain ⟨f0, f1, f2, he, t0, _, t1, _, t2, _⟩ := fs61_eq
  unfold Lay.dat
  rw [DataW.weights, u61]
  show DataW.weightsEach Tryd.prog (fs61.toList.map (·.type)) _ = _
  rw [he]
  show DataW.weightsEach Tryd.prog [f0.type, f1.type, f2.type] _ = _
  rfl
theorem mem_all {P : Program} {e : TypeId} {n : Nat} {d : DataW H} : ∀ {l : List (DataW H)}, d ∈ l → n ∈ d.weights P e → n ∈ DataW.weightsAll P e l
  | d' :: l, hd, hn => by
    rw [DataW.weightsAll]
    rcases List.mem_cons.1 hd with rfl | hd
    · exact List.mem_append_left _ hn
    · exact List.mem_append_right _ (mem_all hd hn)
theorem read_lays {n : Nat} {v : Value} {d : DataW H} {p : List MemPlace} (h : DataW.trod enc Tryd.prog W 0 spare held n 59 [v] = some (d, p)) {ts : List TypeId} {ds : List (DataW H)} {j : Nat} (ht : ts[j]? = some 59) (hd : ds[j]? = some d)
    (hw : (DataW.weightsEach Tryd.prog ts ds).all (· ≤ reachBytes) = true) : ∃ ls : List Lay, VR ⟨fun _ => none, fun b => W.heap[b]?⟩ (.lst false 3 (ls.map Lay.av)) v ∧ ∀ x ∈ ls, x.small := by
  rcases open_lays h with ⟨e, _⟩ | ⟨a, len, cap, q, rest, e, hl, hx, hc⟩
  · cases e
    exact ⟨[], .lstE 3 none (fun h => by cases h), fun x hx => by cases hx⟩
  · cases e
    refine ⟨(List.range len).map q, ?_, ?_⟩
    · cases len with
      | zero => exact .lstE 3 _ (fun h => by cases h)
      | succ k =>
        have h0 := (hc 0 (by omega)).1
        obtain ⟨b, off, spot⟩ := a
        have hcell : ∃ (c : Array Value) (t : TypeId) (fz : Nat × Nat), W.heap[b]? = some (.cells c t fz) ∧ spot = none := by
          unfold World.cell? at h0
          show ∃ (c : Array Value) (t : TypeId) (fz : Nat × Nat), W.heap[b]? = some (.cells c t fz) ∧ spot = none
          cases hh : W.heap[b]? with
          | none => simp [Addr.add, hh] at h0
          | some o =>
            cases o with
            | cells c t fz =>
              cases spot with
              | none => exact ⟨c, t, fz, rfl, rfl⟩
              | some s => simp [Addr.add, hh] at h0
            | _ => simp [Addr.add, hh] at h0
        obtain ⟨c, t, fz, hh, rfl⟩ := hcell
        have hq : ∀ i, i < k + 1 → c.toList[off + i * 3]? = some (.int .i64 (q i).w) ∧ c.toList[off + i * 3 + 1]? = some (.int .i64 (q i).n) ∧ c.toList[off + i * 3 + 2]? = some (.string (q i).s) := fun i hi => by
          have := hc i hi
          rw [add_plain, add_plain, add_plain] at this
          simp only [World.cell?, hh] at this
          simpa [Nat.add_assoc] using this
        exact .lst hh (av_cs _) (drop_cells q (k + 1) hq) (fun x hx => by obtain ⟨y, _, rfl⟩ := List.mem_map.1 hx; rfl) (by simp) hl (fun h => by cases h) (fun u hu => by
          obtain ⟨y, _, hy⟩ := List.mem_flatMap.1 hu
          simp only [Lay.cells, List.mem_cons, List.not_mem_nil, or_false] at hy
          rcases hy with rfl | rfl | rfl <;> rfl)
    · intro x hx'
      obtain ⟨i, hi, rfl⟩ := List.mem_map.1 hx'
      have hx : d = _ := hx
      have hm : (q i).s.data.toList.length ∈ DataW.weightsEach Tryd.prog ts ds := by
        refine DataW.weights_mem_each ht hd _ ?_
        rw [hx, DataW.weights, u59]
        refine List.mem_cons_of_mem _ (List.mem_append_left _ (mem_all (d := (q i).dat H) (List.mem_map.2 ⟨i, hi, rfl⟩) ?_))
        rw [dat_weights]
        exact List.mem_cons_self ..
      have := of_decide_eq_true (List.all_eq_true.1 hw _ hm)
      have e : reachBytes = 140737488351232 := rfl
      show (q i).s.size ≤ 140737488355328
      have hs : (q i).s.size = (q i).s.data.toList.length := rfl
      omega
end
end Go.Proofs.YtihjokkmkdhhpaaDoor
end
section
namespace Go.Proofs.YtihjokkmkdhhpaaDoor
open Go.AS
noncomputable section
noncomputable def zero1 : Array Value := match (((begin Tryd.prog (fun _ _ => 0) default).world.heap[1]?).bind Obj.row?) with
  | some x => x.1
  | none => #[]
theorem row1 : (((begin Tryd.prog (fun _ _ => 0) default).world.heap[1]?).bind Obj.row?) = some (zero1, 131) := by kernel_rfl
theorem size1 : zero1.size = 20 := by kernel_rfl
theorem build1 : Tryd.prog.buildable 131 = true := by kernel_rfl
theorem types1 : Tryd.prog.cellTypes Tryd.prog.depth 131 = some (List.replicate 20 123) := by kernel_rfl
theorem u123 : Tryd.prog.underlying 123 = some (.int .u64) := by kernel_rfl
theorem gsz : 1 < Tryd.prog.globals.size := of_decide_eq_true (by kernel_rfl)
theorem list_range {α : Type} {f : Nat → α} {l : List α} {n : Nat} (hl : l.length = n) (h : ∀ i, i < n → l[i]? = some (f i)) : l = (List.range n).map f := by
  apply List.ext_getElem?
  intro i
  by_cases hi : i < n
  · rw [h i hi, List.getElem?_map, List.getElem?_range hi]; rfl
  · rw [List.getElem?_eq_none (by omega), List.getElem?_eq_none (by simp; omega)]
/-- A package-level row of numbers. -/
theorem row_ints {P : Program} {W : World} {g t u n : Nat} {k : IntKind} {zero : Array Value} (h : W.ShapedOpen P) (hg : g < P.globals.size) (hrow : (((begin P (fun _ _ => 0) default).world.heap[g]?).bind Obj.row?) = some (zero, t)) (hz : zero.size = n)
    (hb : P.buildable t = true) (ht : P.cellTypes P.depth t = some (List.replicate n u)) (hu : P.underlying u = some (.int k)) :
    ∃ (c : Nat → Int) (cs : Array Value), W.heap[g]? = some (.cells cs t) ∧ cs.toList = (List.range n).map fun i => Value.int k (c i) := by
  obtain ⟨cs, hh, hs, hr⟩ := h.1 g zero t hg hrow
  obtain ⟨ts, hts, _, hall⟩ := hr hb
  rw [ht] at hts
  cases hts
  rw [hz] at hs
  have each : ∀ i, i < n → ∃ m : Int, cs.toList[i]? = some (.int k m) := by
    intro i hi
    obtain ⟨v, hv⟩ : ∃ v, cs[i]? = some v := ⟨cs[i], by simp [hs, hi]⟩
    obtain ⟨u, hu', hok⟩ := hall i v hv
    rw [List.length_replicate, Nat.mod_eq_of_lt hi, List.getElem?_replicate, if_pos hi] at hu'
    cases hu'
    unfold Cell.ok at hok
    rw [hu] at hok
    cases v <;> simp at hok
    case int k' m => exact ⟨m, by rw [Array.getElem?_toList, hv, hok.1]⟩
  obtain ⟨c, hc⟩ := Go.Deep.choose_lt each
  exact ⟨c, cs, hh, list_range (f := fun i => Value.int k (c i)) (by simpa using hs) hc⟩
theorem tab_ref {m : Nat → Option Obj} {g : Nat} {cs : Array Value} {t : TypeId} {fz : Nat × Nat} {c : Nat → Int} (hh : m g = some (.cells cs t fz)) (e : cs.toList = (List.range 20).map fun i => Value.int .u64 (c i)) :
    VR ⟨fun _ => none, m⟩ (.ref (.lit (.agg (tab c)))) (.pointer (some ⟨g, 0, none⟩)) :=
  .ref (rest := []) hh (.ccons (.lit _) .cnil) (by rw [List.drop_zero, e]; simp [tab, Value.cells])
theorem table {W : World} (h : W.ShapedOpen Tryd.prog) : ∃ c : Nat → Int, VR ⟨fun _ => none, fun b => W.heap[b]?⟩ (.ref (.lit (.agg (tab c)))) (.pointer (some ⟨1, 0, none⟩)) :=
  (row_ints h gsz row1 size1 build1 types1 u123).elim fun c h => ⟨c, h.elim fun _ h => tab_ref h.1 h.2⟩
end
end Go.Proofs.YtihjokkmkdhhpaaDoor
end
section
namespace Go.Proofs.YtihjokkmkdhhpaaDoor
open Go.AS
noncomputable section
attribute [local irreducible] lawW runF runL
theorem globals5 {W : World} {c : Nat → Int} {t : TypeId} {fz : Nat × Nat} (h0 : W.heap[0]? = some (.cells #[.iface 90 (.agg #[.pointer (some ⟨4, 25, none⟩)])] t fz))
    (h1 : VR ⟨fun _ => none, fun b => W.heap[b]?⟩ (.ref (.lit (.agg (tab c)))) (.pointer (some ⟨1, 0, none⟩))) : ∀ g x, gl1 c g = some x → VR ⟨fun _ => none, fun b => W.heap[b]?⟩ x (.pointer (some ⟨g, 0, none⟩)) := fun g x hx => by
  have hx : bsel (Nat.beq g 0) (some (.ref (.lit (.iface 90 (.agg #[.pointer (some ⟨4, 25, none⟩)]))))) (bsel (Nat.beq g 1) (some (.ref (.lit (.agg (tab c))))) none) = some x := hx
  cases hb : Nat.beq g 0
  · rw [hb, bsel_false] at hx
    cases hb1 : Nat.beq g 1
    · rw [hb1, bsel_false] at hx; cases hx
    · rw [hb1, bsel_true] at hx; cases hx
      obtain rfl := Nat.eq_of_beq_eq_true hb1
      exact h1
  · rw [hb, bsel_true] at hx; cases hx
    obtain rfl := Nat.eq_of_beq_eq_true hb
    exact handle_ref h0
theorem calls5 {W : World} {t : TypeId} {fz : Nat × Nat} (h0 : W.heap[0]? = some (.cells #[.iface 90 (.agg #[.pointer (some ⟨4, 25, none⟩)])] t fz)) (hsh : W.ShapedOpen Tryd.prog) (kd other : Int) (ls : List Lay) (hsm : ∀ x ∈ ls, x.small)
    {vals : List Value} (hv : RR ⟨fun _ => none, fun b => W.heap[b]?⟩ .vs [i0 kd, .lst false 3 (ls.map Lay.av), i0 other] vals) :
    Calls Tryd.prog 5 vals.toArray W fun e w' => e = .returned (.bool true) ∧ w'.os = W.os ∧ w'.tape = W.tape ∧ w'.output = W.output ∧ W.heap.size ≤ w'.heap.size ∧ ∀ b, b < W.heap.size → w'.heap[b]? = W.heap[b]? := by
  obtain ⟨c, hc⟩ := table hsh
  obtain ⟨X, os, ok, h⟩ := law_walk c kd other ls hsm
  have hP : X.px.P = Tryd.prog := by rw [ok.p]; rfl
  have hg : X.px.gl = gl1 c := by rw [ok.p]; rfl
  have := law_calls ok.s (f := 5) (fn := fn 5) (code := code 5) (by rw [hP]; exact s5) b5 (by kernel_rfl) h (m := fun b => W.heap[b]?) (w := W) (fun b o h => h) (by rw [hg]; exact globals5 h0 hc) hv
  rw [hP] at this
  exact this
end
end Go.Proofs.YtihjokkmkdhhpaaDoor
end
