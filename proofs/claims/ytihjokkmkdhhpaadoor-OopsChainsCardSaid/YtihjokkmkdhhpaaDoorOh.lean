/- What the first loop leaves; the contracts together. -/
import Derived.Test.YtihjokkmkdhhpaaDoorOf
import Derived.Test.YtihjokkmkdhhpaaDoorOg
import Derived.Deep.Slices
section
namespace Go.Proofs.YtihjokkmkdhhpaaDoor
open Go.AS
noncomputable section
attribute [local irreducible] runF runL
structure Inv (kk : Int) (s : Sta) : Prop where
  kind : s.e.kindOf = kk
  ys : s.ys = s.e.names
  at_ : (s.at_ = -1 ∧ s.e.placeV = (false, zN)) ∨ (0 ≤ s.at_ ∧ ∃ q : Er, s.e.placeV = (true, .ref (.agg [.lit (.int .i64 s.at_), q.enc])))
  hs : (s.hs = false ∧ s.e.whichV = (false, zN) ∧ s.a = 0 ∧ s.b = 0 ∧ s.c = 0 ∧ s.d = 0) ∨ (s.hs = true ∧ ∃ (p : Int) (q : Er), s.e.whichV = (true, .ref (.agg [.lit (.agg (hashV p)), q.enc])) ∧ s.a = hA p ∧ s.b = hB p ∧ s.c = hC p ∧ s.d = p)
  fine : s.e.fine
def Lay.small (x : Lay) : Prop := x.s.size ≤ 140737488355328
theorem Inv.next {kk : Int} {s : Sta} (h : Inv kk s) {x : Lay} (hx : x.small) : Inv kk (s.next x) := by
  unfold Sta.next
  split
  · exact ⟨h.kind, by show _ :: _ = Er.names (.step _ _); rw [h.ys]; rfl, h.at_, h.hs, hx, h.fine⟩
  · split
    · refine ⟨h.kind, h.ys, .inr ⟨?_, s.e, rfl⟩, h.hs, ⟨?_, ?_⟩, h.fine⟩
      · show 0 ≤ x.n % 1000; omega
      · show 0 ≤ x.n % 1000; omega
      · show x.n % 1000 < 1000; omega
    · exact ⟨h.kind, h.ys, h.at_, .inr ⟨rfl, x.n % 60, s.e, rfl, rfl, rfl, rfl, rfl⟩, h.fine⟩
theorem Inv.all {kk : Int} : ∀ (L : List Lay) (s : Sta), Inv kk s → (∀ x ∈ L, x.small) → Inv kk (s.all L)
  | [], _, h, _ => h
  | x :: L, s, h, hx => Inv.all L (s.next x) (h.next (hx x (List.mem_cons_self ..))) fun y hy => hx y (List.mem_cons_of_mem _ hy)
theorem next_deep (s : Sta) (x : Lay) : (s.next x).e.deep = s.e.deep + 1 := by
  unfold Sta.next
  split
  · rfl
  · split <;> rfl
theorem all_deep : ∀ (L : List Lay) (s : Sta), (s.all L).e.deep = s.e.deep + L.length
  | [], _ => rfl
  | x :: L, s => by
    rw [show s.all (x :: L) = (s.next x).all L from rfl, all_deep L (s.next x), next_deep, List.length_cons]; omega
theorem names_le : ∀ e : Er, e.names.length ≤ e.deep
  | .base _ => Nat.le_refl _
  | .step _ e => by simp only [Er.names, Er.deep, List.length_cons]; have := names_le e; omega
  | .place _ e => by simp only [Er.names, Er.deep]; have := names_le e; omega
  | .which _ e => by simp only [Er.names, Er.deep]; have := names_le e; omega
theorem names_strs : ∀ e : Er, ∃ ns : List ByteArray, e.names = ns.map sA
  | .base _ => ⟨[], rfl⟩
  | .step s e => by obtain ⟨ns, h⟩ := names_strs e; exact ⟨s :: ns, by simp only [Er.names, h, List.map_cons]⟩
  | .place _ e => names_strs e
  | .which _ e => names_strs e
theorem fok_wk {P : Program} {gl : Nat → Option AV} {f : FuncId} {xs : List AV} {x y : AV} (h : FOk P gl f xs .nil ⟨x, .nil, []⟩) (hw : Wk x y) : FOk P gl f xs .nil ⟨y, .nil, []⟩ := by
  intro E w vals hg hh hf hv
  refine (h E w vals hg hh hf hv).imp ?_
  rintro v w' ⟨os, r, E', rfl, h1, h2, h3, h4⟩
  exact ⟨os, _, E', rfl, ⟨fun l hl => rfl, fun l e he => ⟨e, he⟩⟩, hw.vr h2, h3, h4⟩
theorem up (c : Nat → Int) {f : FuncId} {xs : List AV} {r : AV} (h : FOk Tryd.prog X0.gl f xs .nil ⟨r, .nil, []⟩) : FC c f xs r := fok_mono (gl_le c) h
theorem blk_up (c : Nat → Int) {n : Nat} {x : Code} {ins : List Nat} {outs : Ex → List Nat} {ys : List AV} {σ : Hp} {K : Orc → Ex × Back → Prop} (h : BlkOk Tryd.prog X0.gl n x ins outs ys σ K) : BlkOk Tryd.prog (gl1 c) n x ins outs ys σ K :=
  fun E w a hg hh hf hfr => h E w a (fun g x hx => hg g x (gl_le c g x hx)) hh hf hfr
structure OkX (c : Nat → Int) (X : WX) : Prop where
  s : X.Sound
  p : X.px = XT c
theorem OkX.addU {c : Nat → Int} {X : WX} (h : OkX c X) {f : Nat} {xs : List AV} {r : AV} (hf : FC c f xs r) : OkX c (X.add f (Sp.con [spU xs r])) := ⟨h.s.add (Sp.one fun _ _ => by
  have hP : X.px.P = Tryd.prog := by rw [h.p]; rfl
  have hg : X.px.gl = gl1 c := by rw [h.p]; rfl
  rw [hP, hg]; exact hf), h.p⟩
theorem OkX.add {c : Nat → Int} {X : WX} (h : OkX c X) {f : Nat} {cc : Con} (hf : ConOk Tryd.prog (gl1 c) f cc) : OkX c (X.add f cc) := ⟨h.s.add (by
  have hP : X.px.P = Tryd.prog := by rw [h.p]; rfl
  have hg : X.px.gl = gl1 c := by rw [h.p]; rfl
  rw [hP, hg]; exact hf), h.p⟩
theorem s5 : Tryd.prog.funcs[5]? = some (fn 5) := fnOk 5 (by kernel_rfl)
theorem b5 : (fn 5).body = some (code 5) := by kernel_rfl
theorem o5 : loopsOnce (code 5) = true := by kernel_rfl
theorem OkX.addLp {c : Nat → Int} {X : WX} (h : OkX c X) {i : Nat} {L : Lp} (hL : LpOk Tryd.prog (gl1 c) (fn 5).ntmps (loopAt (code 5) i) L) : OkX c (X.addLp 5 i L) := by
  have hP : X.px.P = Tryd.prog := by rw [h.p]; rfl
  have hg : X.px.gl = gl1 c := by rw [h.p]; rfl
  exact ⟨h.s.addLp (by rw [hP]; exact s5) b5 o5 (by rw [hP, hg]; exact hL), h.p⟩
theorem OkX.ask {c : Nat → Int} {X : WX} (h : OkX c X) (fs : List Nat) : OkX c (X.ask fs) := ⟨h.s.ask fs, h.p⟩
theorem xf_ok (c : Nat → Int) (f : Nat) (e rv : AV) (kk : Int) (zs : List AV) (wn : Int) (wb : Bool) (a b c2 d : Int) (ub : Bool) (ha : Int) (r : ByteArray)
    (h12 : FC c 12 [] (b0 true)) (h20 : FC c 20 [e] (.lst false 1 zs)) (h18 : FC c 18 [e] (.tup [i0 wn, b0 wb])) (h19 : FC c 19 [e] (.tup [.agg (hG a b c2 d), b0 ub])) (h21 : FC c 21 [e] (i0 kk)) (h22 : ∀ o, FC c 22 [e, tB o] (b0 (kk == o)))
    (h23 : FC c 23 [e] (i0 kk)) (h24 : FC c 24 [e] (i0 ha)) (hf : FC c f [rv] (sV r)) : OkX c (XF c f e rv kk zs wn wb a b c2 d ub ha r) := by
  have h0 : OkX c (XC c) := ⟨XC_ok c, rfl⟩
  have h7 : ConOk Tryd.prog (gl1 c) 7 (Sp.con [spPick]) := fun xs σ al ha i hp => fok_mono (gl_le c) (pick_ok xs σ al ha i hp)
  have h22' : ConOk Tryd.prog (gl1 c) 22 (Sp.con [spIs e kk]) := Sp.one fun o _ => h22 o
  exact ((((((((((h0.add h7).addU h12).addU h20).addU h18).addU h19).addU h21).add h22').addU h23).addU h24).addU hf)
end
end Go.Proofs.YtihjokkmkdhhpaaDoor
end
section
namespace Go.Proofs.YtihjokkmkdhhpaaDoor
open Go.AS
noncomputable section
attribute [local irreducible] lawW runF
theorem g12_ok : ∃ os, g12 os := by
  refine ⟨_, (iff_of_eq g12_vc).2 ?_⟩
  repeat' first
    | exact rfl
    | exact .refl _
    | exact .rfl
    | refine And.intro ?_ ?_
theorem list_ne {r : ByteArray} (h : 0 < r.size) : (!r.toList == []) = true := by
  rw [Bool.not_eq_true', beq_eq_false_iff_ne]
  intro e
  have h2 : r.toList.length = r.size := by
    rw [ByteArray.toList_eq]; rfl
  rw [e] at h2; simp at h2; omega
theorem sym_eq (x y : Int) : ((x == y) == (y == x)) = true := by
  have h : (x == y) = (y == x) := by rw [Bool.eq_iff_iff, beq_iff_eq, beq_iff_eq]; exact eq_comm
  rw [h]; exact beq_self_eq_true _
set_option maxRecDepth 100000 in
theorem gAb_ok (c : Nat → Int) (kind : Int) (other : Int) (xs : List AV) (at_ : Int) (hs : Bool) (a : Int) (b : Int) (c2 : Int) (d : Int) (wn : Int) (wa : Int) (w2 : Int) (wc : Int) (wd : Int) (ha : Int) (r : ByteArray) (hr : 0 < r.size) (hk0 : 0 ≤ kind % 19) (hk1 : kind % 19 < 19) (ho0 : 0 ≤ other % 19) (ho1 : other % 19 < 19) (hha : ha = at_) (h1 : ¬ 0 ≤ at_) (h2 : hs = false) : ∃ os, gAb os c kind other xs at_ hs a b c2 d wn wa w2 wc wd ha r := by
  subst hha
  subst h2
  refine ⟨_, (iff_of_eq (gAb_vc _ _ _ _ _ _ _ _ _ _ _ _ _ _ _ _ _)).2 ?_⟩
  refine ⟨(kind, 19), ⟨⟨(by show (0 : Int) < 19; omega), (by show (19 : Int) ≤ 1000000; omega)⟩, .refl _, rfl⟩, inR_i64 (by show _ ≤ 1 + kind % 19; omega) (by show 1 + kind % 19 < _; omega), ?_⟩
  repeat' first
    | exact rfl
    | exact beq_self_eq_true _
    | exact list_ne hr
    | exact sym_eq _ _
    | exact inR_i64 (by show _ ≤ 1 + other % 19; omega) (by show 1 + other % 19 < _; omega)
    | (refine ⟨(other, 19), ⟨⟨(by show (0 : Int) < 19; omega), (by show (19 : Int) ≤ 1000000; omega)⟩, .refl _, rfl⟩, ?_⟩)
    | (refine ⟨(), ⟨trivial, .refl _, rfl⟩, ?_⟩)
    | (refine ⟨1 + kind % 19, ⟨trivial, .refl _, rfl⟩, ?_⟩)
    | (refine ⟨1 + other % 19, ⟨trivial, .refl _, rfl⟩, ?_⟩)
    | refine And.intro ?_ ?_
  all_goals first
    | rfl
    | exact decide_eq_true rfl
    | (simp [h1]; done)
    | (simp; omega)
    | exact bne_self_eq_false _
    | (rw [beq_self_eq_true]; done)
set_option maxRecDepth 100000 in
theorem gApTT_ok (c : Nat → Int) (bb : AV) (kind : Int) (other : Int) (xs : List AV) (at_ : Int) (hs : Bool) (a : Int) (b : Int) (c2 : Int) (d : Int) (wn : Int) (wa : Int) (w2 : Int) (wc : Int) (wd : Int) (ha : Int) (r : ByteArray) (hr : 0 < r.size) (hk0 : 0 ≤ kind % 19) (hk1 : kind % 19 < 19) (ho0 : 0 ≤ other % 19) (ho1 : other % 19 < 19) (hha : ha = at_) (h1 : 0 ≤ at_) (hwn : wn = at_) (h2 : hs = true) (e1 : wa = a) (e2 : w2 = b) (e3 : wc = c2) (e4 : wd = d) : ∃ os, gApTT os c bb kind other xs at_ hs a b c2 d wn wa w2 wc wd ha r := by
  subst hha
  subst hwn
  subst e1 e2 e3 e4
  subst h2
  refine ⟨_, (iff_of_eq (gApTT_vc _ _ _ _ _ _ _ _ _ _ _ _ _ _ _ _ _ _)).2 ?_⟩
  refine ⟨(kind, 19), ⟨⟨(by show (0 : Int) < 19; omega), (by show (19 : Int) ≤ 1000000; omega)⟩, .refl _, rfl⟩, inR_i64 (by show _ ≤ 1 + kind % 19; omega) (by show 1 + kind % 19 < _; omega), ?_⟩
  repeat' first
    | exact rfl
    | exact beq_self_eq_true _
    | exact list_ne hr
    | exact sym_eq _ _
    | exact inR_i64 (by show _ ≤ 1 + other % 19; omega) (by show 1 + other % 19 < _; omega)
    | (refine ⟨(other, 19), ⟨⟨(by show (0 : Int) < 19; omega), (by show (19 : Int) ≤ 1000000; omega)⟩, .refl _, rfl⟩, ?_⟩)
    | (refine ⟨(), ⟨trivial, .refl _, rfl⟩, ?_⟩)
    | (refine ⟨1 + kind % 19, ⟨trivial, .refl _, rfl⟩, ?_⟩)
    | (refine ⟨1 + other % 19, ⟨trivial, .refl _, rfl⟩, ?_⟩)
    | refine And.intro ?_ ?_
  all_goals first
    | rfl
    | exact decide_eq_true rfl
    | (simp [h1]; done)
    | (simp; omega)
    | exact bne_self_eq_false _
    | (rw [beq_self_eq_true]; done)
set_option maxRecDepth 100000 in
theorem gApTF_ok (c : Nat → Int) (bb : AV) (kind : Int) (other : Int) (xs : List AV) (at_ : Int) (hs : Bool) (a : Int) (b : Int) (c2 : Int) (d : Int) (wn : Int) (wa : Int) (w2 : Int) (wc : Int) (wd : Int) (ha : Int) (r : ByteArray) (hr : 0 < r.size) (hk0 : 0 ≤ kind % 19) (hk1 : kind % 19 < 19) (ho0 : 0 ≤ other % 19) (ho1 : other % 19 < 19) (hha : ha = at_) (h1 : 0 ≤ at_) (hwn : wn = at_) (h2 : hs = false) : ∃ os, gApTF os c bb kind other xs at_ hs a b c2 d wn wa w2 wc wd ha r := by
  subst hha
  subst hwn
  subst h2
  refine ⟨_, (iff_of_eq (gApTF_vc _ _ _ _ _ _ _ _ _ _ _ _ _ _ _ _ _ _)).2 ?_⟩
  refine ⟨(kind, 19), ⟨⟨(by show (0 : Int) < 19; omega), (by show (19 : Int) ≤ 1000000; omega)⟩, .refl _, rfl⟩, inR_i64 (by show _ ≤ 1 + kind % 19; omega) (by show 1 + kind % 19 < _; omega), ?_⟩
  repeat' first
    | exact rfl
    | exact beq_self_eq_true _
    | exact list_ne hr
    | exact sym_eq _ _
    | exact inR_i64 (by show _ ≤ 1 + other % 19; omega) (by show 1 + other % 19 < _; omega)
    | (refine ⟨(other, 19), ⟨⟨(by show (0 : Int) < 19; omega), (by show (19 : Int) ≤ 1000000; omega)⟩, .refl _, rfl⟩, ?_⟩)
    | (refine ⟨(), ⟨trivial, .refl _, rfl⟩, ?_⟩)
    | (refine ⟨1 + kind % 19, ⟨trivial, .refl _, rfl⟩, ?_⟩)
    | (refine ⟨1 + other % 19, ⟨trivial, .refl _, rfl⟩, ?_⟩)
    | refine And.intro ?_ ?_
  all_goals first
    | rfl
    | exact decide_eq_true rfl
    | (simp [h1]; done)
    | (simp; omega)
    | exact bne_self_eq_false _
    | (rw [beq_self_eq_true]; done)
set_option maxRecDepth 100000 in
theorem gAwTT_ok (c : Nat → Int) (bb : AV) (kind : Int) (other : Int) (xs : List AV) (at_ : Int) (hs : Bool) (a : Int) (b : Int) (c2 : Int) (d : Int) (wn : Int) (wa : Int) (w2 : Int) (wc : Int) (wd : Int) (ha : Int) (r : ByteArray) (hr : 0 < r.size) (hk0 : 0 ≤ kind % 19) (hk1 : kind % 19 < 19) (ho0 : 0 ≤ other % 19) (ho1 : other % 19 < 19) (hha : ha = at_) (h1 : 0 ≤ at_) (hwn : wn = at_) (h2 : hs = true) (e1 : wa = a) (e2 : w2 = b) (e3 : wc = c2) (e4 : wd = d) : ∃ os, gAwTT os c bb kind other xs at_ hs a b c2 d wn wa w2 wc wd ha r := by
  subst hha
  subst hwn
  subst e1 e2 e3 e4
  subst h2
  refine ⟨_, (iff_of_eq (gAwTT_vc _ _ _ _ _ _ _ _ _ _ _ _ _ _ _ _ _ _)).2 ?_⟩
  refine ⟨(kind, 19), ⟨⟨(by show (0 : Int) < 19; omega), (by show (19 : Int) ≤ 1000000; omega)⟩, .refl _, rfl⟩, inR_i64 (by show _ ≤ 1 + kind % 19; omega) (by show 1 + kind % 19 < _; omega), ?_⟩
  repeat' first
    | exact rfl
    | exact beq_self_eq_true _
    | exact list_ne hr
    | exact sym_eq _ _
    | exact inR_i64 (by show _ ≤ 1 + other % 19; omega) (by show 1 + other % 19 < _; omega)
    | (refine ⟨(other, 19), ⟨⟨(by show (0 : Int) < 19; omega), (by show (19 : Int) ≤ 1000000; omega)⟩, .refl _, rfl⟩, ?_⟩)
    | (refine ⟨(), ⟨trivial, .refl _, rfl⟩, ?_⟩)
    | (refine ⟨1 + kind % 19, ⟨trivial, .refl _, rfl⟩, ?_⟩)
    | (refine ⟨1 + other % 19, ⟨trivial, .refl _, rfl⟩, ?_⟩)
    | refine And.intro ?_ ?_
  all_goals first
    | rfl
    | exact decide_eq_true rfl
    | (simp [h1]; done)
    | (simp; omega)
    | exact bne_self_eq_false _
    | (rw [beq_self_eq_true]; done)
set_option maxRecDepth 100000 in
theorem gAwFT_ok (c : Nat → Int) (bb : AV) (kind : Int) (other : Int) (xs : List AV) (at_ : Int) (hs : Bool) (a : Int) (b : Int) (c2 : Int) (d : Int) (wn : Int) (wa : Int) (w2 : Int) (wc : Int) (wd : Int) (ha : Int) (r : ByteArray) (hr : 0 < r.size) (hk0 : 0 ≤ kind % 19) (hk1 : kind % 19 < 19) (ho0 : 0 ≤ other % 19) (ho1 : other % 19 < 19) (hha : ha = at_) (h1 : ¬ 0 ≤ at_) (h2 : hs = true) (e1 : wa = a) (e2 : w2 = b) (e3 : wc = c2) (e4 : wd = d) : ∃ os, gAwFT os c bb kind other xs at_ hs a b c2 d wn wa w2 wc wd ha r := by
  subst hha
  subst e1 e2 e3 e4
  subst h2
  refine ⟨_, (iff_of_eq (gAwFT_vc _ _ _ _ _ _ _ _ _ _ _ _ _ _ _ _ _ _)).2 ?_⟩
  refine ⟨(kind, 19), ⟨⟨(by show (0 : Int) < 19; omega), (by show (19 : Int) ≤ 1000000; omega)⟩, .refl _, rfl⟩, inR_i64 (by show _ ≤ 1 + kind % 19; omega) (by show 1 + kind % 19 < _; omega), ?_⟩
  repeat' first
    | exact rfl
    | exact beq_self_eq_true _
    | exact list_ne hr
    | exact sym_eq _ _
    | exact inR_i64 (by show _ ≤ 1 + other % 19; omega) (by show 1 + other % 19 < _; omega)
    | (refine ⟨(other, 19), ⟨⟨(by show (0 : Int) < 19; omega), (by show (19 : Int) ≤ 1000000; omega)⟩, .refl _, rfl⟩, ?_⟩)
    | (refine ⟨(), ⟨trivial, .refl _, rfl⟩, ?_⟩)
    | (refine ⟨1 + kind % 19, ⟨trivial, .refl _, rfl⟩, ?_⟩)
    | (refine ⟨1 + other % 19, ⟨trivial, .refl _, rfl⟩, ?_⟩)
    | refine And.intro ?_ ?_
  all_goals first
    | rfl
    | exact decide_eq_true rfl
    | (simp [h1]; done)
    | (simp; omega)
    | exact bne_self_eq_false _
    | (rw [beq_self_eq_true]; done)
set_option maxRecDepth 100000 in
theorem gBsTT_ok (c : Nat → Int) (bb : AV) (kind : Int) (other : Int) (xs : List AV) (zs : List AV) (at_ : Int) (hs : Bool) (a : Int) (b : Int) (c2 : Int) (d : Int) (wn : Int) (wa : Int) (w2 : Int) (wc : Int) (wd : Int) (ha : Int) (r : ByteArray) (hr : 0 < r.size) (hk0 : 0 ≤ kind % 19) (hk1 : kind % 19 < 19) (ho0 : 0 ≤ other % 19) (ho1 : other % 19 < 19) (hha : ha = at_) (h1 : 0 ≤ at_) (hwn : wn = at_) (h2 : hs = true) (e1 : wa = a) (e2 : w2 = b) (e3 : wc = c2) (e4 : wd = d) : ∃ os, gBsTT os c bb kind other xs zs at_ hs a b c2 d wn wa w2 wc wd ha r := by
  subst hha
  subst hwn
  subst e1 e2 e3 e4
  subst h2
  refine ⟨_, (iff_of_eq (gBsTT_vc _ _ _ _ _ _ _ _ _ _ _ _ _ _ _ _ _ _ _)).2 ?_⟩
  refine ⟨(kind, 19), ⟨⟨(by show (0 : Int) < 19; omega), (by show (19 : Int) ≤ 1000000; omega)⟩, .refl _, rfl⟩, inR_i64 (by show _ ≤ 1 + kind % 19; omega) (by show 1 + kind % 19 < _; omega), ?_⟩
  repeat' first
    | exact rfl
    | exact beq_self_eq_true _
    | exact list_ne hr
    | exact sym_eq _ _
    | exact inR_i64 (by show _ ≤ 1 + other % 19; omega) (by show 1 + other % 19 < _; omega)
    | (refine ⟨(other, 19), ⟨⟨(by show (0 : Int) < 19; omega), (by show (19 : Int) ≤ 1000000; omega)⟩, .refl _, rfl⟩, ?_⟩)
    | (refine ⟨(), ⟨trivial, .refl _, rfl⟩, ?_⟩)
    | (refine ⟨1 + kind % 19, ⟨trivial, .refl _, rfl⟩, ?_⟩)
    | (refine ⟨1 + other % 19, ⟨trivial, .refl _, rfl⟩, ?_⟩)
    | refine And.intro ?_ ?_
  all_goals first
    | rfl
    | exact decide_eq_true rfl
    | (simp [h1]; done)
    | (simp; omega)
    | exact bne_self_eq_false _
    | (rw [beq_self_eq_true]; done)
set_option maxRecDepth 100000 in
theorem gBsTF_ok (c : Nat → Int) (bb : AV) (kind : Int) (other : Int) (xs : List AV) (zs : List AV) (at_ : Int) (hs : Bool) (a : Int) (b : Int) (c2 : Int) (d : Int) (wn : Int) (wa : Int) (w2 : Int) (wc : Int) (wd : Int) (ha : Int) (r : ByteArray) (hr : 0 < r.size) (hk0 : 0 ≤ kind % 19) (hk1 : kind % 19 < 19) (ho0 : 0 ≤ other % 19) (ho1 : other % 19 < 19) (hha : ha = at_) (h1 : 0 ≤ at_) (hwn : wn = at_) (h2 : hs = false) : ∃ os, gBsTF os c bb kind other xs zs at_ hs a b c2 d wn wa w2 wc wd ha r := by
  subst hha
  subst hwn
  subst h2
  refine ⟨_, (iff_of_eq (gBsTF_vc _ _ _ _ _ _ _ _ _ _ _ _ _ _ _ _ _ _ _)).2 ?_⟩
  refine ⟨(kind, 19), ⟨⟨(by show (0 : Int) < 19; omega), (by show (19 : Int) ≤ 1000000; omega)⟩, .refl _, rfl⟩, inR_i64 (by show _ ≤ 1 + kind % 19; omega) (by show 1 + kind % 19 < _; omega), ?_⟩
  repeat' first
    | exact rfl
    | exact beq_self_eq_true _
    | exact list_ne hr
    | exact sym_eq _ _
    | exact inR_i64 (by show _ ≤ 1 + other % 19; omega) (by show 1 + other % 19 < _; omega)
    | (refine ⟨(other, 19), ⟨⟨(by show (0 : Int) < 19; omega), (by show (19 : Int) ≤ 1000000; omega)⟩, .refl _, rfl⟩, ?_⟩)
    | (refine ⟨(), ⟨trivial, .refl _, rfl⟩, ?_⟩)
    | (refine ⟨1 + kind % 19, ⟨trivial, .refl _, rfl⟩, ?_⟩)
    | (refine ⟨1 + other % 19, ⟨trivial, .refl _, rfl⟩, ?_⟩)
    | refine And.intro ?_ ?_
  all_goals first
    | rfl
    | exact decide_eq_true rfl
    | (simp [h1]; done)
    | (simp; omega)
    | exact bne_self_eq_false _
    | (rw [beq_self_eq_true]; done)
set_option maxRecDepth 100000 in
theorem gBsFT_ok (c : Nat → Int) (bb : AV) (kind : Int) (other : Int) (xs : List AV) (zs : List AV) (at_ : Int) (hs : Bool) (a : Int) (b : Int) (c2 : Int) (d : Int) (wn : Int) (wa : Int) (w2 : Int) (wc : Int) (wd : Int) (ha : Int) (r : ByteArray) (hr : 0 < r.size) (hk0 : 0 ≤ kind % 19) (hk1 : kind % 19 < 19) (ho0 : 0 ≤ other % 19) (ho1 : other % 19 < 19) (hha : ha = at_) (h1 : ¬ 0 ≤ at_) (h2 : hs = true) (e1 : wa = a) (e2 : w2 = b) (e3 : wc = c2) (e4 : wd = d) : ∃ os, gBsFT os c bb kind other xs zs at_ hs a b c2 d wn wa w2 wc wd ha r := by
  subst hha
  subst e1 e2 e3 e4
  subst h2
  refine ⟨_, (iff_of_eq (gBsFT_vc _ _ _ _ _ _ _ _ _ _ _ _ _ _ _ _ _ _ _)).2 ?_⟩
  refine ⟨(kind, 19), ⟨⟨(by show (0 : Int) < 19; omega), (by show (19 : Int) ≤ 1000000; omega)⟩, .refl _, rfl⟩, inR_i64 (by show _ ≤ 1 + kind % 19; omega) (by show 1 + kind % 19 < _; omega), ?_⟩
  repeat' first
    | exact rfl
    | exact beq_self_eq_true _
    | exact list_ne hr
    | exact sym_eq _ _
    | exact inR_i64 (by show _ ≤ 1 + other % 19; omega) (by show 1 + other % 19 < _; omega)
    | (refine ⟨(other, 19), ⟨⟨(by show (0 : Int) < 19; omega), (by show (19 : Int) ≤ 1000000; omega)⟩, .refl _, rfl⟩, ?_⟩)
    | (refine ⟨(), ⟨trivial, .refl _, rfl⟩, ?_⟩)
    | (refine ⟨1 + kind % 19, ⟨trivial, .refl _, rfl⟩, ?_⟩)
    | (refine ⟨1 + other % 19, ⟨trivial, .refl _, rfl⟩, ?_⟩)
    | refine And.intro ?_ ?_
  all_goals first
    | rfl
    | exact decide_eq_true rfl
    | (simp [h1]; done)
    | (simp; omega)
    | exact bne_self_eq_false _
    | (rw [beq_self_eq_true]; done)
set_option maxRecDepth 100000 in
theorem gBsFF_ok (c : Nat → Int) (bb : AV) (kind : Int) (other : Int) (xs : List AV) (zs : List AV) (at_ : Int) (hs : Bool) (a : Int) (b : Int) (c2 : Int) (d : Int) (wn : Int) (wa : Int) (w2 : Int) (wc : Int) (wd : Int) (ha : Int) (r : ByteArray) (hr : 0 < r.size) (hk0 : 0 ≤ kind % 19) (hk1 : kind % 19 < 19) (ho0 : 0 ≤ other % 19) (ho1 : other % 19 < 19) (hha : ha = at_) (h1 : ¬ 0 ≤ at_) (h2 : hs = false) : ∃ os, gBsFF os c bb kind other xs zs at_ hs a b c2 d wn wa w2 wc wd ha r := by
  subst hha
  subst h2
  refine ⟨_, (iff_of_eq (gBsFF_vc _ _ _ _ _ _ _ _ _ _ _ _ _ _ _ _ _ _ _)).2 ?_⟩
  refine ⟨(kind, 19), ⟨⟨(by show (0 : Int) < 19; omega), (by show (19 : Int) ≤ 1000000; omega)⟩, .refl _, rfl⟩, inR_i64 (by show _ ≤ 1 + kind % 19; omega) (by show 1 + kind % 19 < _; omega), ?_⟩
  repeat' first
    | exact rfl
    | exact beq_self_eq_true _
    | exact list_ne hr
    | exact sym_eq _ _
    | exact inR_i64 (by show _ ≤ 1 + other % 19; omega) (by show 1 + other % 19 < _; omega)
    | (refine ⟨(other, 19), ⟨⟨(by show (0 : Int) < 19; omega), (by show (19 : Int) ≤ 1000000; omega)⟩, .refl _, rfl⟩, ?_⟩)
    | (refine ⟨(), ⟨trivial, .refl _, rfl⟩, ?_⟩)
    | (refine ⟨1 + kind % 19, ⟨trivial, .refl _, rfl⟩, ?_⟩)
    | (refine ⟨1 + other % 19, ⟨trivial, .refl _, rfl⟩, ?_⟩)
    | refine And.intro ?_ ?_
  all_goals first
    | rfl
    | exact decide_eq_true rfl
    | (simp [h1]; done)
    | (simp; omega)
    | exact bne_self_eq_false _
    | (rw [beq_self_eq_true]; done)
set_option maxRecDepth 100000 in
theorem gBpTT_ok (c : Nat → Int) (bb : AV) (kind : Int) (other : Int) (xs : List AV) (zs : List AV) (at_ : Int) (hs : Bool) (a : Int) (b : Int) (c2 : Int) (d : Int) (wn : Int) (wa : Int) (w2 : Int) (wc : Int) (wd : Int) (ha : Int) (r : ByteArray) (hr : 0 < r.size) (hk0 : 0 ≤ kind % 19) (hk1 : kind % 19 < 19) (ho0 : 0 ≤ other % 19) (ho1 : other % 19 < 19) (hha : ha = at_) (h1 : 0 ≤ at_) (hwn : wn = at_) (h2 : hs = true) (e1 : wa = a) (e2 : w2 = b) (e3 : wc = c2) (e4 : wd = d) : ∃ os, gBpTT os c bb kind other xs zs at_ hs a b c2 d wn wa w2 wc wd ha r := by
  subst hha
  subst hwn
  subst e1 e2 e3 e4
  subst h2
  refine ⟨_, (iff_of_eq (gBpTT_vc _ _ _ _ _ _ _ _ _ _ _ _ _ _ _ _ _ _ _)).2 ?_⟩
  refine ⟨(kind, 19), ⟨⟨(by show (0 : Int) < 19; omega), (by show (19 : Int) ≤ 1000000; omega)⟩, .refl _, rfl⟩, inR_i64 (by show _ ≤ 1 + kind % 19; omega) (by show 1 + kind % 19 < _; omega), ?_⟩
  repeat' first
    | exact rfl
    | exact beq_self_eq_true _
    | exact list_ne hr
    | exact sym_eq _ _
    | exact inR_i64 (by show _ ≤ 1 + other % 19; omega) (by show 1 + other % 19 < _; omega)
    | (refine ⟨(other, 19), ⟨⟨(by show (0 : Int) < 19; omega), (by show (19 : Int) ≤ 1000000; omega)⟩, .refl _, rfl⟩, ?_⟩)
    | (refine ⟨(), ⟨trivial, .refl _, rfl⟩, ?_⟩)
    | (refine ⟨1 + kind % 19, ⟨trivial, .refl _, rfl⟩, ?_⟩)
    | (refine ⟨1 + other % 19, ⟨trivial, .refl _, rfl⟩, ?_⟩)
    | refine And.intro ?_ ?_
  all_goals first
    | rfl
    | exact decide_eq_true rfl
    | (simp [h1]; done)
    | (simp; omega)
    | exact bne_self_eq_false _
    | (rw [beq_self_eq_true]; done)
set_option maxRecDepth 100000 in
theorem gBpTF_ok (c : Nat → Int) (bb : AV) (kind : Int) (other : Int) (xs : List AV) (zs : List AV) (at_ : Int) (hs : Bool) (a : Int) (b : Int) (c2 : Int) (d : Int) (wn : Int) (wa : Int) (w2 : Int) (wc : Int) (wd : Int) (ha : Int) (r : ByteArray) (hr : 0 < r.size) (hk0 : 0 ≤ kind % 19) (hk1 : kind % 19 < 19) (ho0 : 0 ≤ other % 19) (ho1 : other % 19 < 19) (hha : ha = at_) (h1 : 0 ≤ at_) (hwn : wn = at_) (h2 : hs = false) : ∃ os, gBpTF os c bb kind other xs zs at_ hs a b c2 d wn wa w2 wc wd ha r := by
  subst hha
  subst hwn
  subst h2
  refine ⟨_, (iff_of_eq (gBpTF_vc _ _ _ _ _ _ _ _ _ _ _ _ _ _ _ _ _ _ _)).2 ?_⟩
  refine ⟨(kind, 19), ⟨⟨(by show (0 : Int) < 19; omega), (by show (19 : Int) ≤ 1000000; omega)⟩, .refl _, rfl⟩, inR_i64 (by show _ ≤ 1 + kind % 19; omega) (by show 1 + kind % 19 < _; omega), ?_⟩
  repeat' first
    | exact rfl
    | exact beq_self_eq_true _
    | exact list_ne hr
    | exact sym_eq _ _
    | exact inR_i64 (by show _ ≤ 1 + other % 19; omega) (by show 1 + other % 19 < _; omega)
    | (refine ⟨(other, 19), ⟨⟨(by show (0 : Int) < 19; omega), (by show (19 : Int) ≤ 1000000; omega)⟩, .refl _, rfl⟩, ?_⟩)
    | (refine ⟨(), ⟨trivial, .refl _, rfl⟩, ?_⟩)
    | (refine ⟨1 + kind % 19, ⟨trivial, .refl _, rfl⟩, ?_⟩)
    | (refine ⟨1 + other % 19, ⟨trivial, .refl _, rfl⟩, ?_⟩)
    | refine And.intro ?_ ?_
  all_goals first
    | rfl
    | exact decide_eq_true rfl
    | (simp [h1]; done)
    | (simp; omega)
    | exact bne_self_eq_false _
    | (rw [beq_self_eq_true]; done)
set_option maxRecDepth 100000 in
theorem gBwTT_ok (c : Nat → Int) (bb : AV) (kind : Int) (other : Int) (xs : List AV) (zs : List AV) (at_ : Int) (hs : Bool) (a : Int) (b : Int) (c2 : Int) (d : Int) (wn : Int) (wa : Int) (w2 : Int) (wc : Int) (wd : Int) (ha : Int) (r : ByteArray) (hr : 0 < r.size) (hk0 : 0 ≤ kind % 19) (hk1 : kind % 19 < 19) (ho0 : 0 ≤ other % 19) (ho1 : other % 19 < 19) (hha : ha = at_) (h1 : 0 ≤ at_) (hwn : wn = at_) (h2 : hs = true) (e1 : wa = a) (e2 : w2 = b) (e3 : wc = c2) (e4 : wd = d) : ∃ os, gBwTT os c bb kind other xs zs at_ hs a b c2 d wn wa w2 wc wd ha r := by
  subst hha
  subst hwn
  subst e1 e2 e3 e4
  subst h2
  refine ⟨_, (iff_of_eq (gBwTT_vc _ _ _ _ _ _ _ _ _ _ _ _ _ _ _ _ _ _ _)).2 ?_⟩
  refine ⟨(kind, 19), ⟨⟨(by show (0 : Int) < 19; omega), (by show (19 : Int) ≤ 1000000; omega)⟩, .refl _, rfl⟩, inR_i64 (by show _ ≤ 1 + kind % 19; omega) (by show 1 + kind % 19 < _; omega), ?_⟩
  repeat' first
    | exact rfl
    | exact beq_self_eq_true _
    | exact list_ne hr
    | exact sym_eq _ _
    | exact inR_i64 (by show _ ≤ 1 + other % 19; omega) (by show 1 + other % 19 < _; omega)
    | (refine ⟨(other, 19), ⟨⟨(by show (0 : Int) < 19; omega), (by show (19 : Int) ≤ 1000000; omega)⟩, .refl _, rfl⟩, ?_⟩)
    | (refine ⟨(), ⟨trivial, .refl _, rfl⟩, ?_⟩)
    | (refine ⟨1 + kind % 19, ⟨trivial, .refl _, rfl⟩, ?_⟩)
    | (refine ⟨1 + other % 19, ⟨trivial, .refl _, rfl⟩, ?_⟩)
    | refine And.intro ?_ ?_
  all_goals first
    | rfl
    | exact decide_eq_true rfl
    | (simp [h1]; done)
    | (simp; omega)
    | exact bne_self_eq_false _
    | (rw [beq_self_eq_true]; done)
set_option maxRecDepth 100000 in
theorem gBwFT_ok (c : Nat → Int) (bb : AV) (kind : Int) (other : Int) (xs : List AV) (zs : List AV) (at_ : Int) (hs : Bool) (a : Int) (b : Int) (c2 : Int) (d : Int) (wn : Int) (wa : Int) (w2 : Int) (wc : Int) (wd : Int) (ha : Int) (r : ByteArray) (hr : 0 < r.size) (hk0 : 0 ≤ kind % 19) (hk1 : kind % 19 < 19) (ho0 : 0 ≤ other % 19) (ho1 : other % 19 < 19) (hha : ha = at_) (h1 : ¬ 0 ≤ at_) (h2 : hs = true) (e1 : wa = a) (e2 : w2 = b) (e3 : wc = c2) (e4 : wd = d) : ∃ os, gBwFT os c bb kind other xs zs at_ hs a b c2 d wn wa w2 wc wd ha r := by
  subst hha
  subst e1 e2 e3 e4
  subst h2
  refine ⟨_, (iff_of_eq (gBwFT_vc _ _ _ _ _ _ _ _ _ _ _ _ _ _ _ _ _ _ _)).2 ?_⟩
  refine ⟨(kind, 19), ⟨⟨(by show (0 : Int) < 19; omega), (by show (19 : Int) ≤ 1000000; omega)⟩, .refl _, rfl⟩, inR_i64 (by show _ ≤ 1 + kind % 19; omega) (by show 1 + kind % 19 < _; omega), ?_⟩
  repeat' first
    | exact rfl
    | exact beq_self_eq_true _
    | exact list_ne hr
    | exact sym_eq _ _
    | exact inR_i64 (by show _ ≤ 1 + other % 19; omega) (by show 1 + other % 19 < _; omega)
    | (refine ⟨(other, 19), ⟨⟨(by show (0 : Int) < 19; omega), (by show (19 : Int) ≤ 1000000; omega)⟩, .refl _, rfl⟩, ?_⟩)
    | (refine ⟨(), ⟨trivial, .refl _, rfl⟩, ?_⟩)
    | (refine ⟨1 + kind % 19, ⟨trivial, .refl _, rfl⟩, ?_⟩)
    | (refine ⟨1 + other % 19, ⟨trivial, .refl _, rfl⟩, ?_⟩)
    | refine And.intro ?_ ?_
  all_goals first
    | rfl
    | exact decide_eq_true rfl
    | (simp [h1]; done)
    | (simp; omega)
    | exact bne_self_eq_false _
    | (rw [beq_self_eq_true]; done)
end
end Go.Proofs.YtihjokkmkdhhpaaDoor
end
section
namespace Go.Proofs.YtihjokkmkdhhpaaDoor
open Go.AS
noncomputable section
def Lay.cells (x : Lay) : List Value := [.int .i64 x.w, .int .i64 x.n, .string x.s]
theorem av_cs {E : Env} : ∀ ls : List Lay, RR E .cs (ls.map Lay.av) (ls.flatMap Lay.cells)
  | [] => .cnil
  | x :: ls => by
    have h : VR E x.av (.agg #[.int .i64 x.w, .int .i64 x.n, .string x.s]) :=
      .agg (cs := [.int .i64 x.w, .int .i64 x.n, .string x.s]) (cs_lits [.int .i64 x.w, .int .i64 x.n, .string x.s] (by intro u hu; simp only [List.mem_cons, List.not_mem_nil, or_false] at hu; rcases hu with rfl | rfl | rfl <;> rfl))
    exact .ccons h (av_cs ls)
theorem drop_cells {l : List Value} {off : Nat} (q : Nat → Lay) : ∀ k : Nat, (∀ i, i < k → l[off + i * 3]? = some (.int .i64 (q i).w) ∧ l[off + i * 3 + 1]? = some (.int .i64 (q i).n) ∧ l[off + i * 3 + 2]? = some (.string (q i).s)) →
    l.drop off = (((List.range k).map q).flatMap Lay.cells) ++ l.drop (off + k * 3)
  | 0, _ => by simp
  | k + 1, h => by
    have ih := drop_cells q k fun i hi => h i (by omega)
    obtain ⟨h1, h2, h3⟩ := h k (by omega)
    rw [ih, List.range_succ, List.map_append, List.flatMap_append, List.append_assoc]
    congr 1
    have g1 := List.getElem?_eq_some_iff.1 h1
    have g2 := List.getElem?_eq_some_iff.1 h2
    have g3 := List.getElem?_eq_some_iff.1 h3
    obtain ⟨l1, e1⟩ := g1; obtain ⟨l2, e2⟩ := g2; obtain ⟨l3, e3⟩ := g3
    rw [List.drop_eq_getElem_cons l1, List.drop_eq_getElem_cons l2, List.drop_eq_getElem_cons l3, e1, e2, e3]
    simp only [List.map_cons, List.map_nil, List.flatMap_cons, List.flatMap_nil, List.append_nil, Lay.cells, List.cons_append, List.nil_append]
    rw [show off + k * 3 + 2 + 1 = off + (k + 1) * 3 by omega]
theorem u59 : Tryd.prog.underlying 59 = some (.slice 61) := by kernel_rfl
def fs61 : Array Field := match Tryd.prog.underlying 61 with
  | some (.struct fs) => fs
  | _ => #[]
theorem u61 : Tryd.prog.underlying 61 = some (.struct fs61) := by kernel_rfl
theorem f61 : fs61.toList.map (fun f => (f.type, f.offset)) = [(3, 0), (3, 1), (9, 2)] := by kernel_rfl
end
end Go.Proofs.YtihjokkmkdhhpaaDoor
end
section
namespace Go.Proofs.YtihjokkmkdhhpaaDoor
open Go.AS
noncomputable section
attribute [local irreducible] lawW runF runL
theorem known_ok (c : Nat → Int) : FC c 12 [] (b0 true) := by
  obtain ⟨os, h⟩ := g12_ok
  exact up c (fn_ok (X := XB) (d := 10) XB_ok (fnOk 12 (by kernel_rfl)) (show (fn 12).body = some (code 12) by kernel_rfl) (by kernel_rfl) h)
abbrev Goal (c : Nat → Int) (kind other : Int) (xs : List AV) : Prop := ∃ X os, OkX c X ∧ lawW X 12 5 (fn 5) (code 5) os [i0 kind, .lst false 3 xs, i0 other]
theorem useA {c : Nat → Int} {f : Nat} {e rv : AV} {kind other : Int} {xs : List AV} {at_ : Int} {hs : Bool} {a b c2 d wn : Int} {wb : Bool} {wa w2 wc wd : Int} {ub : Bool} {ha : Int} {r : ByteArray}
    (ok : OkX c (XF c f e rv (1 + kind % 19) [] wn wb wa w2 wc wd ub ha r))
    (l1 : BlkOk Tryd.prog (gl1 c) (fn 5).ntmps (loopAt (code 5) 0) ins5 (fun _ => [2, 7, 8, 9, 10, 11, 12]) (lArgs xs other (1 + kind % 19) (tB (1 + kind % 19)) [] (-1) false 0) (lHeap [] 0 0 0 0) fun _ r' => r' = outA other (1 + kind % 19) e [] at_ hs a b c2 d)
    (g : ∃ os, gA os c f e rv kind other xs at_ hs a b c2 d wn wb wa w2 wc wd ub ha r) : Goal c kind other xs := by
  obtain ⟨os, h⟩ := g
  exact ⟨_, os, (ok.addLp (Spl.ok rfl nodup5 fun s hs i _ => by obtain rfl := List.mem_singleton.1 hs; exact l1)).ask [5], h⟩
theorem useB {c : Nat → Int} {f : Nat} {e rv : AV} {kind other : Int} {xs zs : List AV} {at_ : Int} {hs : Bool} {a b c2 d wn : Int} {wb : Bool} {wa w2 wc wd : Int} {ub : Bool} {ha : Int} {r : ByteArray}
    (ok : OkX c (XF c f e rv (1 + kind % 19) zs wn wb wa w2 wc wd ub ha r))
    (l1 : BlkOk Tryd.prog (gl1 c) (fn 5).ntmps (loopAt (code 5) 0) ins5 (fun _ => [2, 7, 8, 9, 10, 11, 12]) (lArgs xs other (1 + kind % 19) (tB (1 + kind % 19)) [] (-1) false 0) (lHeap [] 0 0 0 0) fun _ r' => r' = outB other (1 + kind % 19) e [] zs at_ hs a b c2 d)
    (l2 : BlkOk Tryd.prog (gl1 c) (fn 5).ntmps (loopAt (code 5) 3) ins5m (fun _ => [2, 7, 8, 10, 11, 12]) (mArgs other (1 + kind % 19) e zs at_ hs 0) (lHeap zs a b c2 d) fun _ r' => r' = mOut other (1 + kind % 19) e zs at_ hs a b c2 d)
    (g : ∃ os, gB os c f e rv kind other xs zs at_ hs a b c2 d wn wb wa w2 wc wd ub ha r) : Goal c kind other xs := by
  obtain ⟨os, h⟩ := g
  exact ⟨_, os, ((ok.addLp (Spl.ok rfl nodup5 fun s hs i _ => by obtain rfl := List.mem_singleton.1 hs; exact l1)).addLp (Spl.ok rfl nodup5m fun s hs i _ => by obtain rfl := List.mem_singleton.1 hs; exact l2)).ask [5], h⟩
theorem hz_hG : hz = .agg (hG 0 0 0 0) := rfl
theorem hash_hG (p : Int) : hG (hA p) (hB p) (hC p) p = (hashV p).toList.map .lit := rfl
set_option maxRecDepth 100000 in
theorem law_walk (c : Nat → Int) (kd other : Int) (ls : List Lay) (hsm : ∀ x ∈ ls, x.small) : Goal c kd other (ls.map Lay.av) := by
  have hk0 := Int.emod_nonneg kd (by decide : (19 : Int) ≠ 0)
  have hk1 := Int.emod_lt_of_pos kd (by decide : (0 : Int) < 19)
  have ho0 := Int.emod_nonneg other (by decide : (19 : Int) ≠ 0)
  have ho1 := Int.emod_lt_of_pos other (by decide : (0 : Int) < 19)
  have h0 : Inv (1 + kd % 19) ⟨.base (1 + kd % 19), [], -1, false, 0, 0, 0, 0⟩ := ⟨rfl, rfl, .inl ⟨rfl, rfl⟩, .inl ⟨rfl, rfl, rfl, rfl, rfl, rfl⟩, ⟨by omega, by omega⟩⟩
  have l1 := blk_up c (loop1 ls other (1 + kd % 19) (ls.take 20) 0 ⟨.base (1 + kd % 19), [], -1, false, 0, 0, 0, 0⟩ rfl (Nat.le_refl _))
  have inv := h0.all (ls.take 20) _ fun x hx => hsm x (List.mem_of_mem_take hx)
  have hdeep := all_deep (ls.take 20) ⟨.base (1 + kd % 19), [], -1, false, 0, 0, 0, 0⟩
  have hlen : (ls.take 20).length ≤ 20 := by rw [List.length_take]; omega
  have hany0 := all_ys (ls.take 20) ⟨.base (1 + kd % 19), [], -1, false, 0, 0, 0, 0⟩
  have hwr : (ls.take 20).any stepOf = true → ((⟨.base (1 + kd % 19), [], -1, false, 0, 0, 0, 0⟩ : Sta).all (ls.take 20)).e.wr := fun h => by
    cases hL : ls.take 20 with
    | nil => rw [hL] at h; cases h
    | cons x L => exact all_wr L _ (next_wr _ x)
  unfold outOf at l1
  generalize (⟨.base (1 + kd % 19), [], -1, false, 0, 0, 0, 0⟩ : Sta).all (ls.take 20) = fin at l1 inv hdeep hany0 hwr
  have hd20 : fin.e.deep ≤ 20 := by rw [hdeep]; simp only [Er.deep]; omega
  have hn20 := Nat.le_trans (names_le fin.e) hd20
  obtain ⟨r, hr, _, herr⟩ := err c fin.e inv.fine (by omega)
  have h12 := known_ok c
  have h20 := up c (steps fin.e (by omega))
  have h21 := up c (kind fin.e)
  have h23 := up c (handKind fin.e)
  have h22 := fun o => up c (isK fin.e o)
  have hkd := inv.kind
  rw [hkd] at h21 h23
  simp only [hkd] at h22
  have hys := inv.ys
  obtain ⟨ns, hns⟩ := names_strs fin.e
  have hnl : ns.length ≤ 20 := by rw [hns, List.length_map] at hn20; exact hn20
  have l2 := fun t b => blk_up c (loop2 other (1 + kd % 19) t b ns hnl fin.at_ fin.hs fin.a fin.b fin.c fin.d ns.length 0 (by omega))
  obtain ⟨e, ys, at_, hs, a, b, c2, d⟩ := fin
  simp only at *
  subst hys
  rw [← hns] at l2
  rcases inv.at_ with ⟨ha1, hp⟩ | ⟨ha0, q, hp⟩
  · have hneg : ¬ 0 ≤ at_ := by rw [show at_ = -1 from ha1]; decide
    have h18 := up c (where0 e hp)
    have h24 := up c (handAt0 e hp)
    rcases inv.hs with ⟨hh, hw, za, zb, zc, zd⟩ | ⟨hh, p, q2, hw, ea, eb, ec, ed⟩
    · have h19 := up c (whose0 e hw)
      rw [hz_hG] at h19
      cases hany : (ls.take 20).any stepOf with
      | false =>
        rw [hany] at l1
        have hnil := hany0 hany
        cases e with
        | base k => (obtain rfl : k = 1 + kd % 19 := hkd; rw [hnil] at h20 l1; exact useA (xf_ok c 51 _ _ _ _ _ _ _ _ _ _ _ _ _ h12 h20 h18 h19 h21 h22 h23 h24 herr) l1 (gAb_ok _ _ _ _ _ _ _ _ _ _ _ _ _ _ _ _ _ hr hk0 hk1 ho0 ho1 ha1.symm hneg hh))
        | step s e => (exfalso; cases hnil)
        | place s e => (exfalso; cases hp)
        | which s e => (exfalso; cases hw)
      | true =>
        rw [hany] at l1
        have hw1 := hwr hany
        cases e with
        | base k => (exfalso; obtain ⟨t, b, h⟩ := hw1; cases h)
        | step s e => exact useB (xf_ok c 52 _ _ _ _ _ _ _ _ _ _ _ _ _ h12 h20 h18 h19 h21 h22 h23 h24 herr) l1 (l2 _ _) (gBsFF_ok _ _ _ _ _ _ _ _ _ _ _ _ _ _ _ _ _ _ _ hr hk0 hk1 ho0 ho1 ha1.symm hneg hh)
        | place s e => (exfalso; cases hp)
        | which s e => (exfalso; cases hw)
    · have h19 := fok_wk (up c (whose1 e p q2 hw)) (y := .tup [.agg (hG (hA p) (hB p) (hC p) p), b0 true]) (.tup (.cons (.litAgg (hash_hG p) (hash_cells p)) (.refl _)))
      cases hany : (ls.take 20).any stepOf with
      | false =>
        rw [hany] at l1
        have hnil := hany0 hany
        cases e with
        | base k => (exfalso; cases hw)
        | step s e => (exfalso; cases hnil)
        | place s e => (exfalso; cases hp)
        | which s e => (rw [hnil] at h20; exact useA (xf_ok c 69 _ _ _ _ _ _ _ _ _ _ _ _ _ h12 h20 h18 h19 h21 h22 h23 h24 herr) l1 (gAwFT_ok _ _ _ _ _ _ _ _ _ _ _ _ _ _ _ _ _ _ hr hk0 hk1 ho0 ho1 ha1.symm hneg hh ea.symm eb.symm ec.symm ed.symm))
      | true =>
        rw [hany] at l1
        have hw1 := hwr hany
        cases e with
        | base k => (exfalso; cases hw)
        | step s e => exact useB (xf_ok c 52 _ _ _ _ _ _ _ _ _ _ _ _ _ h12 h20 h18 h19 h21 h22 h23 h24 herr) l1 (l2 _ _) (gBsFT_ok _ _ _ _ _ _ _ _ _ _ _ _ _ _ _ _ _ _ _ hr hk0 hk1 ho0 ho1 ha1.symm hneg hh ea.symm eb.symm ec.symm ed.symm)
        | place s e => (exfalso; cases hp)
        | which s e => exact useB (xf_ok c 69 _ _ _ _ _ _ _ _ _ _ _ _ _ h12 h20 h18 h19 h21 h22 h23 h24 herr) l1 (l2 _ _) (gBwFT_ok _ _ _ _ _ _ _ _ _ _ _ _ _ _ _ _ _ _ _ hr hk0 hk1 ho0 ho1 ha1.symm hneg hh ea.symm eb.symm ec.symm ed.symm)
  · have h18 := up c (where1 e _ q hp)
    have h24 := up c (handAt1 e _ q hp)
    rcases inv.hs with ⟨hh, hw, za, zb, zc, zd⟩ | ⟨hh, p, q2, hw, ea, eb, ec, ed⟩
    · have h19 := up c (whose0 e hw)
      rw [hz_hG] at h19
      cases hany : (ls.take 20).any stepOf with
      | false =>
        rw [hany] at l1
        have hnil := hany0 hany
        cases e with
        | base k => (exfalso; cases hp)
        | step s e => (exfalso; cases hnil)
        | place s e => (rw [hnil] at h20; exact useA (xf_ok c 54 _ _ _ _ _ _ _ _ _ _ _ _ _ h12 h20 h18 h19 h21 h22 h23 h24 herr) l1 (gApTF_ok _ _ _ _ _ _ _ _ _ _ _ _ _ _ _ _ _ _ hr hk0 hk1 ho0 ho1 rfl ha0 rfl hh))
        | which s e => (exfalso; cases hw)
      | true =>
        rw [hany] at l1
        have hw1 := hwr hany
        cases e with
        | base k => (exfalso; cases hp)
        | step s e => exact useB (xf_ok c 52 _ _ _ _ _ _ _ _ _ _ _ _ _ h12 h20 h18 h19 h21 h22 h23 h24 herr) l1 (l2 _ _) (gBsTF_ok _ _ _ _ _ _ _ _ _ _ _ _ _ _ _ _ _ _ _ hr hk0 hk1 ho0 ho1 rfl ha0 rfl hh)
        | place s e => exact useB (xf_ok c 54 _ _ _ _ _ _ _ _ _ _ _ _ _ h12 h20 h18 h19 h21 h22 h23 h24 herr) l1 (l2 _ _) (gBpTF_ok _ _ _ _ _ _ _ _ _ _ _ _ _ _ _ _ _ _ _ hr hk0 hk1 ho0 ho1 rfl ha0 rfl hh)
        | which s e => (exfalso; cases hw)
    · have h19 := fok_wk (up c (whose1 e p q2 hw)) (y := .tup [.agg (hG (hA p) (hB p) (hC p) p), b0 true]) (.tup (.cons (.litAgg (hash_hG p) (hash_cells p)) (.refl _)))
      cases hany : (ls.take 20).any stepOf with
      | false =>
        rw [hany] at l1
        have hnil := hany0 hany
        cases e with
        | base k => (exfalso; cases hp)
        | step s e => (exfalso; cases hnil)
        | place s e => (rw [hnil] at h20; exact useA (xf_ok c 54 _ _ _ _ _ _ _ _ _ _ _ _ _ h12 h20 h18 h19 h21 h22 h23 h24 herr) l1 (gApTT_ok _ _ _ _ _ _ _ _ _ _ _ _ _ _ _ _ _ _ hr hk0 hk1 ho0 ho1 rfl ha0 rfl hh ea.symm eb.symm ec.symm ed.symm))
        | which s e => (rw [hnil] at h20; exact useA (xf_ok c 69 _ _ _ _ _ _ _ _ _ _ _ _ _ h12 h20 h18 h19 h21 h22 h23 h24 herr) l1 (gAwTT_ok _ _ _ _ _ _ _ _ _ _ _ _ _ _ _ _ _ _ hr hk0 hk1 ho0 ho1 rfl ha0 rfl hh ea.symm eb.symm ec.symm ed.symm))
      | true =>
        rw [hany] at l1
        have hw1 := hwr hany
        cases e with
        | base k => (exfalso; cases hp)
        | step s e => exact useB (xf_ok c 52 _ _ _ _ _ _ _ _ _ _ _ _ _ h12 h20 h18 h19 h21 h22 h23 h24 herr) l1 (l2 _ _) (gBsTT_ok _ _ _ _ _ _ _ _ _ _ _ _ _ _ _ _ _ _ _ hr hk0 hk1 ho0 ho1 rfl ha0 rfl hh ea.symm eb.symm ec.symm ed.symm)
        | place s e => exact useB (xf_ok c 54 _ _ _ _ _ _ _ _ _ _ _ _ _ h12 h20 h18 h19 h21 h22 h23 h24 herr) l1 (l2 _ _) (gBpTT_ok _ _ _ _ _ _ _ _ _ _ _ _ _ _ _ _ _ _ _ hr hk0 hk1 ho0 ho1 rfl ha0 rfl hh ea.symm eb.symm ec.symm ed.symm)
        | which s e => exact useB (xf_ok c 69 _ _ _ _ _ _ _ _ _ _ _ _ _ h12 h20 h18 h19 h21 h22 h23 h24 herr) l1 (l2 _ _) (gBwTT_ok _ _ _ _ _ _ _ _ _ _ _ _ _ _ _ _ _ _ _ hr hk0 hk1 ho0 ho1 rfl ha0 rfl hh ea.symm eb.symm ec.symm ed.symm)
end
end Go.Proofs.YtihjokkmkdhhpaaDoor
end
