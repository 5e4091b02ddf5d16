/- Abstract values and memory for proofs over the walk of a Go program: what they are, and how they stand to the model's worlds. -/
import Derived.Orders
import Derived.Laws.World
import Derived.Laws.Sem
namespace Go.AS
noncomputable section

/-- The name of a piece of memory that a function owns. -/
abbrev Id := List Nat

/-- Abstract values. 'l' is a label by which the walk finds the piece; 'i' its name. -/
inductive AV where
  | lit (v : Value)
  | ptr (l : Nat) (i : Id) (k s : Nat)
  | slc (l : Nat) (i : Id) (off len : Nat)
  | ref (x : AV)
  | lst (ex : Bool) (sz : Nat) (xs : List AV)
  | sub (l : Nat) (i : Id) (k s len : Nat)
  | yld (i : Id)
  | mp (l : Nat) (i : Id)
  | mpv (ks : List Value) (vs : List AV)
  | fn (f : Fn) (first cap : List AV)
  | iface (t : TypeId) (x : AV)
  | agg (xs : List AV)
  | tup (xs : List AV)
  deriving Inhabited

mutual
def AV.fsz : AV → Nat
  | .lit v => v.cells.size
  | .agg xs => AV.fszs xs
  | _ => 1
def AV.fszs : List AV → Nat
  | [] => 0
  | x :: xs => x.fsz + AV.fszs xs
end

/-- Pieces of memory: a row of elements (a variable is a row of one), a map, an iterator over a string. 'pu': no label stands in it. -/
inductive AObj where
  | row (pu : Bool) (sz : Nat) (xs : List AV)
  | map (pu : Bool) (bs : List Nat) (clk : Nat) (ks : List Value) (vs : List AV)
  | sit (s : ByteArray) (pos : Nat)
  | mit (l : Nat) (i : Id) (since : Nat) (seen : List Nat) (last : Nat)
  | bld (t : TypeId) (x : AV)
  | buf (t : TypeId) (bs : List UInt8)
  deriving Inhabited

structure Ent where
  id : Id
  obj : AObj
  deriving Inhabited

/-- Where a piece lies: a block, its first cell, the size of an element, how many elements there is room for. 'ghost': nowhere yet. -/
inductive Loc where
  | at (blk base sz cap : Nat)
  | ghost

def Loc.blk? : Loc → Option Nat
  | .at b _ _ _ => some b
  | .ghost => none

structure Env where
  ρ : Id → Option Loc
  m : Nat → Option Obj

inductive Md where
  | o | vs | cs

/-- An environment that names nothing: what nobody writes stands in it. -/
def Env.pure (E : Env) : Env := ⟨fun _ => none, E.m⟩
def Env.sel (E : Env) : Bool → Env
  | true => E.pure
  | false => E
/-- How abstract values stand to the model's: 'o': one to one; 'vs': a list; 'cs': a list to the cells that it takes. -/
inductive RR : Env → Md → List AV → List Value → Prop
  | lit {E : Env} (v : Value) : RR E .o [.lit v] [v]
  | ptr {E : Env} (l : Nat) {i : Id} (k s : Nat) {b base sz cap : Nat} (h : E.ρ i = some (.at b base sz cap)) : RR E .o [.ptr l i k s] [.pointer (some ⟨b, base + k * sz + s, none⟩)]
  | slc {E : Env} (l : Nat) {i : Id} {off len c b base sz cap : Nat} (h : E.ρ i = some (.at b base sz cap)) (h1 : len ≤ c) (h2 : off + c ≤ cap) :
      RR E .o [.slc l i off len] [.slice (some ⟨b, base + off * sz, none⟩) len c]
  | slcZ {E : Env} (l : Nat) {i : Id} (off : Nat) (a : Option Addr) {L : Loc} (h : E.ρ i = some L) : RR E .o [.slc l i off 0] [.slice a 0 0]
  | sub {E : Env} (l : Nat) {i : Id} (k s : Nat) {len c b base sz cap : Nat} (h : E.ρ i = some (.at b base sz cap)) (h1 : len ≤ c) : RR E .o [.sub l i k s len] [.slice (some ⟨b, base + k * sz + s, none⟩) len c]
  | yld {E : Env} {i : Id} {b base sz cap : Nat} (h : E.ρ i = some (.at b base sz cap)) : RR E .o [.yld i] [.func (.yield b) #[] #[]]
  | ref {E : Env} {x : AV} {b off : Nat} {c : Array Value} {t : TypeId} {fz : Nat × Nat} {cs rest : List Value} (h : E.m b = some (.cells c t fz)) (hx : RR E.pure .cs [x] cs)
      (hc : c.toList.drop off = cs ++ rest) : RR E .o [.ref x] [.pointer (some ⟨b, off, none⟩)]
  | lstE {E : Env} {ex : Bool} (sz : Nat) (a : Option Addr) {c : Nat} (h : ex = true → c = 0) : RR E .o [.lst ex sz []] [.slice a 0 c]
  | lst {E : Env} {ex : Bool} {xs : List AV} {b off n cp sz : Nat} {c : Array Value} {t : TypeId} {fz : Nat × Nat} {cs rest : List Value} (h : E.m b = some (.cells c t fz)) (hx : RR E.pure .cs xs cs)
      (hc : c.toList.drop off = cs ++ rest) (hs : ∀ x ∈ xs, x.fsz = sz) (hn : xs.length = n) (h1 : n ≤ cp) (he : ex = true → cp = n)
      (ho : ∀ u ∈ cs, u.oneCell' = true) :
      RR E .o [.lst ex sz xs] [.slice (some ⟨b, off, none⟩) n cp]
  | mp {E : Env} (l : Nat) {i : Id} {b base sz cap : Nat} (h : E.ρ i = some (.at b base sz cap)) : RR E .o [.mp l i] [.map (some b)]
  | mpv {E : Env} {ks : List Value} {vs : List AV} {b : Nat} {es : Array MapEntry} {clock : Nat} {us : List Value} (h : E.m b = some (.map es clock)) (hk : es.toList.map (·.key) = ks)
      (hu : es.toList.map (·.val) = us) (hv : RR E.pure .vs vs us) : RR E .o [.mpv ks vs] [.map (some b)]
  | fn {E : Env} (g : Fn) {first cap : List AV} {f' c' : List Value} (h1 : RR E .vs first f') (h2 : RR E .vs cap c') : RR E .o [.fn g first cap] [.func g f'.toArray c'.toArray]
  | iface {E : Env} (t : TypeId) {x : AV} {v : Value} (h : RR E .o [x] [v]) : RR E .o [.iface t x] [.iface t v]
  | agg {E : Env} {xs : List AV} {cs : List Value} (h : RR E .cs xs cs) : RR E .o [.agg xs] [.agg cs.toArray]
  | tup {E : Env} {xs : List AV} {vs : List Value} (h : RR E .vs xs vs) : RR E .o [.tup xs] [.tuple vs.toArray]
  | vnil {E : Env} : RR E .vs [] []
  | vcons {E : Env} {x : AV} {v : Value} {xs : List AV} {vs : List Value} (h : RR E .o [x] [v]) (hs : RR E .vs xs vs) : RR E .vs (x :: xs) (v :: vs)
  | cnil {E : Env} : RR E .cs [] []
  | ccons {E : Env} {x : AV} {v : Value} {xs : List AV} {cs : List Value} (h : RR E .o [x] [v]) (hs : RR E .cs xs cs) : RR E .cs (x :: xs) (v.cells.toList ++ cs)

abbrev VR (E : Env) (x : AV) (v : Value) : Prop := RR E .o [x] [v]

/-- One environment knows all that another one knows. -/
structure Env.le (E E' : Env) : Prop where
  ρ : ∀ i L, E.ρ i = some L → E'.ρ i = some L
  m : ∀ b o, E.m b = some o → E'.m b = some o

theorem Env.le_refl (E : Env) : E.le E := ⟨fun _ _ h => h, fun _ _ h => h⟩
theorem Env.le_trans {A B C : Env} (h : A.le B) (k : B.le C) : A.le C := ⟨fun i L e => k.ρ i L (h.ρ i L e), fun b o e => k.m b o (h.m b o e)⟩

theorem Env.pure_le (E : Env) : E.pure.le E := ⟨fun _ _ h => (by cases h), fun _ _ h => h⟩
theorem Env.le.pure {E E' : Env} (h : E.le E') : E.pure.le E'.pure := ⟨fun _ _ h => (by cases h), h.m⟩
theorem Env.sel_le (E : Env) (b : Bool) : (E.sel b).le E := by cases b; exact E.le_refl; exact E.pure_le
theorem Env.pure_le_sel (E : Env) (b : Bool) : E.pure.le (E.sel b) := by cases b; exact E.pure_le; exact E.pure.le_refl
theorem Env.le.sel {E E' : Env} (h : E.le E') (b : Bool) : (E.sel b).le (E'.sel b) := by cases b; exact h; exact h.pure
theorem Env.sel_and_le (E : Env) (a b : Bool) : (E.sel a).le (E.sel (a && b)) := by cases a; exact E.le_refl; cases b; exact E.pure_le; exact E.pure.le_refl
theorem RR.mono {E E' : Env} (hE : E.le E') {md : Md} {xs : List AV} {vs : List Value} (h : RR E md xs vs) : RR E' md xs vs := by
  revert E'
  induction h with
  | lit v => intro E' hE; exact .lit v
  | ptr l k s h => intro E' hE; exact .ptr l k s (hE.ρ _ _ h)
  | slc l h h1 h2 => intro E' hE; exact .slc l (hE.ρ _ _ h) h1 h2
  | slcZ l off a h => intro E' hE; exact .slcZ l off a (hE.ρ _ _ h)
  | sub l k s h h1 => intro E' hE; exact .sub l k s (hE.ρ _ _ h) h1
  | yld h => intro E' hE; exact .yld (hE.ρ _ _ h)
  | ref h _ hc ih => intro E' hE; exact .ref (hE.m _ _ h) (ih hE.pure) hc
  | lstE sz a h => intro E' hE; exact .lstE sz a h
  | lst h _ hc hs hn h1 he ho ih => intro E' hE; exact .lst (hE.m _ _ h) (ih hE.pure) hc hs hn h1 he ho
  | mp l h => intro E' hE; exact .mp l (hE.ρ _ _ h)
  | mpv h hk hu _ ih => intro E' hE; exact .mpv (hE.m _ _ h) hk hu (ih hE.pure)
  | fn g _ _ i1 i2 => intro E' hE; exact .fn g (i1 hE) (i2 hE)
  | iface t _ ih => intro E' hE; exact .iface t (ih hE)
  | agg _ ih => intro E' hE; exact .agg (ih hE)
  | tup _ ih => intro E' hE; exact .tup (ih hE)
  | vnil => intro E' hE; exact .vnil
  | vcons _ _ i1 i2 => intro E' hE; exact .vcons (i1 hE) (i2 hE)
  | cnil => intro E' hE; exact .cnil
  | ccons _ _ i1 i2 => intro E' hE; exact .ccons (i1 hE) (i2 hE)

mutual
/-- No label stands in it. -/
def noLab : AV → Bool
  | .ptr .. => false
  | .slc .. => false
  | .sub .. => false
  | .yld _ => false
  | .mp .. => false
  | .iface _ x => noLab x
  | .agg xs => noLabs xs
  | .tup xs => noLabs xs
  | .fn _ xs ys => noLabs xs && noLabs ys
  | _ => true
def noLabs : List AV → Bool
  | [] => true
  | x :: xs => noLab x && noLabs xs
end
theorem RR.pure_of {E : Env} {md : Md} {xs : List AV} {vs : List Value} (h : RR E md xs vs) (hn : noLabs xs = true) : RR E.pure md xs vs := by
  induction h with
  | lit v => exact .lit v
  | ptr l k s h => simp [noLabs, noLab] at hn
  | slc l h h1 h2 => simp [noLabs, noLab] at hn
  | slcZ l off a h => simp [noLabs, noLab] at hn
  | sub l k s h h1 => simp [noLabs, noLab] at hn
  | yld h => simp [noLabs, noLab] at hn
  | ref h hx hc ih => exact .ref h hx hc
  | lstE sz a h => exact .lstE sz a h
  | lst h hx hc hs hl h1 he ho ih => exact .lst h hx hc hs hl h1 he ho
  | mp l h => simp [noLabs, noLab] at hn
  | mpv h hk hu hx ih => exact .mpv h hk hu hx
  | fn g _ _ i1 i2 => simp [noLabs, noLab] at hn; exact .fn g (i1 hn.1) (i2 hn.2)
  | iface t _ ih => simp [noLabs, noLab] at hn; exact .iface t (ih (by simpa [noLabs] using hn))
  | agg _ ih => simp [noLabs, noLab] at hn; exact .agg (ih hn)
  | tup _ ih => simp [noLabs, noLab] at hn; exact .tup (ih hn)
  | vnil => exact .vnil
  | vcons _ _ i1 i2 => simp [noLabs] at hn; exact .vcons (i1 (by simpa [noLabs] using hn.1)) (i2 hn.2)
  | cnil => exact .cnil
  | ccons _ _ i1 i2 => simp [noLabs] at hn; exact .ccons (i1 (by simpa [noLabs] using hn.1)) (i2 hn.2)
theorem RR.sel_of {E : Env} {md : Md} {xs : List AV} {vs : List Value} (h : RR E md xs vs) : RR (E.sel (noLabs xs)) md xs vs := by
  cases hn : noLabs xs
  · exact h
  · exact h.pure_of hn

/-! Taking relations apart. -/
theorem VR.lit_inv {E : Env} {u v : Value} (h : VR E (.lit u) v) : v = u := by cases h; rfl
theorem VR.iface_inv {E : Env} {t : TypeId} {x : AV} {v : Value} (h : VR E (.iface t x) v) : ∃ u, v = .iface t u ∧ VR E x u := by
  cases h with | iface _ h => exact ⟨_, rfl, h⟩
theorem VR.agg_inv {E : Env} {xs : List AV} {v : Value} (h : VR E (.agg xs) v) : ∃ cs, v = .agg cs.toArray ∧ RR E .cs xs cs := by
  cases h with | agg h => exact ⟨_, rfl, h⟩
theorem VR.tup_inv {E : Env} {xs : List AV} {v : Value} (h : VR E (.tup xs) v) : ∃ vs, v = .tuple vs.toArray ∧ RR E .vs xs vs := by
  cases h with | tup h => exact ⟨_, rfl, h⟩
theorem VR.ptr_inv {E : Env} {l : Nat} {i : Id} {k s : Nat} {v : Value} (h : VR E (.ptr l i k s) v) :
    ∃ b base sz cap, E.ρ i = some (.at b base sz cap) ∧ v = .pointer (some ⟨b, base + k * sz + s, none⟩) := by
  cases h with | ptr _ _ _ h => exact ⟨_, _, _, _, h, rfl⟩
theorem VR.sub_inv {E : Env} {l : Nat} {i : Id} {k s n : Nat} {v : Value} (h : VR E (.sub l i k s n) v) :
    ∃ b base sz cap c, E.ρ i = some (.at b base sz cap) ∧ v = .slice (some ⟨b, base + k * sz + s, none⟩) n c ∧ n ≤ c := by
  cases h with | sub _ _ _ h h1 => exact ⟨_, _, _, _, _, h, rfl, h1⟩
theorem VR.ref_invP {E : Env} {x : AV} {v : Value} (h : VR E (.ref x) v) :
    ∃ b off c t fz cs rest, v = .pointer (some ⟨b, off, none⟩) ∧ E.m b = some (.cells c t fz) ∧ RR E.pure .cs [x] cs ∧ c.toList.drop off = cs ++ rest := by
  cases h with | ref h hx hc => exact ⟨_, _, _, _, _, _, _, rfl, h, hx, hc⟩
theorem VR.ref_inv {E : Env} {x : AV} {v : Value} (h : VR E (.ref x) v) :
    ∃ b off c t fz cs rest, v = .pointer (some ⟨b, off, none⟩) ∧ E.m b = some (.cells c t fz) ∧ RR E .cs [x] cs ∧ c.toList.drop off = cs ++ rest := by
  obtain ⟨b, off, c, t, fz, cs, rest, h1, h2, h3, h4⟩ := h.ref_invP
  exact ⟨b, off, c, t, fz, cs, rest, h1, h2, h3.mono E.pure_le, h4⟩
theorem VR.fn_inv {E : Env} {g : Fn} {first cap : List AV} {v : Value} (h : VR E (.fn g first cap) v) :
    ∃ f' c', v = .func g f'.toArray c'.toArray ∧ RR E .vs first f' ∧ RR E .vs cap c' := by
  cases h with | fn _ h1 h2 => exact ⟨_, _, rfl, h1, h2⟩
theorem RR.cs_nil_inv {E : Env} {cs : List Value} (h : RR E .cs [] cs) : cs = [] := by cases h; rfl
theorem RR.cs_cons_inv {E : Env} {x : AV} {xs : List AV} {cs : List Value} (h : RR E .cs (x :: xs) cs) : ∃ v cs', VR E x v ∧ RR E .cs xs cs' ∧ cs = v.cells.toList ++ cs' := by
  cases h with | ccons h hs => exact ⟨_, _, h, hs, rfl⟩
theorem RR.cs_one_inv {E : Env} {x : AV} {cs : List Value} (h : RR E .cs [x] cs) : ∃ v, VR E x v ∧ cs = v.cells.toList := by
  obtain ⟨v, cs', h1, h2, rfl⟩ := h.cs_cons_inv
  obtain rfl := h2.cs_nil_inv
  exact ⟨v, h1, by simp⟩
theorem RR.cs_one {E : Env} {x : AV} {v : Value} (h : VR E x v) : RR E .cs [x] v.cells.toList := by
  have := RR.ccons h .cnil
  simpa using this
theorem RR.vs_nil_inv {E : Env} {vs : List Value} (h : RR E .vs [] vs) : vs = [] := by cases h; rfl
theorem RR.vs_cons_inv {E : Env} {x : AV} {xs : List AV} {vs : List Value} (h : RR E .vs (x :: xs) vs) : ∃ v vs', VR E x v ∧ RR E .vs xs vs' ∧ vs = v :: vs' := by
  cases h with | vcons h hs => exact ⟨_, _, h, hs, rfl⟩
theorem RR.vs_one {E : Env} {x : AV} {v : Value} (h : VR E x v) : RR E .vs [x] [v] := .vcons h .vnil
theorem RR.vs_length {E : Env} {xs : List AV} : ∀ {vs : List Value}, RR E .vs xs vs → vs.length = xs.length := by
  induction xs with
  | nil => intro vs h; obtain rfl := h.vs_nil_inv; rfl
  | cons x xs ih => intro vs h; obtain ⟨v, vs', _, h2, rfl⟩ := h.vs_cons_inv; simp [ih h2]
theorem RR.vs_get {E : Env} {xs : List AV} : ∀ {vs : List Value}, RR E .vs xs vs → ∀ (k : Nat) (x : AV), xs[k]? = some x → ∃ v, vs[k]? = some v ∧ VR E x v := by
  induction xs with
  | nil => intro vs _ k x hk; simp at hk
  | cons y xs ih =>
    intro vs h k x hk
    obtain ⟨v, vs', h1, h2, rfl⟩ := h.vs_cons_inv
    cases k with
    | zero => simp at hk; subst hk; exact ⟨v, by simp, h1⟩
    | succ k => simp at hk; obtain ⟨u, hu, hr⟩ := ih h2 k x hk; exact ⟨u, by simpa using hu, hr⟩

theorem VR.size {E : Env} {x : AV} {v : Value} (h : VR E x v) : v.cells.size = x.fsz := by
  have gen : ∀ {E : Env} {md : Md} {xs : List AV} {vs : List Value}, RR E md xs vs → (md = .o → (vs.map (fun v => v.cells.size)) = xs.map AV.fsz) ∧ (md = .cs → vs.length = AV.fszs xs) := by
    clear h
    intro E md xs vs h
    induction h with
    | agg _ ih => exact ⟨fun _ => by simp [AV.fsz, Value.cells, ih.2 rfl], fun e => by cases e⟩
    | ccons _ _ i1 i2 => exact ⟨fun e => (by cases e), fun _ => by have := i1.1 rfl; simp at this; simp [AV.fszs, this, i2.2 rfl]⟩
    | cnil => exact ⟨fun e => (by cases e), fun _ => rfl⟩
    | vnil => exact ⟨fun e => (by cases e), fun e => (by cases e)⟩
    | vcons _ _ _ _ => exact ⟨fun e => (by cases e), fun e => (by cases e)⟩
    | lit v => exact ⟨fun _ => by simp [AV.fsz], fun e => by cases e⟩
    | _ => exact ⟨fun _ => by simp [AV.fsz, Value.cells], fun e => by cases e⟩
  have := (gen h).1 rfl
  simpa using this
theorem RR.cs_length {E : Env} {xs : List AV} : ∀ {cs : List Value}, RR E .cs xs cs → cs.length = AV.fszs xs := by
  induction xs with
  | nil => intro cs h; obtain rfl := h.cs_nil_inv; rfl
  | cons x xs ih => intro cs h; obtain ⟨v, cs', h1, h2, rfl⟩ := h.cs_cons_inv; simp [AV.fszs, h1.size, ih h2]
theorem RR.cs_append {E : Env} {xs ys : List AV} : ∀ {cs ds : List Value}, RR E .cs xs cs → RR E .cs ys ds → RR E .cs (xs ++ ys) (cs ++ ds) := by
  induction xs with
  | nil => intro cs ds h k; obtain rfl := h.cs_nil_inv; simpa using k
  | cons x xs ih => intro cs ds h k; obtain ⟨v, cs', h1, h2, rfl⟩ := h.cs_cons_inv; simpa using RR.ccons h1 (ih h2 k)
theorem RR.cs_append_inv {E : Env} {xs ys : List AV} : ∀ {cs : List Value}, RR E .cs (xs ++ ys) cs → ∃ c1 c2, cs = c1 ++ c2 ∧ RR E .cs xs c1 ∧ RR E .cs ys c2 := by
  induction xs with
  | nil => intro cs h; exact ⟨[], cs, rfl, .cnil, h⟩
  | cons x xs ih =>
    intro cs h
    obtain ⟨v, cs', h1, h2, rfl⟩ := RR.cs_cons_inv (xs := xs ++ ys) h
    obtain ⟨c1, c2, rfl, h3, h4⟩ := ih h2
    exact ⟨v.cells.toList ++ c1, c2, by simp, .ccons h1 h3, h4⟩
theorem AV.fszs_append (xs ys : List AV) : AV.fszs (xs ++ ys) = AV.fszs xs + AV.fszs ys := by
  induction xs with
  | nil => simp [AV.fszs]
  | cons x xs ih => simp [AV.fszs, ih]; omega
theorem AV.fszs_uniform {sz : Nat} : ∀ {xs : List AV}, (∀ x ∈ xs, x.fsz = sz) → AV.fszs xs = xs.length * sz
  | [], _ => by simp [AV.fszs]
  | x :: xs, h => by
    rw [AV.fszs, AV.fszs_uniform fun y hy => h y (List.mem_cons_of_mem _ hy), h x (List.mem_cons_self ..), List.length_cons, Nat.succ_mul]; omega
/-- The cells of element k of a row. -/
theorem RR.cs_elem {E : Env} {sz : Nat} {xs : List AV} {cs : List Value} (h : RR E .cs xs cs) (hs : ∀ x ∈ xs, x.fsz = sz) {k : Nat} {x : AV} (hk : xs[k]? = some x) :
    ∃ v, VR E x v ∧ ∃ rest, cs.drop (k * sz) = v.cells.toList ++ rest ∧ v.cells.size = sz := by
  have hlt : k < xs.length := by rw [List.getElem?_eq_some_iff] at hk; exact hk.1
  have hx : xs = xs.take k ++ (x :: xs.drop (k + 1)) := by
    rw [List.getElem?_eq_some_iff] at hk
    obtain ⟨_, rfl⟩ := hk
    rw [← List.drop_eq_getElem_cons, List.take_append_drop]
  rw [hx] at h
  obtain ⟨c1, c2, rfl, h1, h2⟩ := h.cs_append_inv
  obtain ⟨v, c3, h3, h4, rfl⟩ := h2.cs_cons_inv
  have hl : c1.length = k * sz := by
    rw [h1.cs_length, AV.fszs_uniform fun y hy => hs y (List.mem_of_mem_take hy), List.length_take, Nat.min_eq_left (Nat.le_of_lt hlt)]
  refine ⟨v, h3, c3, ?_, by rw [h3.size]; exact hs x (List.mem_of_getElem? hk)⟩
  rw [← hl, List.drop_left]
end
end Go.AS
