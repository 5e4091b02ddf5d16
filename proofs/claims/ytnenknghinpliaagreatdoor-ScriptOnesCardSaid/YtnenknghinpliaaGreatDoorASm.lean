/- One operation, of any kind but a call. -/
import Derived.Test.YtnenknghinpliaaGreatDoorAScp
namespace Go.AS
noncomputable section

/-- A function's contract: what it hands back and changes, from a prefix for new names, a label for new pieces, its arguments and the memory; or what it demands of what follows. -/
inductive Ct where
  | det (g : Id → Nat → List AV → Hp → Option Res)
  | gen (s : Id → Nat → List AV → Hp → (AV → Upd → Prop) → Prop)

/-- What the walk of a program knows: the globals, by their numbers; the slots whose new pieces the call is to own. -/
structure Cx where
  P : Program
  B : Tb
  gl : Nat → Option AV
  ct : FuncId → Option Ct
  own : Nat → Bool
  lab : Id → Nat → Nat
/-- Plain values alone. -/
def litsOf : List AV → Option (List Value)
  | [] => some []
  | .lit v :: r => match litsOf r with
    | some vs => some (v :: vs)
    | none => none
  | _ => none
/-- A variable that holds a table, by its address. -/
def tabA : AV → Option (List Value)
  | .ref (.agg xs) => litsOf xs
  | _ => none
/-- What a global's address is; a table's block holds the table alone. -/
structure GV (E : Env) (x : AV) (g : Nat) : Prop where
  vr : VR E x (.pointer (some ⟨g, 0, none⟩))
  tab : ∀ vs, tabA x = some vs → ∃ t fz, E.m g = some (.cells vs.toArray t fz)
theorem GV.mono {E E' : Env} {x : AV} {g : Nat} (h : GV E x g) (hE : E.le E') : GV E' x g := ⟨h.vr.mono hE, fun vs hv => let ⟨t, fz, k⟩ := h.tab vs hv; ⟨t, fz, hE.m _ _ k⟩⟩
def GL (C : Cx) (E : Env) : Prop := ∀ g x, C.gl g = some x → GV E x g
theorem GL.mono {C : Cx} {E E' : Env} (h : GL C E) (hE : E.le E') : GL C E' := fun g x hg => (h g x hg).mono hE

structure FR (E : Env) (n : Nat) (fr : Fr) (a : Act) : Prop where
  size : a.tmps.size = n
  defers : a.defers = []
  at_ : ∀ t x, aget fr t = some x → ∃ v, a.tmps[t]? = some v ∧ VR E x v
theorem FR.mono {E E' : Env} {n : Nat} {fr : Fr} {a : Act} (h : FR E n fr a) (hE : E.le E') : FR E' n fr a :=
  ⟨h.size, h.defers, fun t x ht => let ⟨v, h1, h2⟩ := h.at_ t x ht; ⟨v, h1, h2.mono hE⟩⟩

def ev (C : Cx) (fr : Fr) : Operand → Option AV
  | .tmp t => aget fr t
  | .const v => some (.lit v)
  | .global g => C.gl g
  | .func f => some (.lit (.func (.func f) #[] #[]))
theorem ev_sound {C : Cx} {E : Env} (hg : GL C E) {n : Nat} {fr : Fr} {a : Act} (hf : FR E n fr a) {o : Operand} {x : AV} (h : ev C fr o = some x) : VR E x (a.eval o) := by
  cases o with
  | tmp t =>
    obtain ⟨v, h1, h2⟩ := hf.at_ t x h
    simp only [Act.eval, Array.getD_eq_getD_getElem?, h1, Option.getD_some]; exact h2
  | const v => cases h; exact .lit _
  | global g => exact (hg g x h).vr
  | func f => cases h; exact .lit _
def evs (C : Cx) (fr : Fr) : List Operand → Option (List AV)
  | [] => some []
  | o :: r => match ev C fr o, evs C fr r with
    | some x, some xs => some (x :: xs)
    | _, _ => none
theorem evs_sound {C : Cx} {E : Env} (hg : GL C E) {n : Nat} {fr : Fr} {a : Act} (hf : FR E n fr a) : ∀ {os : List Operand} {xs : List AV}, evs C fr os = some xs → RR E .vs xs (os.map a.eval)
  | [], xs, h => by cases h; exact .vnil
  | o :: r, xs, h => by
    unfold evs at h
    split at h
    · rename_i x xs' h1 h2; cases h; exact .vcons (ev_sound hg hf h1) (evs_sound hg hf h2)
    · cases h
def evp (C : Cx) (fr : Fr) : List (Nat × Operand) → Option (List (Nat × AV))
  | [] => some []
  | o :: r => match ev C fr o.2, evp C fr r with
    | some x, some xs => some ((o.1, x) :: xs)
    | _, _ => none
theorem evp_sound {C : Cx} {E : Env} (hg : GL C E) {n : Nat} {fr : Fr} {a : Act} (hf : FR E n fr a) : ∀ {os : List (Nat × Operand)} {xs : List (Nat × AV)}, evp C fr os = some xs →
    (os.map fun (i, x) => (i, a.eval x)).map (·.1) = xs.map (·.1) ∧ RR E .vs (xs.map (·.2)) ((os.map fun (i, x) => (i, a.eval x)).map (·.2))
  | [], xs, h => by cases h; exact ⟨rfl, .vnil⟩
  | o :: r, xs, h => by
    unfold evp at h
    split at h
    · rename_i x xs' h1 h2; cases h
      obtain ⟨h3, h4⟩ := evp_sound hg hf h2
      exact ⟨by simp only [List.map_cons]; rw [h3], .vcons (ev_sound hg hf h1) h4⟩
    · cases h
def evo (C : Cx) (fr : Fr) : Option Operand → Option (Option Int)
  | none => some none
  | some o => match ev C fr o with
    | some (.lit (.int _ n)) => some (some n)
    | _ => none
theorem evo_sound {C : Cx} {E : Env} (hg : GL C E) {n : Nat} {fr : Fr} {a : Act} (hf : FR E n fr a) {o : Option Operand} {r : Option Int} (h : evo C fr o = some r) : bndR r (o.map a.eval) := by
  unfold evo at h
  split at h
  · cases h; trivial
  · split at h
    · rename_i k m he; cases h
      have := (ev_sound hg hf he).lit_inv
      exact ⟨k, this⟩
    · cases h

def okd (o : Option AV) : Option Res := match o with | some x => some ⟨x, [], true⟩ | none => none
def okl (o : Option Value) : Option Res := match o with | some x => some ⟨.lit x, [], true⟩ | none => none
def okg (o : Option (Value × Bool)) (e : Option AV) : Option Res := match o with | some (x, g) => some ⟨.lit x, [], g⟩ | none => okd e
/-- A pointer, an interface's or a function's value that is not nil. -/
def notNil : AV → Bool
  | .ptr .. | .ref _ => true
  | .fn (.func _) _ _ => true
  | .lit (.func (.func _) _ _) => true
  | .iface .. | .lit (.iface ..) => true
  | _ => false
def lenCap (x : AV) : Option Int := match x with | .lst true _ xs => some xs.length | _ => none
/-- How many entries a map of the call's own has. -/
def mapLenE (T : TI) (look : Nat → Option Ent) (x : AV) : Option Int := match T.desc with
  | .map _ _ => match mapView look x with
    | some q => some q.1.length
    | none => none
  | _ => none
theorem mapLen_sound {P : Program} {B : Tb} [TbOk B P] {t rt : TypeId} {T : TI} (hT : ti B t = some T) {E : Env} {τ : Hp} {w : World} (hh : Holds E τ w) {look : Nat → Option Ent} (hl : ∀ l e, look l = some e → aget τ l = some e) {x : AV} {v : Value} {n : Int} (hx : VR E x v)
    (h : mapLenE T look x = some n) : (Builtin.len_ #[t] rt #[v]).run P w = .ok (.int .i64 n) w := by
  unfold mapLenE at h
  split at h
  · rename_i kt et hd
    split at h
    · rename_i q hq; cases h
      obtain ⟨ks, vs⟩ := q
      rcases mapView_sound hh hl hx hq with ⟨rfl, rfl, rfl⟩ | ⟨b, es, clock, us, rfl, h1, h2, h3, h4⟩
      · simp [Builtin.len_, run_ti_underlying hT, hd, goInt]
      · have hg : (getObj b).run P w = .ok (.map es clock) w := by simp only [getObj, Sem.run, h1]
        simp [Builtin.len_, run_ti_underlying hT, hd, hg, goInt, ← h2]
    · cases h
  · cases h
def builtinE (C : Cx) (look : Nat → Option Ent) (p : Id) (d : Nat) (b : Builtin) (ts : Array TypeId) (xs : List AV) : Option Res :=
  match b with
  | .len => match ts.toList, xs with
    | [t], [x] => match ti C.B t with
      | some T => match lenE T x with
        | some n => some ⟨.lit (.int .i64 n), [], true⟩
        | none => match mapLenE T look x with
          | some n => some ⟨.lit (.int .i64 n), [], true⟩
          | none => none
      | none => none
    | _, _ => none
  | .append => match ts.toList, xs with
    | [t, t2], [x, y] => match ti C.B t, ti C.B t2 with
      | some T, some T2 => match appendE C.B T T2 look x y d p with
        | some r => some r
        | none => appendZE C.B T T2 x y d p
      | _, _ => none
    | _, _ => none
  | .min => match xs with
    | [.lit u, .lit v] => okl (pureQ (Builtin.min_ ts 0 #[u, v]))
    | _ => none
  | .max => match xs with
    | [.lit u, .lit v] => okl (pureQ (Builtin.max_ ts 0 #[u, v]))
    | _ => none
  | .cap => match ts.toList, xs with
    | [t], [x] => match ti C.B t with
      | some T => match capE T x with
        | some n => some ⟨.lit (.int .i64 n), [], true⟩
        | none => none
      | none => none
    | _, _ => none
  | .delete => match ts.toList, xs with
    | [t, _], [x, k] => match ti C.B t with
      | some T => match mapDelE C.P C.B T look x k with
        | some upd => some ⟨.lit (.tuple #[]), upd, true⟩
        | none => none
      | none => none
    | _, _ => none
  | .copy => match ts.toList, xs with
    | [t, _], [x, y] => match ti C.B t with
      | some T => copyE C.B T look x y
      | none => none
    | _, _ => none
  | .clear => match ts.toList, xs with
    | [t], [x] => match ti C.B t with
      | some T => match clearE C.B T look x with
        | some upd => some ⟨.lit (.tuple #[]), upd, true⟩
        | none => none
      | none => none
    | _, _ => none
  | _ => none
def mkSlc (d : Nat) (p : Id) (own : Bool) (sz : Nat) (xs : List AV) : Res :=
  match noLabs xs with
  | true => match own with
    | true => ⟨.slc d p 0 xs.length, [(d, ⟨p, .row true sz xs⟩)], true⟩
    | false => ⟨.lst true sz xs, [], true⟩
  | false => ⟨.slc d p 0 xs.length, [(d, ⟨p, .row false sz xs⟩)], true⟩
def opPick (C : Cx) (fr : Fr) (look : Nat → Option Ent) (p : Id) (o : Oper) (c : Operand) (a : Operand) (b : Operand) : Option Res := match ev C fr c with
    | some (.lit (.bool t)) => match t with
      | true => okd (ev C fr a)
      | false => okd (ev C fr b)
    | _ => none
/-- A variable of a type whose first field points to such a variable and whose second one is a slice: a builder. -/
def isBld (B : Tb) (T : TI) (t : TypeId) : Bool := match T.desc with
  | .struct fs => match fs.toList with
    | [f0, _] => match ti B f0.type with
      | some U => match U.desc with
        | .pointer e => Nat.beq e t
        | _ => false
      | none => false
    | _ => false
  | _ => false
def bldZero (T : TI) : Bool := match T.zero with
  | some z => match z.cells.toList with
    | [.pointer none, .slice none 0 0] => true
    | _ => false
  | none => false
def newBl (B : Tb) (T : TI) (t : TypeId) (d : Nat) (p : Id) : Option Res := match isBld B T t with
  | true => match bldZero T with
    | true => some ⟨.ptr d p 0 0, [(d, ⟨p, .bld t (.lit (.slice none 0 0))⟩)], true⟩
    | false => none
  | false => none
theorem newBl_sound {P : Program} {B : Tb} {t : TypeId} {T : TI} {E : Env} {τ : Hp} {w : World} (hh : Holds E τ w) {p : Id} (hp : Fresh E p) {d : Nat} {r : Res} (h : newBl B T t d p = some r) :
    ∃ z, T.zero = some z ∧ ∃ a w' E', (newVar t z).run P w = .ok a w' ∧ VR E' r.x (.pointer (some a)) ∧ Holds E' (τ.app r.upd) w' ∧ Adv E τ w E' (τ.app r.upd) w' ∧ NewIn E E' p := by
  unfold newBl at h
  split at h
  · split at h
    · rename_i hz; cases h
      unfold bldZero at hz
      split at hz
      · rename_i z hzz
        split at hz
        · rename_i hzc
          refine ⟨z, hzz, ?_⟩
          have hzc' : z.cells = #[.pointer none, .slice none 0 0] := by apply Array.ext'; rw [hzc]
          have hle : E.le (E.name p (.at w.heap.size 0 2 1)) := Env.name_le (hp p (List.suffix_refl _))
          obtain ⟨h1, h2⟩ := hh.new hp (.cells z.cells t) 0 2 1 d (.bld t (.lit (.slice none 0 0))) (.bld (u := .pointer none) (v := .slice none 0 0) (by show (w.heap.push _)[w.heap.size]? = _; rw [hzc']; simp) (.inl rfl) (.inl ⟨rfl, rfl⟩))
          refine ⟨⟨w.heap.size, 0, none⟩, w.alloc (.cells z.cells t), _, rfl, ?_, h1, h2, Env.name_newIn⟩
          have := RR.ptr (E := E.name p (.at w.heap.size 0 2 1)) d 0 0 (Env.name_self ..)
          simpa using this
        · cases hz
      · cases hz
    · cases h
  · cases h
def opAlloc (C : Cx) (fr : Fr) (look : Nat → Option Ent) (p : Id) (o : Oper) (t : TypeId) : Option Res := match ti C.B t with
    | some T => match newBl C.B T t (C.lab p (o.dst.getD 0)) p with
      | some r => some r
      | none => match zeroE C.B T t with
        | some z => some (newA C.B T (C.lab p (o.dst.getD 0)) p z)
        | none => none
    | none => none
def opBox (C : Cx) (fr : Fr) (p : Id) (o : Oper) (t : TypeId) (x : Operand) : Option Res := match ev C fr x with
    | some y => match y.storable with
      | true => match C.own (o.dst.getD 0) || !noLab y with
        | true => some (newT C.B t (C.lab p (o.dst.getD 0)) p y)
        | false => some ⟨.ref y, [], true⟩
      | false => none
    | none => none
def opBuild (C : Cx) (fr : Fr) (look : Nat → Option Ent) (p : Id) (o : Oper) (t : TypeId) (ps : Array (Nat × Operand)) : Option Res := match ti C.B t, evp C fr ps.toList with
    | some T, some xs => okd (buildE C.B T t xs)
    | _, _ => none
def opBuildSlice (C : Cx) (fr : Fr) (look : Nat → Option Ent) (p : Id) (o : Oper) (t : TypeId) (n : Nat) (ps : Array (Nat × Operand)) : Option Res := match ti C.B t, evp C fr ps.toList with
    | some T, some xs => match buildSliceE C.B T n xs with
      | some (_, U, ys) => some (mkSlc (C.lab p (o.dst.getD 0)) p (C.own (o.dst.getD 0)) U.size ys)
      | none => none
    | _, _ => none
def opLoad (C : Cx) (fr : Fr) (look : Nat → Option Ent) (p : Id) (o : Oper) (t : TypeId) (x : Operand) : Option Res := match ti C.B t, ev C fr x with
    | some T, some y => okd (loadA T look y)
    | _, _ => none
def opStore (C : Cx) (fr : Fr) (look : Nat → Option Ent) (p : Id) (o : Oper) (t : TypeId) (x : Operand) (y : Operand) : Option Res := match ti C.B t, ev C fr x, ev C fr y with
    | some T, some u, some v => match storeA T look v u with
      | some upd => some ⟨.lit undef, upd, true⟩
      | none => none
    | _, _, _ => none
def opLookup (C : Cx) (fr : Fr) (look : Nat → Option Ent) (p : Id) (o : Oper) (t : TypeId) (x : Operand) (i : Operand) (c : Bool) : Option Res := match ti C.B t, ev C fr x, ev C fr i with
    | some T, some y, some k => okd (lookupE C.P C.B T look y k c)
    | _, _, _ => none
def opMapUpdate (C : Cx) (fr : Fr) (look : Nat → Option Ent) (p : Id) (o : Oper) (t : TypeId) (m : Operand) (k : Operand) (x : Operand) : Option Res := match ti C.B t, ev C fr m, ev C fr k, ev C fr x with
    | some T, some a, some b, some y => match mapUpdE C.P C.B T look a b y with
      | some upd => some ⟨.lit undef, upd, true⟩
      | none => none
    | _, _, _, _ => none
def opInsert (C : Cx) (fr : Fr) (look : Nat → Option Ent) (p : Id) (o : Oper) (t : TypeId) (m : Operand) (k : Operand) (x : Operand) : Option Res := match ti C.B t, ev C fr m, ev C fr k, ev C fr x with
    | some T, some a, some b, some y => match mapUpdE C.P C.B T look a b y with
      | some upd => some ⟨.lit undef, upd, true⟩
      | none => none
    | _, _, _, _ => none
def opMapEntry (C : Cx) (fr : Fr) (look : Nat → Option Ent) (t : TypeId) (m k : Operand) : Option Res := match ti C.B t, ev C fr m, ev C fr k with
    | some T, some a, some b => match mapEntE C.P C.B T look a b with
      | some q => some ⟨q.1, q.2, true⟩
      | none => none
    | _, _, _ => none
def opEntryStore (C : Cx) (fr : Fr) (look : Nat → Option Ent) (m s x : Operand) : Option Res := match ev C fr m, ev C fr s, ev C fr x with
    | some a, some b, some y => match entStoreE look a b y with
      | some upd => some ⟨.lit undef, upd, true⟩
      | none => none
    | _, _, _ => none
def opRange (C : Cx) (fr : Fr) (look : Nat → Option Ent) (p : Id) (o : Oper) (t : TypeId) (x : Operand) : Option Res := match ti C.B t, ev C fr x with
    | some T, some y => mapRangeE T look y (C.lab p (o.dst.getD 0)) p
    | _, _ => none
def opEntry (C : Cx) (fr : Fr) (look : Nat → Option Ent) (x : Operand) : Option Res := match ev C fr x with
    | some y => okd (mapEntryNow look y)
    | none => none
def opMakeMap (C : Cx) (fr : Fr) (look : Nat → Option Ent) (p : Id) (o : Oper) (r : Option Operand) : Option Res := match r with
    | none => some ⟨.mp (C.lab p (o.dst.getD 0)) p, [(C.lab p (o.dst.getD 0), ⟨p, .map true [] 0 [] []⟩)], true⟩
    | some _ => none
def opMakeSlice (C : Cx) (fr : Fr) (p : Id) (o : Oper) (t : TypeId) (x y : Operand) : Option Res := match ti C.B t, ev C fr x, ev C fr y with
    | some T, some (.lit (.int _ n)), some (.lit (.int _ c)) => makeSliceE C.B T n c (C.lab p (o.dst.getD 0)) p
    | _, _, _ => none
def opNilCheck (C : Cx) (fr : Fr) (look : Nat → Option Ent) (p : Id) (o : Oper) (x : Operand) : Option Res := match ev C fr x with
    | some y => match notNil y with
      | true => match y with
        | .iface t z => some ⟨.iface t z, [], true⟩
        | y => some ⟨y, [], true⟩
      | false => none
    | none => none
def opBinOp (C : Cx) (fr : Fr) (look : Nat → Option Ent) (p : Id) (o : Oper) (op : BinOp) (t : TypeId) (x : Operand) (y : Operand) : Option Res := match ev C fr x, ev C fr y with
    | some u, some v => match u, v with
      | .lit a, .lit b => okg (arithE op a b) (cmpP C.P C.B op t x y (.lit a) (.lit b))
      | u, v => okd (match cmpP C.P C.B op t x y u v with | some z => some z | none => ptrCmpE C.B op t look u v)
    | _, _ => none
def opUnOp (C : Cx) (fr : Fr) (look : Nat → Option Ent) (p : Id) (o : Oper) (op : UnOp) (x : Operand) : Option Res := match ev C fr x with
    | some (.lit v) => okl (pureQ (Op.unary op v))
    | _ => none
def opConvert (C : Cx) (fr : Fr) (look : Nat → Option Ent) (p : Id) (o : Oper) (s : TypeId) (t : TypeId) (x : Operand) : Option Res := match ev C fr x with
    | some y => match s2bE C.B s t y with
      | some (_, l) => match C.own (o.dst.getD 0) with
        | true => some ⟨.slc (C.lab p (o.dst.getD 0)) p 0 l.length, [(C.lab p (o.dst.getD 0), ⟨p, .row true 1 (l.map byteA)⟩)], true⟩
        | false => some ⟨.lst false 1 (l.map byteA), [], true⟩
      | none => match y with
        | .lit v => okg (intConvE C.B s t v) (convE C.B s t look (.lit v))
        | y => okd (convE C.B s t look y)
    | none => none
def opMakeInterface (C : Cx) (fr : Fr) (look : Nat → Option Ent) (p : Id) (o : Oper) (t : TypeId) (x : Operand) : Option Res := match ti C.B t, ev C fr x with
    | some T, some y => match T.desc with
      | .interface _ => none
      | _ => some ⟨.iface t y, [], true⟩
    | _, _ => none
def opMakeFunc (C : Cx) (fr : Fr) (look : Nat → Option Ent) (p : Id) (o : Oper) (f : Fn) (first : Array Operand) (cap : Array Operand) : Option Res := match evs C fr first.toList, evs C fr cap.toList with
    | some xs, some ys => some ⟨.fn f xs ys, [], true⟩
    | _, _ => none
def opSlice (C : Cx) (fr : Fr) (look : Nat → Option Ent) (p : Id) (o : Oper) (t : TypeId) (x : Operand) (lo : Option Operand) (hi : Option Operand) (mx : Option Operand) : Option Res := match ti C.B t, ev C fr x, evo C fr lo, evo C fr hi, evo C fr mx with
    | some T, some y, some l, some h, some m => okd (sliceA C.B T look y l h m)
    | _, _, _, _, _ => none
def opFieldAddr (C : Cx) (fr : Fr) (look : Nat → Option Ent) (p : Id) (o : Oper) (t : TypeId) (x : Operand) (f : Nat) : Option Res := match ti C.B t, ev C fr x with
    | some T, some y => okd (fieldAddrE C.B T f y)
    | _, _ => none
def opField (C : Cx) (fr : Fr) (look : Nat → Option Ent) (p : Id) (o : Oper) (t : TypeId) (x : Operand) (f : Nat) : Option Res := match ti C.B t, ev C fr x with
    | some T, some y => okd (fieldE C.B T f y)
    | _, _ => none
def opIndexAddr (C : Cx) (fr : Fr) (look : Nat → Option Ent) (p : Id) (o : Oper) (t : TypeId) (x : Operand) (i : Operand) : Option Res := match ti C.B t, ev C fr x, ev C fr i with
    | some T, some y, some (.lit (.int _ n)) => okd (idxAddrA C.B T look y n)
    | _, _, _ => none
def opIndex (C : Cx) (fr : Fr) (look : Nat → Option Ent) (p : Id) (o : Oper) (t : TypeId) (x : Operand) (i : Operand) : Option Res := match ti C.B t, ev C fr x, ev C fr i with
    | some T, some y, some (.lit (.int _ n)) => okd (indexE C.B T y n)
    | _, _, _ => none
def opTypeAssert (C : Cx) (fr : Fr) (look : Nat → Option Ent) (p : Id) (o : Oper) (x : Operand) (t : TypeId) (c : Bool) : Option Res := match ti C.B t, ev C fr x with
    | some T, some y => okd (typeAssertE C.B t T y c)
    | _, _ => none
def opExtract (C : Cx) (fr : Fr) (look : Nat → Option Ent) (p : Id) (o : Oper) (x : Operand) (i : Nat) : Option Res := match ev C fr x with
    | some (.tup xs) => okd (xs[i]?)
    | some (.lit (.tuple vs)) => okd ((vs[i]?).map .lit)
    | _ => none
def opCall (C : Cx) (fr : Fr) (look : Nat → Option Ent) (p : Id) (o : Oper) (c : Call) : Option Res := match c.callee with
    | .builtin b => match evs C fr c.args.toList with
      | some xs => builtinE C look p (C.lab p (o.dst.getD 0)) b c.argTypes xs
      | none => none
    | _ => none
def opE (C : Cx) (fr : Fr) (look : Nat → Option Ent) (p : Id) (o : Oper) : Option Res :=
  match o.op with
  | .move x | .assign x => okd (ev C fr x)
  | .pick c a b => opPick C fr look p o c a b
  | .alloc t => opAlloc C fr look p o t
  | .box t x => opBox C fr p o t x
  | .build t ps => opBuild C fr look p o t ps
  | .buildSlice t n ps => opBuildSlice C fr look p o t n ps
  | .load t x => opLoad C fr look p o t x
  | .store t x y => opStore C fr look p o t x y
  | .lookup t x i c => opLookup C fr look p o t x i c
  | .mapUpdate t m k x => opMapUpdate C fr look p o t m k x
  | .insert t m k x => opInsert C fr look p o t m k x
  | .mapEntry t m k => opMapEntry C fr look t m k
  | .entryStore _ m s x => opEntryStore C fr look m s x
  | .makeMap _ r => opMakeMap C fr look p o r
  | .range t x => opRange C fr look p o t x
  | .entry x => opEntry C fr look x
  | .makeSlice t x y => opMakeSlice C fr p o t x y
  | .nilCheck x => opNilCheck C fr look p o x
  | .binOp op t x y _ => opBinOp C fr look p o op t x y
  | .unOp op _ x => opUnOp C fr look p o op x
  | .convert s t x => opConvert C fr look p o s t x
  | .makeInterface t x => opMakeInterface C fr look p o t x
  | .makeFunc f first cap => opMakeFunc C fr look p o f first cap
  | .slice t x lo hi mx => opSlice C fr look p o t x lo hi mx
  | .fieldAddr t x f => opFieldAddr C fr look p o t x f
  | .field t x f => opField C fr look p o t x f
  | .indexAddr t x i => opIndexAddr C fr look p o t x i
  | .index t x i => opIndex C fr look p o t x i
  | .typeAssert x _ t c => opTypeAssert C fr look p o x t c
  | .extract x i => opExtract C fr look p o x i
  | .call c => opCall C fr look p o c
  | _ => none

/-- What a run of an operation hands back, whatever its kind. -/
def RetN (P : Program) (s : Sem Next) (E : Env) (τ : Hp) (w : World) (p : Id) (x : AV) (upd : Upd) : Prop :=
  ∃ v w' E', (s.run P w = .ok (.value v) w' ∨ (s.run P w = .ok .skip w' ∧ v = undef)) ∧ VR E' x v ∧ Holds E' (τ.app upd) w' ∧ Adv E τ w E' (τ.app upd) w' ∧ NewIn E E' p
theorem Ret.next {P : Program} {s : Sem Value} {E : Env} {τ : Hp} {w : World} {p : Id} {x : AV} {upd : Upd} (h : Ret P s E τ w p x upd) : RetN P (do Pure.pure (Next.value (← s))) E τ w p x upd := by
  obtain ⟨v, w', E', h1, h2⟩ := h
  exact ⟨v, w', E', .inl (by simp only [Sem.run_bind, h1, Result.andThen_ok, Sem.run_pure]), h2⟩
theorem RetN.pure {P : Program} {s : Sem Next} {E : Env} {τ : Hp} {w : World} {p : Id} {x : AV} (hh : Holds E τ w) {v : Value} (h : s.run P w = .ok (.value v) w) (hv : VR E x v) : RetN P s E τ w p x [] :=
  ⟨v, w, E, .inl h, hv, hh, .refl _ _ _, .refl _ _⟩
theorem RetN.val {P : Program} {s : Sem Value} {E : Env} {τ : Hp} {w : World} {p : Id} {x : AV} (hh : Holds E τ w) (h : ∃ v, s.run P w = .ok v w ∧ VR E x v) : RetN P (do Pure.pure (Next.value (← s))) E τ w p x [] := by
  obtain ⟨v, h1, h2⟩ := h
  exact (Ret.pure hh h1 h2).next
theorem okl_some {o : Option Value} {r : Res} (h : okl o = some r) : ∃ z, o = some z ∧ r.x = .lit z ∧ r.upd = [] := by
  unfold okl at h; split at h
  · cases h; exact ⟨_, rfl, rfl, rfl⟩
  · cases h
theorem okg_some {o : Option (Value × Bool)} {e : Option AV} {r : Res} (h : okg o e = some r) : r.upd = [] ∧ ((∃ z, o = some (z, r.ok) ∧ r.x = .lit z) ∨ e = some r.x) := by
  unfold okg at h; split at h
  · cases h; exact ⟨rfl, .inl ⟨_, rfl, rfl⟩⟩
  · unfold okd at h; split at h
    · cases h; exact ⟨rfl, .inr rfl⟩
    · cases h
theorem okd_some {o : Option AV} {r : Res} (h : okd o = some r) : o = some r.x ∧ r.upd = [] := by
  unfold okd at h; split at h
  · cases h; exact ⟨rfl, rfl⟩
  · cases h

section
variable {C : Cx} [TbOk C.B C.P] {E : Env} {τ : Hp} {w : World} {look : Nat → Option Ent} {p : Id} {r : Res}
theorem builtin_sound (hh : Holds E τ w) (hl : ∀ l e, look l = some e → aget τ l = some e) (hp : Fresh E p) {d : Nat} {b : Builtin} {ts : Array TypeId} {xs : List AV} {vs : List Value} (hx : RR E .vs xs vs)
    (h : builtinE C look p d b ts xs = some r) (hok : r.ok = true) (rt : TypeId) (cs : Array Bool) : RetN C.P (builtin b ts rt cs vs.toArray) E τ w p r.x r.upd := by
  unfold builtinE at h
  split at h
  · split at h
    · rename_i t x hts
      obtain rfl : ts = #[t] := Array.ext' (by simpa using hts)
      obtain ⟨v, vs', h1, h2, rfl⟩ := hx.vs_cons_inv
      obtain rfl := h2.vs_nil_inv
      split at h
      · rename_i T hT
        split at h
        · rename_i n hn; cases h
          simp only [builtin]
          exact RetN.val hh ⟨_, len_sound hT hh h1 hn, .lit _⟩
        · split at h
          · rename_i n hn; cases h
            simp only [builtin]
            exact RetN.val hh ⟨_, mapLen_sound hT hh hl h1 hn, .lit _⟩
          · cases h
      · cases h
    · cases h
  · split at h
    · rename_i t t2 x y hts
      obtain rfl : ts = #[t, t2] := Array.ext' (by simpa using hts)
      obtain ⟨v, vs', h1, h2, rfl⟩ := hx.vs_cons_inv
      obtain ⟨u, us', h3, h4, rfl⟩ := h2.vs_cons_inv
      obtain rfl := h4.vs_nil_inv
      split at h
      · rename_i T T2 hT hT2
        simp only [builtin]
        split at h
        · rename_i hr; cases h
          exact (append_sound hT hT2 hh hl hp h1 h3 hr hok).next
        · exact (appendZ_sound hT hT2 hh hp h1 h3 h).next
      · cases h
    · cases h
  · split at h
    · rename_i a c
      obtain ⟨v, vs', h1, h2, rfl⟩ := hx.vs_cons_inv
      obtain ⟨u, us', h3, h4, rfl⟩ := h2.vs_cons_inv
      obtain rfl := h4.vs_nil_inv
      obtain rfl := h1.lit_inv
      obtain rfl := h3.lit_inv
      obtain ⟨z, h5, h6, h7⟩ := okl_some h
      rw [h6, h7]
      exact RetN.val hh ⟨z, pureQ_sound h5 w, .lit _⟩
    · cases h
  · split at h
    · rename_i a c
      obtain ⟨v, vs', h1, h2, rfl⟩ := hx.vs_cons_inv
      obtain ⟨u, us', h3, h4, rfl⟩ := h2.vs_cons_inv
      obtain rfl := h4.vs_nil_inv
      obtain rfl := h1.lit_inv
      obtain rfl := h3.lit_inv
      obtain ⟨z, h5, h6, h7⟩ := okl_some h
      rw [h6, h7]
      exact RetN.val hh ⟨z, pureQ_sound h5 w, .lit _⟩
    · cases h
  · split at h
    · rename_i t x hts
      obtain rfl : ts = #[t] := Array.ext' (by simpa using hts)
      obtain ⟨v, vs', h1, h2, rfl⟩ := hx.vs_cons_inv
      obtain rfl := h2.vs_nil_inv
      split at h
      · rename_i T hT
        split at h
        · rename_i n hn; cases h
          simp only [builtin]
          exact RetN.val hh ⟨_, cap_sound (rt := rt) hT h1 hn w, .lit _⟩
        · cases h
      · cases h
    · cases h
  · split at h
    · rename_i t t2 x y hts
      obtain rfl : ts = #[t, t2] := Array.ext' (by simpa using hts)
      obtain ⟨v, vs', h1, h2, rfl⟩ := hx.vs_cons_inv
      obtain ⟨u, us', h3, h4, rfl⟩ := h2.vs_cons_inv
      obtain rfl := h4.vs_nil_inv
      split at h
      · rename_i T hT
        split at h
        · rename_i upd hu; cases h
          simp only [builtin]
          obtain ⟨w', g1, g2, g3⟩ := mapDel_sound (t2 := t2) (rt := rt) hT hh hl h1 h3 hu
          exact Ret.next ⟨_, w', E, g1, .lit _, g2, g3, .refl _ _⟩
        · cases h
      · cases h
    · cases h
  · split at h
    · rename_i t t2 x y hts
      obtain rfl : ts = #[t, t2] := Array.ext' (by simpa using hts)
      obtain ⟨v, vs', h1, h2, rfl⟩ := hx.vs_cons_inv
      obtain ⟨u, us', h3, h4, rfl⟩ := h2.vs_cons_inv
      obtain rfl := h4.vs_nil_inv
      split at h
      · rename_i T hT
        simp only [builtin]
        exact (copy_sound hT hh hl h1 h3 h).next
      · cases h
    · cases h
  · split at h
    · rename_i t x hts
      obtain rfl : ts = #[t] := Array.ext' (by simpa using hts)
      obtain ⟨v, vs', h1, h2, rfl⟩ := hx.vs_cons_inv
      obtain rfl := h2.vs_nil_inv
      split at h
      · rename_i T hT
        split at h
        · rename_i upd hu; cases h
          simp only [builtin]
          exact (clear_sound hT hh hl h1 hu).next
        · cases h
      · cases h
    · cases h
  · cases h
end
end
end Go.AS
