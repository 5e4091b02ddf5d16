/- Assertions, comparisons, conversions. -/
import Derived.Test.YtnenknghinpliaaGreatDoorASi
namespace Go.AS
noncomputable section

inductive IfV where
  | nil
  | dyn (t : TypeId) (x : AV)
def ifView : AV → Option IfV
  | .lit .nilIface => some .nil
  | .lit (.iface t v) => some (.dyn t (.lit v))
  | .iface t x => some (.dyn t x)
  | _ => none
theorem ifView_sound {E : Env} {x : AV} {v : Value} {i : IfV} (hx : VR E x v) (h : ifView x = some i) : match i with | .nil => v = .nilIface | .dyn t y => ∃ u, v = .iface t u ∧ VR E y u := by
  unfold ifView at h
  split at h <;> cases h
  · exact hx.lit_inv
  · have := hx.lit_inv; subst this; exact ⟨_, rfl, .lit _⟩
  · exact hx.iface_inv

def taGood (c : Bool) (y : AV) : AV := match c with | true => .tup [y, .lit (.bool true)] | false => y
def taBad (c : Bool) (z : Option Value) : Option AV := match c, z with | true, some z => some (.tup [.lit z, .lit (.bool false)]) | _, _ => none
/-- Does a type lack a method that an interface names? -/
def lacksE (want : List (String × TypeId)) (got : Array Method) : Bool := match want with
  | [] => false
  | x :: r => match got.any fun m => m.name == x.1 && m.sig == x.2 with
    | true => lacksE r got
    | false => true
theorem lacksE_filter (got : Array Method) : ∀ want : List (String × TypeId), lacksE want got = !(want.filter fun x => !got.any fun m => m.name == x.1 && m.sig == x.2).isEmpty
  | [] => rfl
  | x :: r => by
    rw [lacksE, List.filter_cons]
    cases h : got.any fun m => m.name == x.1 && m.sig == x.2
    · simp
    · simpa using lacksE_filter got r
theorem least_cons (s : String) (r : List String) : (Instr.least (s :: r)).isSome = true := rfl
theorem missing_none {want : Array (String × TypeId)} {got : Array Method} (h : lacksE want.toList got = false) : Instr.missingMethod want got = none := by
  rw [lacksE_filter] at h
  have h : (want.toList.filter fun x => !got.any fun m => m.name == x.1 && m.sig == x.2) = [] := by simpa using h
  have h2 : (want.toList.filter fun (name, sig) => !got.any fun m => m.name == name && m.sig == sig) = [] := h
  unfold Instr.missingMethod
  rw [h2]; rfl
theorem missing_some {want : Array (String × TypeId)} {got : Array Method} (h : lacksE want.toList got = true) : ∃ m, Instr.missingMethod want got = some m := by
  rw [lacksE_filter] at h
  unfold Instr.missingMethod
  have h2 : (want.toList.filter fun (name, sig) => !got.any fun m => m.name == name && m.sig == sig) = (want.toList.filter fun x => !got.any fun m => m.name == x.1 && m.sig == x.2) := rfl
  rw [h2]
  generalize (want.toList.filter fun x => !got.any fun m => m.name == x.1 && m.sig == x.2) = l at h
  rcases l with _ | ⟨a, l⟩
  · cases h
  · simp only [List.map_cons, List.partition_eq_filter_filter, List.filter_cons]
    by_cases hc : a.1.contains '.' = true
    · simp only [hc, if_true, Function.comp_def, Bool.not_true, Bool.false_eq_true, if_false, List.map_cons]
      cases hq : Instr.least ((l.map (·.1)).filter fun x => !(x.contains '.')) with
      | some s => exact ⟨s, rfl⟩
      | none => exact Option.isSome_iff_exists.1 (least_cons _ _)
    · simp only [hc, Bool.false_eq_true, if_false, Function.comp_def, Bool.not_false, if_true]
      obtain ⟨m, hm⟩ := Option.isSome_iff_exists.1 (least_cons a.1 ((l.map (·.1)).filter fun x => !(x.contains '.')))
      exact ⟨m, by rw [hm]; rfl⟩
def typeAssertE (B : Tb) (asserted : TypeId) (T : TI) (x : AV) (commaOk : Bool) : Option AV :=
  match T.desc, ifView x with
  | .interface _, some .nil => taBad commaOk T.zero
  | .interface want, some (.dyn t _) =>
    match ti B t with
    | some U => match lacksE want.toList U.methods with
      | false => some (taGood commaOk x)
      | true => taBad commaOk T.zero
    | none => none
  | _, some .nil => taBad commaOk T.zero
  | _, some (.dyn t y) => if t = asserted then some (taGood commaOk y) else taBad commaOk T.zero
  | _, none => none
theorem taGood_sound {E : Env} {c : Bool} {z : AV} {u : Value} (hz : VR E z u) : VR E (taGood c z) (if c then .tuple #[u, .bool true] else u) := by
  cases c
  · exact hz
  · exact .tup (.vcons hz (.vcons (.lit _) .vnil))
theorem taBad_sound {E : Env} {c : Bool} {oz : Option Value} {y : AV} (h : taBad c oz = some y) : c = true ∧ ∃ z, oz = some z ∧ VR E y (.tuple #[z, .bool false]) := by
  unfold taBad at h
  split at h
  · rename_i z; cases h
    exact ⟨rfl, z, rfl, .tup (.vcons (.lit _) (.vcons (.lit _) .vnil))⟩
  · cases h
theorem typeAssert_sound {P : Program} {B : Tb} [TbOk B P] {t xt : TypeId} {T : TI} (hT : ti B t = some T) {E : Env} {w : World} {x y : AV} {v : Value} {c : Bool} (hx : VR E x v) (h : typeAssertE B t T x c = some y) :
    ∃ u, (Instr.typeAssert v xt t c).run P w = .ok u w ∧ VR E y u := by
  unfold typeAssertE at h
  have hpre : (Instr.typeAssert v xt t c).run P w = (match T.desc, v with
      | .interface _, .nilIface => (if c then do pure (.tuple #[← zeroValue t, .bool false]) else runtimePanic (.typeAssertion none none t "") : Sem Value)
      | .interface want, .iface d _ => do
        match Instr.missingMethod want (← typeInfo d).methods with
        | none => pure (if c then .tuple #[v, .bool true] else v)
        | some m => if c then do pure (.tuple #[← zeroValue t, .bool false]) else runtimePanic (.typeAssertion none (some d) t m)
      | _, .nilIface => if c then do pure (.tuple #[← zeroValue t, .bool false]) else runtimePanic (.typeAssertion (some xt) none t "")
      | _, .iface d u => if d = t then pure (if c then .tuple #[u, .bool true] else u) else if c then do pure (.tuple #[← zeroValue t, .bool false]) else runtimePanic (.typeAssertion (some xt) (some d) t "")
      | _, _ => stuck "TypeAssert: interface value expected").run P w := by
    simp only [Instr.typeAssert, Sem.run_bind, run_ti_underlying hT, Result.andThen_ok]
    rfl
  rw [hpre]
  split at h
  · rename_i ms hd hv
    have := ifView_sound hx hv; simp only at this; subst this
    obtain ⟨rfl, z, hz, hy⟩ := taBad_sound (E := E) h
    exact ⟨_, by simp [hd, run_ti_zero hT w hz], hy⟩
  · rename_i want d y' hd hv
    obtain ⟨u, rfl, _⟩ := ifView_sound hx hv
    split at h
    · rename_i i hi
      obtain ⟨i', hi', _, _, _, _, hm', _⟩ := ti_spec (P := P) hi
      split at h
      · rename_i hm; cases h
        have hm := missing_none hm
        exact ⟨_, by simp [hd, typeInfo, hi', hm', hm], taGood_sound hx⟩
      · rename_i hm
        obtain ⟨m, hm⟩ := missing_some hm
        obtain ⟨rfl, z, hz, hy⟩ := taBad_sound (E := E) h
        exact ⟨_, by simp [hd, typeInfo, hi', hm', hm, run_ti_zero hT w hz], hy⟩
    · cases h
  · rename_i hv hni
    have := ifView_sound hx hv; simp only at this; subst this
    obtain ⟨rfl, z, hz, hy⟩ := taBad_sound (E := E) h
    refine ⟨_, ?_, hy⟩
    split <;> simp_all [run_ti_zero hT w hz]
  · rename_i d y' hv hni
    obtain ⟨u, rfl, hu⟩ := ifView_sound hx hv
    split at h
    · rename_i he; subst he; cases h
      refine ⟨_, ?_, taGood_sound hu⟩
      split <;> simp_all
    · rename_i hne
      obtain ⟨rfl, z, hz, hy⟩ := taBad_sound (E := E) h
      refine ⟨_, ?_, hy⟩
      split <;> simp_all [run_ti_zero hT w hz]
  · cases h

/-! Comparisons in which an address stands. -/
inductive Kd where
  | ifc (t : Option TypeId) | pnil | ptr | fnil | fn | snil | sl | mnil | mp
  deriving DecidableEq
def kindOf : AV → Option Kd
  | .lit .nilIface => some (.ifc none)
  | .lit (.iface t _) => some (.ifc (some t))
  | .iface t _ => some (.ifc (some t))
  | .lit (.pointer none) => some .pnil
  | .ptr .. => some .ptr
  | .ref _ => some .ptr
  | .lit .nilFunc => some .fnil
  | .fn .. => some .fn
  | .lit (.func ..) => some .fn
  | .lit (.slice none _ _) => some .snil
  | .lit (.slice (some _) _ _) => some .sl
  | .slc _ _ _ (_ + 1) => some .sl
  | .lst _ _ (_ :: _) => some .sl
  | .lit (.map none) => some .mnil
  | .lit (.map (some _)) => some .mp
  | .mp .. => some .mp
  | .mpv .. => some .mp
  | _ => none
/-- Are they seen to differ? -/
def differ : TypeDesc → Kd → Kd → Bool
  | .interface _, .ifc a, .ifc b => a != b
  | .pointer _, .pnil, .ptr => true
  | .pointer _, .ptr, .pnil => true
  | .func _ _ _, .fnil, .fn => true
  | .func _ _ _, .fn, .fnil => true
  | .slice _, .snil, .sl => true
  | .slice _, .sl, .snil => true
  | .map _ _, .mnil, .mp => true
  | .map _ _, .mp, .mnil => true
  | _, _, _ => false
/-- Are they equal? -/
def eqE (B : Tb) : Nat → TypeId → Value → Value → Option Bool
  | 0, _, _, _ => none
  | f + 1, t, u, v => match ti B t with
    | none => none
    | some T => match T.desc, u, v with
      | .bool, .bool a, .bool b => some (a == b)
      | .int _, .int k a, .int k' b => if k = k' then some (a == b) else none
      | .string, .string a, .string b => some (a == b)
      | .pointer _, .pointer none, .pointer none => some true
      | .pointer _, .pointer none, .pointer (some _) => some false
      | .pointer _, .pointer (some _), .pointer none => some false
      | .interface _, .nilIface, .nilIface => some true
      | .interface _, .nilIface, .iface _ _ => some false
      | .interface _, .iface _ _, .nilIface => some false
      | .interface _, .iface a x, .iface b y => if a = b then match ti B a with
          | some U => match U.cmp with
            | true => eqE B f a x y
            | false => none
          | none => none
        else some false
      | .slice _, .slice none _ _, .slice none _ _ => some true
      | .slice _, .slice none _ _, .slice (some _) _ _ => some false
      | .slice _, .slice (some _) _ _, .slice none _ _ => some false
      | .map _ _, .map none, .map none => some true
      | .map _ _, .map none, .map (some _) => some false
      | .map _ _, .map (some _), .map none => some false
      | .func _ _ _, .nilFunc, .nilFunc => some true
      | .func _ _ _, .nilFunc, .func _ _ _ => some false
      | .func _ _ _, .func _ _ _, .nilFunc => some false
      | _, _, _ => none
def isConst : Operand → Bool
  | .const _ => true
  | _ => false
def guardOk (xo yo : Operand) : Value → Value → Bool
  | .nilIface, .nilIface => isConst xo || isConst yo
  | .agg _, _ => false
  | _, _ => true
def isFl : Value → Bool
  | .float _ _ | .complex _ _ _ => true
  | _ => false
def eqQ (B : Tb) (t : TypeId) (xo yo : Operand) (u v : Value) : Option Bool :=
  match guardOk xo yo u v, isFl u, isFl v with
  | true, false, false => eqE B 64 t u v
  | _, _, _ => none
/-- Arrays of plain elements, cell by cell. -/
def eqCells (q : Value → Value → Option Bool) : Nat → List Value → List Value → Option Bool
  | 0, _, _ => some true
  | n + 1, a :: xs, b :: ys => match q a b with
    | some true => eqCells q n xs ys
    | some false => some false
    | none => none
  | _, _, _ => none
def flatD : TypeDesc → Bool
  | .int _ | .bool | .string => true
  | _ => false
def eqArr (B : Tb) (t : TypeId) (xs ys : List Value) : Option Bool :=
  match ti B t with
  | some T => match T.desc with
    | .array n e => match ti B e with
      | some U => match flatD U.desc, U.agg, Nat.beq U.size 1, Nat.ble n xs.length, Nat.ble n ys.length with
        | true, false, true, true, true => eqCells (eqE B 62 e) n xs ys
        | _, _, _, _, _ => none
      | none => none
    | _ => none
  | none => none
def binQ (B : Tb) (op : BinOp) (t : TypeId) (xo yo : Operand) (u v : Value) : Option Value :=
  match u, v with
  | .int _ _, .int _ _ => pureQ (binOp op t u v)
  | .string _, .string _ => pureQ (binOp op t u v)
  | .agg xs, .agg ys => match op with
    | .eql => match eqArr B t xs.toList ys.toList with
      | some b => some (.bool b)
      | none => none
    | .neq => match eqArr B t xs.toList ys.toList with
      | some b => some (.bool (!b))
      | none => none
    | _ => none
  | _, _ => match op with
    | .eql => match eqQ B t xo yo u v with
      | some b => some (.bool b)
      | none => none
    | .neq => match eqQ B t xo yo u v with
      | some b => some (.bool (!b))
      | none => none
    | _ => none
/-- The model's own value, of structs too. -/
def valNs (g : AV → Option Value) : List AV → Option (List Value)
  | [] => some []
  | x :: xs => match g x, valNs g xs with
    | some v, some vs => some (v.cells.toList ++ vs)
    | _, _ => none
def valN : Nat → AV → Option Value
  | 0, x => x.val?
  | n + 1, x => match x with
    | .agg xs => match valNs (valN n) xs with
      | some cs => some (.agg cs.toArray)
      | none => none
    | x => x.val?
theorem valNs_sound {g : AV → Option Value} (hg : ∀ {E : Env} {x : AV} {v u : Value}, VR E x v → g x = some u → v = u) {E : Env} : ∀ {xs : List AV} {cs us : List Value}, RR E .cs xs cs → valNs g xs = some us → cs = us
  | [], cs, us, h, k => by cases k; exact h.cs_nil_inv
  | x :: xs, cs, us, h, k => by
    obtain ⟨v, cs', h1, h2, rfl⟩ := h.cs_cons_inv
    unfold valNs at k
    split at k
    · rename_i u us' hu hus; cases k
      rw [hg h1 hu, valNs_sound hg h2 hus]
    · cases k
theorem valN_sound : ∀ {n : Nat} {E : Env} {x : AV} {v u : Value}, VR E x v → valN n x = some u → v = u
  | 0, _, _, _, _, h, k => val_sound h k
  | n + 1, E, x, v, u, h, k => by
    unfold valN at k
    split at k
    · split at k
      · rename_i cs hcs; cases k
        obtain ⟨cs', rfl, h1⟩ := h.agg_inv
        rw [valNs_sound (fun h k => valN_sound h k) h1 hcs]
      · cases k
    · exact val_sound h k
def cmpE (B : Tb) (op : BinOp) (t : TypeId) (xo yo : Operand) (x y : AV) : Option AV :=
  match valN 3 x, valN 3 y with
  | some a, some b => match binQ B op t xo yo a b with
    | some z => some (.lit z)
    | none => none
  | _, _ =>
    match ti B t, kindOf x, kindOf y with
    | some T, some a, some b =>
      if differ T.desc a b then match op with
        | .eql => some (.lit (.bool false))
        | .neq => some (.lit (.bool true))
        | _ => none
      else none
    | _, _, _ => none
theorem equal_step (t : TypeId) (u v : Value) : Op.equal t u v = Op.equalIn (9999 + 1) t u v := rfl
section
variable {P : Program} {B : Tb} [TbOk B P] {t : TypeId} {T : TI} (hT : ti B t = some T) (w : World)
include hT
theorem eq_nil_dyn {ms : Array (String × TypeId)} (hd : T.desc = .interface ms) (d : TypeId) (v : Value) : (Op.equal t .nilIface (.iface d v)).run P w = .ok false w := by
  rw [equal_step, Op.equalIn]; simp [run_ti_underlying hT, hd]
theorem eq_dyn_nil {ms : Array (String × TypeId)} (hd : T.desc = .interface ms) (d : TypeId) (v : Value) : (Op.equal t (.iface d v) .nilIface).run P w = .ok false w := by
  rw [equal_step, Op.equalIn]; simp [run_ti_underlying hT, hd]
theorem eq_dyn_dyn {ms : Array (String × TypeId)} (hd : T.desc = .interface ms) {c d : TypeId} (hne : c ≠ d) (u v : Value) : (Op.equal t (.iface c u) (.iface d v)).run P w = .ok false w := by
  rw [equal_step, Op.equalIn]; simp [run_ti_underlying hT, hd, hne]
theorem eq_ptr_nil {e : TypeId} (hd : T.desc = .pointer e) (a : Addr) : (Op.equal t (.pointer (some a)) (.pointer none)).run P w = .ok false w := by
  rw [equal_step, Op.equalIn]; simp [run_ti_underlying hT, hd]
theorem eq_nil_ptr {e : TypeId} (hd : T.desc = .pointer e) (a : Addr) : (Op.equal t (.pointer none) (.pointer (some a))).run P w = .ok false w := by
  rw [equal_step, Op.equalIn]; simp [run_ti_underlying hT, hd]
theorem eq_fn_nil {a b : Array TypeId} {c : Bool} (hd : T.desc = .func a b c) (f : Fn) (x y : Array Value) : (Op.equal t (.func f x y) .nilFunc).run P w = .ok false w := by
  rw [equal_step, Op.equalIn]; simp [run_ti_underlying hT, hd]
theorem eq_sl_nil {e : TypeId} (hd : T.desc = .slice e) (a : Addr) (n c n' c' : Nat) : (Op.equal t (.slice (some a) n c) (.slice none n' c')).run P w = .ok false w := by
  rw [equal_step, Op.equalIn]; simp [run_ti_underlying hT, hd]
theorem eq_nil_sl {e : TypeId} (hd : T.desc = .slice e) (a : Addr) (n c n' c' : Nat) : (Op.equal t (.slice none n' c') (.slice (some a) n c)).run P w = .ok false w := by
  rw [equal_step, Op.equalIn]; simp [run_ti_underlying hT, hd]
theorem eq_mp_nil {k e : TypeId} (hd : T.desc = .map k e) (a : Nat) : (Op.equal t (.map (some a)) (.map none)).run P w = .ok false w := by
  rw [equal_step, Op.equalIn]; simp [run_ti_underlying hT, hd]
theorem eq_nil_mp {k e : TypeId} (hd : T.desc = .map k e) (a : Nat) : (Op.equal t (.map none) (.map (some a))).run P w = .ok false w := by
  rw [equal_step, Op.equalIn]; simp [run_ti_underlying hT, hd]
theorem eq_nil_fn {a b : Array TypeId} {c : Bool} (hd : T.desc = .func a b c) (f : Fn) (x y : Array Value) : (Op.equal t .nilFunc (.func f x y)).run P w = .ok false w := by
  rw [equal_step, Op.equalIn]; simp [run_ti_underlying hT, hd]
end
theorem run_eqGuard {P : Program} (w : World) (op : BinOp) (t : TypeId) (xo yo : Operand) (u v : Value) (hn : ¬ (u = .nilIface ∧ v = .nilIface)) (ha : ∀ cs, u ≠ .agg cs) : (eqGuard op t xo yo u v).run P w = .ok () w := by
  unfold eqGuard
  split <;> first
    | rfl
    | (split <;> first | rfl | simp_all)
theorem eql_of {P : Program} {w : World} {t : TypeId} {xo yo : Operand} {u v : Value} {r : Bool} (hg : ∀ op, (eqGuard op t xo yo u v).run P w = .ok () w) (he : binOp .eql t u v = do pure (.bool (← Op.equal t u v)))
    (hn : binOp .neq t u v = do pure (.bool (!(← Op.equal t u v)))) (h : (Op.equal t u v).run P w = .ok r w) :
    (do eqGuard .eql t xo yo u v; binOp .eql t u v : Sem Value).run P w = .ok (.bool r) w ∧ (do eqGuard .neq t xo yo u v; binOp .neq t u v : Sem Value).run P w = .ok (.bool (!r)) w := by
  constructor
  · simp only [Sem.run_bind, hg, Result.andThen_ok, he, h, Sem.run_pure]
  · simp only [Sem.run_bind, hg, Result.andThen_ok, hn, h, Sem.run_pure]
theorem eqE_sound {P : Program} {B : Tb} [TbOk B P] (w : World) : ∀ (f : Nat) (t : TypeId) (u v : Value) (b : Bool) (g : Nat), f ≤ g → eqE B f t u v = some b → (Op.equalIn g t u v).run P w = .ok b w := by
  intro f
  induction f with
  | zero => intro t u v b g _ h; cases h
  | succ f ih =>
    intro t u v b g hg h
    obtain ⟨g, rfl⟩ : ∃ g', g = g' + 1 := ⟨g - 1, by omega⟩
    unfold eqE at h
    split at h
    · cases h
    · rename_i T hT
      unfold Op.equalIn
      simp only [Sem.run_bind, run_ti_underlying hT, Result.andThen_ok]
      split at h <;> rename_i hd
      all_goals try (cases h; done)
      all_goals try (cases h; simp [hd]; done)
      · split at h
        · rename_i hk; cases h; simp only [hd, hk, if_true, Sem.run_pure]
        · cases h
      · split at h
        · rename_i he; subst he
          split at h
          · rename_i U hU
            split at h
            · rename_i hc
              obtain ⟨i, hi1, _, _, _, _, _, hi2⟩ := ti_spec (P := P) hU
              have hinfo := fun tt (h0 : P.info? tt = some i) => (show (typeInfo tt).run P w = .ok i w by simp [typeInfo, h0])
              simp only [hd, ne_eq, not_true_eq_false, if_false, Sem.run_bind, hinfo _ hi1, Result.andThen_ok, hi2, hc, Bool.not_true, Bool.false_eq_true]
              exact ih _ _ _ _ _ (by omega) h
            · cases h
          · cases h
        · rename_i hne; cases h
          simp only [hd, ne_eq, hne, not_false_eq_true, if_true, Sem.run_pure]
section
variable {P : Program} {B : Tb} [TbOk B P] {t e : TypeId} {T U : TI} {n : Nat} (hT : ti B t = some T) (hd : T.desc = .array n e) (hU : ti B e = some U) (hs : U.size = 1) (ha : U.agg = false)
include hT hd hU hs ha
omit hT hd hs in
theorem part_flat (w : World) {cs : Array Value} {i : Nat} {v : Value} (h : cs[i]? = some v) : (part e cs (i * 1)).run P w = .ok v w := by
  simp only [part, Sem.run_bind, run_ti_agg hU, Result.andThen_ok, ha, Bool.false_eq_true, if_false, Nat.mul_one, h, Sem.run_pure]
theorem guardIn_flat (hf : flatD U.desc = true) (w : World) (xs ys : Array Value) (hx : n ≤ xs.size) (hy : n ≤ ys.size) (g : Nat) : (Op.eqGuardIn (g + 2) t (.agg xs) (.agg ys)).run P w = .ok false w := by
  rw [Op.eqGuardIn]
  simp only [Sem.run_bind, run_ti_underlying hT, hd, Result.andThen_ok, run_ti_size hU, hs, Std.Legacy.Range.forIn_eq_forIn_range', Std.Legacy.Range.size, Nat.sub_zero, Nat.add_sub_cancel, Nat.div_one]
  have hl : ∀ i ∈ List.range' 0 n 1, i < n := fun i hi => by simpa using (List.mem_range'_1.1 hi).2
  generalize List.range' 0 n 1 = l at hl ⊢
  have he : ∀ u v, (Op.eqGuardIn (g + 1) e u v).run P w = .ok false w := fun u v => by
    rw [Op.eqGuardIn]
    simp only [Sem.run_bind, run_ti_underlying hU, Result.andThen_ok]
    unfold flatD at hf
    split at hf
    all_goals first
      | (cases hf; done)
      | (rename_i hq; rw [hq]; rfl)
  induction l with
  | nil => simp
  | cons i l ih =>
    have hi : i < n := hl i (by simp)
    have px := part_flat (P := P) hU ha w (cs := xs) (i := i) (Array.getElem?_eq_getElem (by omega))
    have py := part_flat (P := P) hU ha w (cs := ys) (i := i) (Array.getElem?_eq_getElem (by omega))
    simp only [List.forIn_cons, Sem.run_bind, px, py, he, Result.andThen_ok, Bool.false_eq_true, if_false, Sem.run_pure]
    exact ih fun j hj => hl j (by simp [hj])
theorem guard_flat (hf : flatD U.desc = true) (w : World) (op : BinOp) (xo yo : Operand) (xs ys : Array Value) (hx : n ≤ xs.size) (hy : n ≤ ys.size) : (eqGuard op t xo yo (.agg xs) (.agg ys)).run P w = .ok () w := by
  have hg := guardIn_flat hT hd hU hs ha hf w xs ys hx hy 9998
  have h0 : (program).run P w = .ok P w := rfl
  have hg' : (Op.eqGuardIn Op.maxDepth t (.agg xs) (.agg ys)).run P w = .ok false w := hg
  by_cases hq : P.eqGuardType P.depth t = true <;> cases op <;> simp [eqGuard, h0, hq, hg']
end
theorem cells_loop {P : Program} {B : Tb} [TbOk B P] {e : TypeId} {U : TI} (hU : ti B e = some U) (ha : U.agg = false) (w : World) (g : Nat) {q : Value → Value → Option Bool} (hq : ∀ u v b, q u v = some b → (Op.equalIn g e u v).run P w = .ok b w) {xs ys : Array Value} : ∀ (m i : Nat) (b : Bool), eqCells q m (xs.toList.drop i) (ys.toList.drop i) = some b →
    (forIn (List.range' i m 1) ((none, ()) : Option Bool × Unit) fun i _ => do
        if (!(← Op.equalIn g e (← part e xs (i * 1)) (← part e ys (i * 1)))) = true then pure (ForInStep.done (some false, ())) else pure (ForInStep.yield (none, ())) : Sem (Option Bool × Unit)).run P w = .ok (if b then none else some false, ()) w := by
  intro m
  induction m with
  | zero => intro i b h; rw [eqCells] at h; cases h; rfl
  | succ m ih =>
    intro i b h
    rcases hx : xs.toList.drop i with _ | ⟨u, r1⟩
    · rw [hx] at h; simp [eqCells] at h
    rcases hy : ys.toList.drop i with _ | ⟨v, r2⟩
    · rw [hx, hy] at h; simp [eqCells] at h
    have e1 : xs[i]? = some u := by rw [← Array.getElem?_toList, ← List.head?_drop, hx]; rfl
    have e2 : ys[i]? = some v := by rw [← Array.getElem?_toList, ← List.head?_drop, hy]; rfl
    have d1 : xs.toList.drop (i + 1) = r1 := by simpa [Nat.add_comm] using congrArg (List.drop 1) hx
    have d2 : ys.toList.drop (i + 1) = r2 := by simpa [Nat.add_comm] using congrArg (List.drop 1) hy
    rw [hx, hy, eqCells] at h
    have px := part_flat (P := P) hU ha w e1
    have py := part_flat (P := P) hU ha w e2
    rw [List.range'_succ]
    split at h
    · rename_i hb
      have := ih (i + 1) b (by rw [d1, d2]; exact h)
      simp only [List.forIn_cons, Sem.run_bind, px, py, hq _ _ _ hb, Result.andThen_ok, Bool.not_true, Bool.false_eq_true, if_false, Sem.run_pure] at this ⊢
      exact this
    · rename_i hb; cases h
      simp only [List.forIn_cons, Sem.run_bind, px, py, hq _ _ _ hb, Result.andThen_ok, Bool.not_false, if_true, Sem.run_pure]; rfl
    · cases h
theorem eqArr_sound {P : Program} {B : Tb} [TbOk B P] {t : TypeId} {xs ys : Array Value} {b : Bool} (w : World) (h : eqArr B t xs.toList ys.toList = some b) :
    (∀ op xo yo, (eqGuard op t xo yo (.agg xs) (.agg ys)).run P w = .ok () w) ∧ (Op.equal t (.agg xs) (.agg ys)).run P w = .ok b w := by
  unfold eqArr at h
  split at h
  · rename_i T hT
    split at h
    · rename_i n e hd
      split at h
      · rename_i U hU
        split at h
        · rename_i hf ha hs hx hy
          have hs := Nat.eq_of_beq_eq_true hs
          have hx := Nat.le_of_ble_eq_true hx
          have hy := Nat.le_of_ble_eq_true hy
          refine ⟨fun op xo yo => guard_flat hT hd hU hs ha hf w op xo yo xs ys (by simpa using hx) (by simpa using hy), ?_⟩
          have := cells_loop (P := P) hU ha w 9999 (fun u v b hq => eqE_sound w 62 e u v b 9999 (by decide) hq) n 0 b h
          rw [equal_step, Op.equalIn]
          simp only [Sem.run_bind, run_ti_underlying hT, hd, Result.andThen_ok, run_ti_size hU, hs, Std.Legacy.Range.forIn_eq_forIn_range', Std.Legacy.Range.size, Nat.sub_zero, Nat.add_sub_cancel, Nat.div_one, this]
          cases b <;> rfl
        · cases h
      · cases h
    · cases h
  · cases h
theorem binQ_sound {P : Program} {B : Tb} [TbOk B P] {op : BinOp} {t : TypeId} {xo yo : Operand} {u v z : Value} (w : World) (h : binQ B op t xo yo u v = some z) : (do eqGuard op t xo yo u v; binOp op t u v : Sem Value).run P w = .ok z w := by
  have hgu : ∀ op, guardOk xo yo u v = true → (eqGuard op t xo yo u v).run P w = .ok () w := by
    intro op hgk
    by_cases hnn : u = .nilIface ∧ v = .nilIface
    · obtain ⟨rfl, rfl⟩ := hnn
      simp only [guardOk, Bool.or_eq_true] at hgk
      have : eqGuard op t xo yo .nilIface .nilIface = pure () := by
        cases op <;> try rfl
        all_goals (rcases hgk with hc | hc
                   · cases xo <;> first | (cases hc; done) | rfl
                   · cases yo <;> first | (cases hc; done) | (cases xo <;> rfl))
      rw [this]; rfl
    · exact run_eqGuard w op t xo yo u v hnn fun cs hcs => by subst hcs; cases hgk
  have hq : ∀ b, eqQ B t xo yo u v = some b → (∀ op, (eqGuard op t xo yo u v).run P w = .ok () w) ∧ (Op.equal t u v).run P w = .ok b w ∧ isFl u = false ∧ isFl v = false := fun b hb => by
    unfold eqQ at hb
    split at hb
    · rename_i hgk hf1 hf2; exact ⟨fun op => hgu op hgk, eqE_sound w 64 t u v b _ (by decide) hb, hf1, hf2⟩
    · cases hb
  unfold binQ at h
  split at h
  · simp only [Sem.run_bind, hgu op rfl, Result.andThen_ok]
    exact pureQ_sound h w
  · simp only [Sem.run_bind, hgu op rfl, Result.andThen_ok]
    exact pureQ_sound h w
  · rename_i xs ys
    split at h
    · split at h
      · rename_i b hb; cases h
        obtain ⟨h1, h2⟩ := eqArr_sound w hb
        exact (eql_of (fun op => h1 op xo yo) rfl rfl h2).1
      · cases h
    · split at h
      · rename_i b hb; cases h
        obtain ⟨h1, h2⟩ := eqArr_sound w hb
        exact (eql_of (fun op => h1 op xo yo) rfl rfl h2).2
      · cases h
    · cases h
  · rename_i hni hns hna
    have hb : isFl u = false → isFl v = false → binOp .eql t u v = (do pure (.bool (← Op.equal t u v))) ∧ binOp .neq t u v = (do pure (.bool (!(← Op.equal t u v)))) := fun h1 h2 => by
      cases u <;> cases v <;> first
        | (constructor <;> rfl)
        | (cases h1; done)
        | (cases h2; done)
        | exact absurd rfl (hni _ _ _ _ rfl)
        | exact absurd rfl (hns _ _ rfl)
    split at h
    · split at h
      · rename_i b hb'; cases h
        obtain ⟨h1, h2, h3, h4⟩ := hq b hb'
        exact (eql_of h1 (hb h3 h4).1 (hb h3 h4).2 h2).1
      · cases h
    · split at h
      · rename_i b hb'; cases h
        obtain ⟨h1, h2, h3, h4⟩ := hq b hb'
        exact (eql_of h1 (hb h3 h4).1 (hb h3 h4).2 h2).2
      · cases h
    · cases h
theorem differ_sound {P : Program} {B : Tb} [TbOk B P] {t : TypeId} {T : TI} (hT : ti B t = some T) {E : Env} {w : World} {x y : AV} {u v : Value} {a b : Kd} (hx : VR E x u) (hy : VR E y v) (ha : kindOf x = some a) (hb : kindOf y = some b) (h : differ T.desc a b = true)
    (xo yo : Operand) : (do eqGuard .eql t xo yo u v; binOp .eql t u v : Sem Value).run P w = .ok (.bool false) w ∧ (do eqGuard .neq t xo yo u v; binOp .neq t u v : Sem Value).run P w = .ok (.bool true) w := by
  have key : ∀ {x : AV} {v : Value} {a : Kd}, VR E x v → kindOf x = some a → match a with
      | .ifc none => v = .nilIface | .ifc (some t) => ∃ u, v = .iface t u | .pnil => v = .pointer none | .ptr => ∃ a, v = .pointer (some a) | .fnil => v = .nilFunc | .fn => ∃ f a b, v = .func f a b
      | .snil => ∃ n c, v = .slice none n c | .sl => ∃ a n c, v = .slice (some a) n c | .mnil => v = .map none | .mp => ∃ b, v = .map (some b) := by
    intro x v a hx ha
    unfold kindOf at ha
    split at ha <;> cases ha
    · exact hx.lit_inv
    · have := hx.lit_inv; subst this; exact ⟨_, rfl⟩
    · obtain ⟨u, rfl, _⟩ := hx.iface_inv; exact ⟨_, rfl⟩
    · exact hx.lit_inv
    · cases hx; exact ⟨_, rfl⟩
    · cases hx; exact ⟨_, rfl⟩
    · exact hx.lit_inv
    · cases hx; exact ⟨_, _, _, rfl⟩
    · have := hx.lit_inv; subst this; exact ⟨_, _, _, rfl⟩
    · have := hx.lit_inv; subst this; exact ⟨_, _, rfl⟩
    · have := hx.lit_inv; subst this; exact ⟨_, _, _, rfl⟩
    · rcases slc_inv hx with ⟨h0, _⟩ | ⟨b, base, sz, cap, c, rfl, _⟩
      · cases h0
      · exact ⟨_, _, _, rfl⟩
    · rcases lst_invP hx with ⟨h0, _⟩ | ⟨b, off, cp, c, t, fz, cs, rest, rfl, _⟩
      · cases h0
      · exact ⟨_, _, _, rfl⟩
    · exact hx.lit_inv
    · have := hx.lit_inv; subst this; exact ⟨_, rfl⟩
    · cases hx; exact ⟨_, rfl⟩
    · cases hx; exact ⟨_, rfl⟩
  have h1 := key hx ha
  have h2 := key hy hb
  have g : ∀ {u v : Value}, ¬ (u = .nilIface ∧ v = .nilIface) → (∀ cs, u ≠ .agg cs) → ∀ op, (eqGuard op t xo yo u v).run P w = .ok () w := fun h1 h2 op => run_eqGuard w op t xo yo _ _ h1 h2
  unfold differ at h
  split at h
  · rename_i ms p q hd
    cases p <;> cases q <;> simp at h h1 h2
    · obtain ⟨v', rfl⟩ := h2; subst h1
      exact eql_of (g (by simp) (by simp)) rfl rfl (eq_nil_dyn hT w hd _ _)
    · obtain ⟨u', rfl⟩ := h1; subst h2
      exact eql_of (g (by simp) (by simp)) rfl rfl (eq_dyn_nil hT w hd _ _)
    · obtain ⟨u', rfl⟩ := h1; obtain ⟨v', rfl⟩ := h2
      exact eql_of (g (by simp) (by simp)) rfl rfl (eq_dyn_dyn hT w hd h _ _)
  · rename_i hd
    obtain ⟨a', rfl⟩ := h2; subst h1
    exact eql_of (g (by simp) (by simp)) rfl rfl (eq_nil_ptr hT w hd _)
  · rename_i hd
    obtain ⟨a', rfl⟩ := h1; subst h2
    exact eql_of (g (by simp) (by simp)) rfl rfl (eq_ptr_nil hT w hd _)
  · rename_i hd
    obtain ⟨f, c1, c2, rfl⟩ := h2; subst h1
    exact eql_of (g (by simp) (by simp)) rfl rfl (eq_nil_fn hT w hd _ _ _)
  · rename_i hd
    obtain ⟨f, c1, c2, rfl⟩ := h1; subst h2
    exact eql_of (g (by simp) (by simp)) rfl rfl (eq_fn_nil hT w hd _ _ _)
  · rename_i hd
    obtain ⟨n, c, rfl⟩ := h1; obtain ⟨b, n', c', rfl⟩ := h2
    exact eql_of (g (by simp) (by simp)) rfl rfl (eq_nil_sl hT w hd _ _ _ _ _)
  · rename_i hd
    obtain ⟨b, n, c, rfl⟩ := h1; obtain ⟨n', c', rfl⟩ := h2
    exact eql_of (g (by simp) (by simp)) rfl rfl (eq_sl_nil hT w hd _ _ _ _ _)
  · rename_i hd
    obtain ⟨b, rfl⟩ := h2; subst h1
    exact eql_of (g (by simp) (by simp)) rfl rfl (eq_nil_mp hT w hd _)
  · rename_i hd
    obtain ⟨b, rfl⟩ := h1; subst h2
    exact eql_of (g (by simp) (by simp)) rfl rfl (eq_mp_nil hT w hd _)
  · cases h
theorem cmp_sound {P : Program} {B : Tb} [TbOk B P] {op : BinOp} {t : TypeId} {xo yo : Operand} {E : Env} {w : World} {x y z : AV} {u v : Value} (hx : VR E x u) (hy : VR E y v) (h : cmpE B op t xo yo x y = some z) :
    ∃ r, (do eqGuard op t xo yo u v; binOp op t u v : Sem Value).run P w = .ok r w ∧ VR E z r := by
  unfold cmpE at h
  split at h
  · rename_i a b ha hb
    have := valN_sound hx ha; subst this
    have := valN_sound hy hb; subst this
    split at h
    · rename_i r hr; cases h
      exact ⟨r, binQ_sound w hr, .lit _⟩
    · cases h
  · split at h
    · rename_i T a b hT ha hb
      split at h
      · rename_i hdif
        obtain ⟨h1, h2⟩ := differ_sound hT (w := w) hx hy ha hb hdif xo yo
        split at h <;> cases h
        · exact ⟨_, h1, .lit _⟩
        · exact ⟨_, h2, .lit _⟩
      · cases h
    · cases h
end
end Go.AS
