/- The functions of internal/reflectlite that errors.As calls. -/
import Derived.Test.YtnenknghinpliaaGreatDoorASext
namespace Go.AS
noncomputable section
open Go.Extern

/-- A reflectlite Value: its type, the pointer in it, its flags. -/
def rv (P : Program) : AV → Option (TypeId × AV × Nat)
  | .agg [.lit (.pointer q), x, .lit (.int .u64 f)] => match pureP P (Rtype.ofHandle (.pointer q)) with
    | some t => match pureP P (Rtype.noPack "a Value asked or handed on" t) with
      | some _ => match decide (f = 0) with
        | true => none
        | false => match x with
          | .ptr .. => some (t, x, f.toNat)
          | .ref _ => some (t, x, f.toNat)
          | _ => none
      | none => none
    | none => none
  | _ => none
theorem ptr_of {E : Env} {x : AV} {v : Value} (hx : VR E x v) (h : (∃ l i k s, x = .ptr l i k s) ∨ ∃ y, x = .ref y) : ∃ a, v = .pointer (some a) := by
  rcases h with ⟨l, i, k, s, rfl⟩ | ⟨y, rfl⟩
  · obtain ⟨_, _, _, _, _, rfl⟩ := hx.ptr_inv; exact ⟨_, rfl⟩
  · obtain ⟨_, _, _, _, _, _, _, rfl, _⟩ := hx.ref_inv; exact ⟨_, rfl⟩
theorem partsAny_some (h : Value) (a : Addr) : ∀ g : Int, g ≠ 0 → ReflectliteValue.partsAny (.agg #[h, .pointer (some a), .int .u64 g]) = (do pure (some (← Rtype.ofHandle h, a, g.toNat))) := by
  intro g hg
  cases g with
  | ofNat n => cases n with
    | zero => exact absurd rfl hg
    | succ n => rfl
  | negSucc n => rfl
theorem rv_sound {P : Program} {E : Env} {y : AV} {v : Value} (hy : VR E y v) {t : TypeId} {x : AV} {n : Nat} (h : rv P y = some (t, x, n)) :
    ∃ a, VR E x (.pointer (some a)) ∧ ∀ w, (ReflectliteValue.partsAny v).run P w = .ok (some (t, a, n)) w ∧ (ReflectliteValue.parts v).run P w = .ok (some (t, a, n)) w := by
  unfold rv at h
  split at h
  · rename_i q x' f
    split at h
    · rename_i t' ht
      split at h
      · rename_i hp
        split at h
        · cases h
        · rename_i hf
          have hf := of_decide_eq_false hf
          obtain ⟨cs, rfl, hcs⟩ := hy.agg_inv
          obtain ⟨v1, r1, h1, h2, rfl⟩ := hcs.cs_cons_inv
          obtain ⟨v2, r2, h3, h4, rfl⟩ := h2.cs_cons_inv
          obtain ⟨v3, h5, rfl⟩ := h4.cs_one_inv
          obtain rfl := h1.lit_inv
          obtain rfl := h5.lit_inv
          have hx : ((∃ l i k s, x' = .ptr l i k s) ∨ ∃ y, x' = .ref y) ∧ t = t' ∧ x = x' ∧ n = f.toNat := by
            split at h
            · cases h; exact ⟨.inl ⟨_, _, _, _, rfl⟩, rfl, rfl, rfl⟩
            · cases h; exact ⟨.inr ⟨_, rfl⟩, rfl, rfl, rfl⟩
            · cases h
          obtain ⟨hx, rfl, rfl, rfl⟩ := hx
          obtain ⟨a, rfl⟩ := ptr_of h3 hx
          have hany : ∀ w, (ReflectliteValue.partsAny (.agg ((Value.pointer q).cells.toList ++ ((Value.pointer (some a)).cells.toList ++ (Value.int .u64 f).cells.toList)).toArray)).run P w = .ok (some (t, a, f.toNat)) w := fun w => by
            have e : (Value.agg ((Value.pointer q).cells.toList ++ ((Value.pointer (some a)).cells.toList ++ (Value.int .u64 f).cells.toList)).toArray) = .agg #[.pointer q, .pointer (some a), .int .u64 f] := rfl
            rw [e, partsAny_some _ _ _ hf]
            simp only [Sem.run_bind, pureP_sound ht w, Result.andThen_ok, Sem.run_pure]
          refine ⟨a, h3, fun w => ⟨hany w, ?_⟩⟩
          unfold ReflectliteValue.parts
          simp only [Sem.run_bind, hany w, Result.andThen_ok, pureP_sound hp w, Sem.run_pure]
      · cases h
    · cases h
  · cases h

/-- Runs of functions without a body. -/
theorem ext_ok {C : Cx} {f : FuncId} {fn : Func} {e : Array Value → Sem Value} (h : IsExt C.P f fn e) {g : Id → Nat → List AV → Hp → Option Res}
    (hg : ∀ p d xs σ r, g p d xs σ = some r → ∀ E w vals, Holds E σ w → Fresh E p → RR E .vs xs vals → Ret C.P (e vals.toArray) E σ w p r.x r.upd) : CtOk C f (.det g) := by
  intro p d xs σ K hk E w vals hgl hh hp hv
  simp only [Ct.asks] at hk
  split at hk
  · rename_i r hr
    obtain ⟨v, w', E', h1, h2, h3, h4, h5⟩ := hg p d xs σ r hr E w vals hh hp hv
    refine .inr ⟨v, w', ?_, E', r.x, r.upd, hk.2, h2, h3, h4, h5⟩
    rw [h.run, h1]; rfl
  · exact hk.elim

/-- reflectlite.ValueOf -/
def valueOfX (P : Program) : Id → Nat → List AV → Hp → Option Res := fun p _ xs _ => match xs with
  | [x] => match ifView x with
    | some (.dyn t y) => match pureP P (Rtype.handle t), pureP P (Rtype.kind t), y.storable with
      | some h, some k, true => some ⟨.agg [.lit h, .ptr (enc p) p 0 0, .lit (.int .u64 (Int.ofNat (k + 128 + 0)))], [(enc p, ⟨p, .row (noLab y) y.fsz [y]⟩)], true⟩
      | _, _, _ => none
    | _ => none
  | _ => none
theorem agg3 {E : Env} {a b c : AV} {u v z : Value} (h1 : VR E a u) (h2 : VR E b v) (h3 : VR E c z) (e1 : u.cells = #[u]) (e2 : v.cells = #[v]) (e3 : z.cells = #[z]) : VR E (.agg [a, b, c]) (.agg #[u, v, z]) := by
  have := RR.agg (RR.ccons h1 (RR.ccons h2 (RR.ccons h3 .cnil)))
  rw [e1, e2, e3] at this
  simpa using this
theorem handle_cell {P : Program} {t : TypeId} {h : Value} (hh : pureP P (Rtype.handle t) = some h) : h.cells = #[h] := by
  have := pureP_sound hh default
  simp only [Rtype.handle, Sem.run_bind, show ∀ w, (program).run P w = .ok P w from fun _ => rfl, Result.andThen_ok, Sem.run_pure] at this
  cases this
  rfl
theorem valueOf_ok {C : Cx} {f : FuncId} {fn : Func} (h : IsExt C.P f fn fun args => ReflectliteValue.unpack (args.getD 0 (.tuple #[]))) : CtOk C f (.det (valueOfX C.P)) := by
  refine ext_ok h fun p d xs σ r hr E w vals hh hp hv => ?_
  unfold valueOfX at hr
  split at hr
  · rename_i x
    split at hr
    · rename_i t y hif
      split at hr
      · rename_i hd k hhd hk hst; cases hr
        obtain ⟨v, vs', h1, h2, rfl⟩ := hv.vs_cons_inv
        obtain rfl := h2.vs_nil_inv
        have hi := ifView_sound h1 hif
        simp only at hi
        obtain ⟨u, rfl, hu⟩ := hi
        have hcs := RR.cs_one hu
        obtain ⟨a, w', E', g1, g2, g3, g4, g5⟩ := newVar_sound (P := C.P) (t := t) hh hp hcs (storable_sound y hu hst) (enc p)
        refine ⟨_, w', E', ?_, agg3 (.lit hd) g2 (.lit _) (handle_cell hhd) rfl rfl, g3, g4, g5⟩
        show (ReflectliteValue.unpack (.iface t u)).run C.P w = _
        simp only [ReflectliteValue.unpack, Sem.run_bind, g1, Result.andThen_ok, ReflectliteValue.mk, pureP_sound hhd w', pureP_sound hk w', Sem.run_pure]
        rfl
      · cases hr
    · cases hr
  · cases hr

theorem method_one (z : Sem Value) (f : TypeId → Addr → Nat → Nat → Sem Value) (v : Value) : ReflectliteValue.method z f #[v] = (do match ← ReflectliteValue.parts v with | none => z | some (t, a, fl) => f t a fl (fl % 32)) := rfl
theorem methodAny_one (z : Sem Value) (f : TypeId → Addr → Nat → Nat → Sem Value) (v : Value) : ReflectliteValue.methodAny z f #[v] = (do match ← ReflectliteValue.partsAny v with | none => z | some (t, a, fl) => f t a fl (fl % 32)) := rfl
/-- (reflectlite.Value).Type -/
def typeX (P : Program) : Id → Nat → List AV → Hp → Option Res := fun _ _ xs _ => match xs with
  | [y] => match rv P y with
    | some (t, _, _) => match pureP P (ReflectliteType.toType t) with
      | some v => some ⟨.lit v, [], true⟩
      | none => none
    | none => none
  | _ => none
theorem type_ok {C : Cx} {f : FuncId} {fn : Func} (h : IsExt C.P f fn (ReflectliteValue.methodAny (ReflectliteValue.valueError "reflectlite.Value.Type" 0) fun t _ _ _ => ReflectliteType.toType t)) : CtOk C f (.det (typeX C.P)) := by
  refine ext_ok h fun p d xs σ r hr E w vals hh hp hv => ?_
  unfold typeX at hr
  split at hr
  · rename_i y
    split at hr
    · rename_i t x n hrv
      split at hr
      · rename_i v hty; cases hr
        obtain ⟨u, vs', h1, h2, rfl⟩ := hv.vs_cons_inv
        obtain rfl := h2.vs_nil_inv
        obtain ⟨a, h3, h4⟩ := rv_sound h1 hrv
        refine Ret.pure hh ?_ (.lit v)
        show (ReflectliteValue.methodAny _ _ #[u]).run C.P w = _
        rw [methodAny_one]
        simp only [Sem.run_bind, (h4 w).1, Result.andThen_ok, pureP_sound hty w]
      · cases hr
    · cases hr
  · cases hr

/-- What a load hands back, nil or not. -/
def nilTest : AV → Option Bool
  | .ptr .. => some false
  | .ref _ => some false
  | .iface .. => some false
  | .lit v => match v with
    | .chan none | .nilFunc | .nilIface | .map none | .pointer none | .slice none _ _ => some true
    | _ => some false
  | _ => none
theorem nilTest_sound {P : Program} {E : Env} {x : AV} {v : Value} (hx : VR E x v) {b : Bool} (h : nilTest x = some b) (w : World) :
    (match v with | .chan none | .nilFunc | .nilIface | .map none | .pointer none | .slice none _ _ => (Pure.pure (.bool true) : Sem Value) | _ => Pure.pure (.bool false)).run P w = .ok (.bool b) w := by
  unfold nilTest at h
  split at h
  · cases h; obtain ⟨_, _, _, _, _, rfl⟩ := hx.ptr_inv; rfl
  · cases h; obtain ⟨_, _, _, _, _, _, _, rfl, _⟩ := hx.ref_inv; rfl
  · cases h; obtain ⟨_, rfl, _⟩ := hx.iface_inv; rfl
  · have := hx.lit_inv; subst this
    split at h <;> cases h
    · rfl
    · rfl
    · rfl
    · rfl
    · rfl
    · rfl
    · rename_i h1 h2 h3 h4 h5 h6
      first
      | rfl
      | (split
         · exact (h1 rfl).elim
         · exact (h2 rfl).elim
         · exact (h3 rfl).elim
         · exact (h4 rfl).elim
         · exact (h5 rfl).elim
         · exact (h6 _ _ rfl).elim
         · rfl)
  · cases h
/-- (reflectlite.Value).IsNil -/
def isNilX (P : Program) : Id → Nat → List AV → Hp → Option Res := fun _ _ xs σ => match xs with
  | [y] => match rv P y with
    | some (t, x, n) => match [18, 19, 20, 21, 22, 23, 26].contains (n % 32), ti (tiOf P) t with
      | true, some T => match loadE T (aget σ) x with
        | some z => match nilTest z with
          | some b => some ⟨.lit (.bool b), [], true⟩
          | none => none
        | none => none
      | _, _ => none
    | none => none
  | _ => none
theorem loadVar_sound {P : Program} {t : TypeId} {T : TI} (hT : ti (tiOf P) t = some T) {E : Env} {τ : Hp} {w : World} (hh : Holds E τ w) {x y : AV} {a : Addr} (hx : VR E x (.pointer (some a))) (h : loadE T (aget τ) x = some y) : ∃ u, (loadVar t a).run P w = .ok u w ∧ VR E y u := by
  haveI := TbOk.self P
  obtain ⟨u, h1, h2⟩ := load_sound (P := P) hT hh (look := aget τ) (fun _ _ h => h) hx h
  refine ⟨u, ?_, h2⟩
  simpa only [Instr.loadAt, Instr.sureAddr, Sem.run_bind, Sem.run_pure, Result.andThen_ok] using h1
theorem isNil_ok {C : Cx} {f : FuncId} {fn : Func} (h : IsExt C.P f fn (ReflectliteValue.method (ReflectliteValue.valueError "reflectlite.Value.IsNil" 0) ReflectliteValue.isNil)) : CtOk C f (.det (isNilX C.P)) := by
  refine ext_ok h fun p d xs σ r hr E w vals hh hp hv => ?_
  unfold isNilX at hr
  split at hr
  · rename_i y
    split at hr
    · rename_i t x n hrv
      split at hr
      · rename_i T hk hT
        split at hr
        · rename_i z hz
          split at hr
          · rename_i b hb; cases hr
            obtain ⟨u, vs', h1, h2, rfl⟩ := hv.vs_cons_inv
            obtain rfl := h2.vs_nil_inv
            obtain ⟨a, h3, h4⟩ := rv_sound h1 hrv
            obtain ⟨q, h5, h6⟩ := loadVar_sound hT hh h3 hz
            refine Ret.pure hh ?_ (.lit _)
            show (ReflectliteValue.method _ _ #[u]).run C.P w = _
            rw [method_one]
            simp only [Sem.run_bind, (h4 w).2, Result.andThen_ok, ReflectliteValue.isNil, hk, Bool.not_true, Bool.false_eq_true, if_false, h5]
            exact nilTest_sound h6 hb w
          · cases hr
        · cases hr
      · cases hr
    · cases hr
  · cases hr

/-- (reflectlite.Value).Elem, at a pointer -/
def elemX (P : Program) : Id → Nat → List AV → Hp → Option Res := fun _ _ xs σ => match xs with
  | [y] => match rv P y with
    | some (t, x, n) => match Nat.beq (n % 32) 22, ti (tiOf P) t, pureP P (Rtype.elem? t) with
      | true, some T, some (some e) => match loadE T (aget σ) x with
        | some z => match (match z with | .ptr .. => true | .ref _ => true | _ => false), pureP P (Rtype.handle e), pureP P (Rtype.kind e) with
          | true, some h, some k => some ⟨.agg [.lit h, z, .lit (.int .u64 (Int.ofNat (k + 128 + 256)))], [], true⟩
          | _, _, _ => none
        | none => none
      | _, _, _ => none
    | none => none
  | _ => none
theorem elem_ok {C : Cx} {f : FuncId} {fn : Func} (h : IsExt C.P f fn (ReflectliteValue.method (ReflectliteValue.valueError "reflectlite.Value.Elem" 0) ReflectliteValue.elem)) : CtOk C f (.det (elemX C.P)) := by
  refine ext_ok h fun p d xs σ r hr E w vals hh hp hv => ?_
  unfold elemX at hr
  split at hr
  · rename_i y
    split at hr
    · rename_i t x n hrv
      split at hr
      · rename_i T e hk hT he
        split at hr
        · rename_i z hz
          split at hr
          · rename_i hd k hzp hhd hkd; cases hr
            obtain ⟨u, vs', h1, h2, rfl⟩ := hv.vs_cons_inv
            obtain rfl := h2.vs_nil_inv
            obtain ⟨a, h3, h4⟩ := rv_sound h1 hrv
            obtain ⟨q, h5, h6⟩ := loadVar_sound hT hh h3 hz
            have hz2 : (∃ l i k s, z = .ptr l i k s) ∨ ∃ y, z = .ref y := by
              split at hzp
              · exact .inl ⟨_, _, _, _, rfl⟩
              · exact .inr ⟨_, rfl⟩
              · cases hzp
            obtain ⟨b, rfl⟩ := ptr_of h6 hz2
            have hn : n % 32 = 22 := Nat.eq_of_beq_eq_true hk
            refine Ret.pure hh ?_ (agg3 (.lit hd) h6 (.lit _) (handle_cell hhd) rfl rfl)
            show (ReflectliteValue.method _ _ #[u]).run C.P w = _
            rw [method_one]
            simp only [Sem.run_bind, (h4 w).2, Result.andThen_ok, hn]
            simp [ReflectliteValue.elem, h5, pureP_sound he w, ReflectliteValue.mk, pureP_sound hhd w, pureP_sound hkd w, ReflectliteValue.flagIndir, ReflectliteValue.flagAddr, Result.andThen]
          · cases hr
        · cases hr
      · cases hr
    · cases hr
  · cases hr

/-- reflectlite.TypeOf -/
def typeOfX (P : Program) : Id → Nat → List AV → Hp → Option Res := fun _ _ xs _ => match xs with
  | [x] => match ifView x with
    | some (.dyn t _) => match pureP P (ReflectliteType.toType t) with
      | some v => some ⟨.lit v, [], true⟩
      | none => none
    | _ => none
  | _ => none
theorem typeOf_ok {C : Cx} {f : FuncId} {fn : Func} (h : IsExt C.P f fn ReflectliteType.typeOf) : CtOk C f (.det (typeOfX C.P)) := by
  refine ext_ok h fun p d xs σ r hr E w vals hh hp hv => ?_
  unfold typeOfX at hr
  split at hr
  · rename_i x
    split at hr
    · rename_i t y hif
      split at hr
      · rename_i v hty; cases hr
        obtain ⟨u, vs', h1, h2, rfl⟩ := hv.vs_cons_inv
        obtain rfl := h2.vs_nil_inv
        have hi := ifView_sound h1 hif
        simp only at hi
        obtain ⟨z, rfl, hz⟩ := hi
        refine Ret.pure hh ?_ (.lit v)
        show (ReflectliteType.typeOf #[.iface t z]).run C.P w = _
        exact pureP_sound hty w
      · cases hr
    · cases hr
  · cases hr

theorem set_two (v x : Value) : ReflectliteValue.set #[v, x] = (do
    let (some (dst, a, fl), some (src, b, _)) := (← ReflectliteValue.parts v, ← ReflectliteValue.parts x)
      | unsupported (.noEntry "extern/(internal/reflectlite.Value).Set.zeroValue")
    if fl / ReflectliteValue.flagAddr % 2 == 0 then unsupported (.noEntry "extern/(internal/reflectlite.Value).Set.unaddressable")
    let val ← loadVar src b
    if ← Rtype.directlyAssignable dst src then storeVar dst a val
    else if ← Rtype.implements dst src then
      if (← Rtype.kind src) == 20 then
        match val with
        | .nilIface => unsupported (.noEntry "extern/reflectlite: a nil value of one interface type handed on as a value of another")
        | _ => storeVar dst a val
      else storeVar dst a (.iface src val)
    else panicString ("reflectlite.Set: value of type " ++ (← Rtype.spelt src) ++ " is not assignable to type " ++ (← Rtype.spelt dst))
    pure (.tuple #[])) := rfl
/-- (reflectlite.Value).Set, of a value that is assignable as it is -/
def setX (P : Program) : Id → Nat → List AV → Hp → Option Res := fun _ _ xs σ => match xs with
  | [y, x] => match rv P y, rv P x with
    | some (dst, pa, fl), some (src, pb, _) => match Nat.beq (fl / 256 % 2) 0, ti (tiOf P) src, ti (tiOf P) dst, pureP P (Rtype.directlyAssignable dst src) with
      | false, some T, some U, some true => match loadE T (aget σ) pb with
        | some z => match storeE U (aget σ) z pa with
          | some upd => some ⟨.lit (.tuple #[]), upd, true⟩
          | none => none
        | none => none
      | _, _, _, _ => none
    | _, _ => none
  | _ => none
theorem set_ok {C : Cx} {f : FuncId} {fn : Func} (h : IsExt C.P f fn ReflectliteValue.set) : CtOk C f (.det (setX C.P)) := by
  refine ext_ok h fun p d xs σ r hr E w vals hh hp hv => ?_
  unfold setX at hr
  split at hr
  · rename_i y x
    split at hr
    · rename_i dst pa fl src pb fl2 hr1 hr2
      split at hr
      · rename_i T U hfl hT hU hd
        split at hr
        · rename_i z hz
          split at hr
          · rename_i upd hup; cases hr
            obtain ⟨v1, vs', h1, h2, rfl⟩ := hv.vs_cons_inv
            obtain ⟨v2, vs'', h3, h4, rfl⟩ := h2.vs_cons_inv
            obtain rfl := h4.vs_nil_inv
            obtain ⟨a, k1, k2⟩ := rv_sound h1 hr1
            obtain ⟨b, k3, k4⟩ := rv_sound h3 hr2
            obtain ⟨u, k5, k6⟩ := loadVar_sound hT hh k3 hz
            haveI := TbOk.self C.P
            obtain ⟨w', g1, g2, g3⟩ := store_sound (P := C.P) hU hh (look := aget σ) (fun _ _ h => h) k1 k6 hup
            refine ⟨.tuple #[], w', E, ?_, .lit _, g2, g3, .refl _ _⟩
            have hst : (storeVar dst a u).run C.P w = .ok () w' := by
              simpa only [Instr.storeAt, Instr.sureAddr, Sem.run_bind, Sem.run_pure, Result.andThen_ok] using g1
            have hf : (fl / ReflectliteValue.flagAddr % 2 == 0) = false := by
              have h0 : fl / 256 % 2 ≠ 0 := fun e => by rw [e] at hfl; cases hfl
              simpa [ReflectliteValue.flagAddr] using h0
            show (ReflectliteValue.set #[v1, v2]).run C.P w = _
            rw [set_two]
            simp only [Sem.run_bind, (k2 w).2, (k4 w).2, Result.andThen_ok, Sem.run_pure, hf, Bool.false_eq_true, if_false, k5, pureP_sound hd w, if_true, hst]
          · cases hr
        · cases hr
      · cases hr
    · cases hr
  · cases hr
end
end Go.AS
