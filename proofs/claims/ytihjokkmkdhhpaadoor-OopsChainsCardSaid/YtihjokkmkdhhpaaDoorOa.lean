/- The program as the walk knows it; its functions without a body. -/
import Derived.Test.YtihjokkmkdhhpaaDoorChecked
import Derived.Test.YtihjokkmkdhhpaaDoorAWh
import Derived.Test.YtihjokkmkdhhpaaDoorASlaw
import Derived.Test.YtihjokkmkdhhpaaDoorAWl
section
namespace Go.Proofs.YtihjokkmkdhhpaaDoor
open Go.AS
noncomputable section
def fn (f : Nat) : Func := (Tryd.prog.funcs[f]?).getD default
def code (f : Nat) : Code := ((Tryd.prog.funcs[f]?).bind (·.body)).getD .skip

def extF (f : FuncId) : Option (Go.AS.Id → Nat → List AV → Hp → Option Res) :=
  (bsel (Nat.beq f 26) (some (valueOfX Tryd.prog))
  (bsel (Nat.beq f 27) (some (typeX Tryd.prog))
  (bsel (Nat.beq f 28) (some (isNilX Tryd.prog))
  (bsel (Nat.beq f 30) (some (typeOfX Tryd.prog))
  (bsel (Nat.beq f 32) (some (elemX Tryd.prog))
  (bsel (Nat.beq f 33) (some (setX Tryd.prog))
  (bsel (Nat.beq f 48) (some (pureX Tryd.prog (Extern.ReflectliteType.abiMethod fun t => do pure (.int .u8 (← Extern.Rtype.kind t)))))
  (bsel (Nat.beq f 76) (some (pureX Tryd.prog (Extern.ReflectliteType.relation "AssignableTo" Extern.ReflectliteType.assignableTo)))
  (bsel (Nat.beq f 77) (some (pureX Tryd.prog (Extern.ReflectliteType.method fun t => do Extern.Rtype.noPackHeld "Comparable" t; pure (.bool (← typeInfo t).comparable))))
  (bsel (Nat.beq f 78) (some (pureX Tryd.prog (Extern.ReflectliteType.method Extern.ReflectliteType.elem)))
  (bsel (Nat.beq f 79) (some (pureX Tryd.prog (Extern.ReflectliteType.relation "Implements" Extern.ReflectliteType.implements_))) (none))))))))))))
def XG (gl : Nat → Option AV) : PX := { P := Tryd.prog, gl := gl, ext := extF, own := fun f _ => Nat.beq f 5, m := 100000 }
theorem isExt26 : IsExt Tryd.prog 26 Tryd.f26 (fun args => Extern.ReflectliteValue.unpack (args.getD 0 (.tuple #[]))) := ⟨Tryd.func26, by kernel_rfl, by kernel_rfl, by kernel_rfl, by kernel_rfl⟩
theorem isExt27 : IsExt Tryd.prog 27 Tryd.f27 (Extern.ReflectliteValue.methodAny (Extern.ReflectliteValue.valueError "reflectlite.Value.Type" 0) fun t _ _ _ => Extern.ReflectliteType.toType t) := ⟨Tryd.func27, by kernel_rfl, by kernel_rfl, by kernel_rfl, by kernel_rfl⟩
theorem isExt28 : IsExt Tryd.prog 28 Tryd.f28 (Extern.ReflectliteValue.method (Extern.ReflectliteValue.valueError "reflectlite.Value.IsNil" 0) Extern.ReflectliteValue.isNil) := ⟨Tryd.func28, by kernel_rfl, by kernel_rfl, by kernel_rfl, by kernel_rfl⟩
theorem isExt30 : IsExt Tryd.prog 30 Tryd.f30 (Extern.ReflectliteType.typeOf) := ⟨Tryd.func30, by kernel_rfl, by kernel_rfl, by kernel_rfl, by kernel_rfl⟩
theorem isExt32 : IsExt Tryd.prog 32 Tryd.f32 (Extern.ReflectliteValue.method (Extern.ReflectliteValue.valueError "reflectlite.Value.Elem" 0) Extern.ReflectliteValue.elem) := ⟨Tryd.func32, by kernel_rfl, by kernel_rfl, by kernel_rfl, by kernel_rfl⟩
theorem isExt33 : IsExt Tryd.prog 33 Tryd.f33 (Extern.ReflectliteValue.set) := ⟨Tryd.func33, by kernel_rfl, by kernel_rfl, by kernel_rfl, by kernel_rfl⟩
theorem isExt48 : IsExt Tryd.prog 48 Tryd.f48 (Extern.ReflectliteType.abiMethod fun t => do pure (.int .u8 (← Extern.Rtype.kind t))) := ⟨Tryd.func48, by kernel_rfl, by kernel_rfl, by kernel_rfl, by kernel_rfl⟩
theorem isExt76 : IsExt Tryd.prog 76 Tryd.f76 (Extern.ReflectliteType.relation "AssignableTo" Extern.ReflectliteType.assignableTo) := ⟨Tryd.func76, by kernel_rfl, by kernel_rfl, by kernel_rfl, by kernel_rfl⟩
theorem isExt77 : IsExt Tryd.prog 77 Tryd.f77 (Extern.ReflectliteType.method fun t => do Extern.Rtype.noPackHeld "Comparable" t; pure (.bool (← typeInfo t).comparable)) := ⟨Tryd.func77, by kernel_rfl, by kernel_rfl, by kernel_rfl, by kernel_rfl⟩
theorem isExt78 : IsExt Tryd.prog 78 Tryd.f78 (Extern.ReflectliteType.method Extern.ReflectliteType.elem) := ⟨Tryd.func78, by kernel_rfl, by kernel_rfl, by kernel_rfl, by kernel_rfl⟩
theorem isExt79 : IsExt Tryd.prog 79 Tryd.f79 (Extern.ReflectliteType.relation "Implements" Extern.ReflectliteType.implements_) := ⟨Tryd.func79, by kernel_rfl, by kernel_rfl, by kernel_rfl, by kernel_rfl⟩
theorem soundG {gl : Nat → Option AV} (hgl : ∀ g x, gl g = some x → ∀ M, x.cv M = some x) : (XG gl).Sound := by
  refine ⟨by kernel_rfl, hgl, fun f g h => ?_⟩
  have h : extF f = some g := h
  unfold extF at h
  cases hb26 : Nat.beq f 26
  · rw [hb26, bsel_false] at h
    cases hb27 : Nat.beq f 27
    · rw [hb27, bsel_false] at h
      cases hb28 : Nat.beq f 28
      · rw [hb28, bsel_false] at h
        cases hb30 : Nat.beq f 30
        · rw [hb30, bsel_false] at h
          cases hb32 : Nat.beq f 32
          · rw [hb32, bsel_false] at h
            cases hb33 : Nat.beq f 33
            · rw [hb33, bsel_false] at h
              cases hb48 : Nat.beq f 48
              · rw [hb48, bsel_false] at h
                cases hb76 : Nat.beq f 76
                · rw [hb76, bsel_false] at h
                  cases hb77 : Nat.beq f 77
                  · rw [hb77, bsel_false] at h
                    cases hb78 : Nat.beq f 78
                    · rw [hb78, bsel_false] at h
                      cases hb79 : Nat.beq f 79
                      · rw [hb79, bsel_false] at h
                        cases h
                      · rw [hb79, bsel_true] at h; cases h
                        obtain rfl := Nat.eq_of_beq_eq_true hb79
                        exact pureX_ok (C := cx (XG gl) 79 fun _ _ _ _ _ => none) isExt79
                    · rw [hb78, bsel_true] at h; cases h
                      obtain rfl := Nat.eq_of_beq_eq_true hb78
                      exact pureX_ok (C := cx (XG gl) 78 fun _ _ _ _ _ => none) isExt78
                  · rw [hb77, bsel_true] at h; cases h
                    obtain rfl := Nat.eq_of_beq_eq_true hb77
                    exact pureX_ok (C := cx (XG gl) 77 fun _ _ _ _ _ => none) isExt77
                · rw [hb76, bsel_true] at h; cases h
                  obtain rfl := Nat.eq_of_beq_eq_true hb76
                  exact pureX_ok (C := cx (XG gl) 76 fun _ _ _ _ _ => none) isExt76
              · rw [hb48, bsel_true] at h; cases h
                obtain rfl := Nat.eq_of_beq_eq_true hb48
                exact pureX_ok (C := cx (XG gl) 48 fun _ _ _ _ _ => none) isExt48
            · rw [hb33, bsel_true] at h; cases h
              obtain rfl := Nat.eq_of_beq_eq_true hb33
              exact set_ok (C := cx (XG gl) 33 fun _ _ _ _ _ => none) isExt33
          · rw [hb32, bsel_true] at h; cases h
            obtain rfl := Nat.eq_of_beq_eq_true hb32
            exact elem_ok (C := cx (XG gl) 32 fun _ _ _ _ _ => none) isExt32
        · rw [hb30, bsel_true] at h; cases h
          obtain rfl := Nat.eq_of_beq_eq_true hb30
          exact typeOf_ok (C := cx (XG gl) 30 fun _ _ _ _ _ => none) isExt30
      · rw [hb28, bsel_true] at h; cases h
        obtain rfl := Nat.eq_of_beq_eq_true hb28
        exact isNil_ok (C := cx (XG gl) 28 fun _ _ _ _ _ => none) isExt28
    · rw [hb27, bsel_true] at h; cases h
      obtain rfl := Nat.eq_of_beq_eq_true hb27
      exact type_ok (C := cx (XG gl) 27 fun _ _ _ _ _ => none) isExt27
  · rw [hb26, bsel_true] at h; cases h
    obtain rfl := Nat.eq_of_beq_eq_true hb26
    exact valueOf_ok (C := cx (XG gl) 26 fun _ _ _ _ _ => none) isExt26
noncomputable def gl0 (g : Nat) : Option AV := bsel (Nat.beq g 0) (some (.ref (.lit (.iface 90 (.agg #[.pointer (some ⟨4, 25, none⟩)]))))) none
def X0 : PX := XG gl0
theorem sound0 : X0.Sound := soundG fun g x h => (by
    have h : bsel (Nat.beq g 0) (some (.ref (.lit (.iface 90 (.agg #[.pointer (some ⟨4, 25, none⟩)]))))) none = some x := h
    cases hb : Nat.beq g 0
    · rw [hb, bsel_false] at h; cases h
    · rw [hb, bsel_true] at h; cases h; intro M; rfl)
/-- A table of the library, whatever numbers stand in it. -/
noncomputable def tab (c : Nat → Int) : Array Value := ((List.range 20).map fun i => Value.int .u64 (c i)).toArray
noncomputable def gl1 (c : Nat → Int) (g : Nat) : Option AV := bsel (Nat.beq g 0) (some (.ref (.lit (.iface 90 (.agg #[.pointer (some ⟨4, 25, none⟩)]))))) (bsel (Nat.beq g 1) (some (.ref (.lit (.agg (tab c))))) none)
def XT (c : Nat → Int) : PX := XG (gl1 c)
theorem soundT (c : Nat → Int) : (XT c).Sound := soundG fun g x h => (by
    have h : bsel (Nat.beq g 0) (some (.ref (.lit (.iface 90 (.agg #[.pointer (some ⟨4, 25, none⟩)]))))) (bsel (Nat.beq g 1) (some (.ref (.lit (.agg (tab c))))) none) = some x := h
    cases hb : Nat.beq g 0
    · rw [hb, bsel_false] at h
      cases hb1 : Nat.beq g 1
      · rw [hb1, bsel_false] at h; cases h
      · rw [hb1, bsel_true] at h; cases h; intro M; rfl
    · rw [hb, bsel_true] at h; cases h; intro M; rfl)
theorem gl_le (c : Nat → Int) : ∀ g x, gl0 g = some x → gl1 c g = some x := fun g x h => (by
    have h : bsel (Nat.beq g 0) (some (.ref (.lit (.iface 90 (.agg #[.pointer (some ⟨4, 25, none⟩)]))))) none = some x := h
    show bsel (Nat.beq g 0) (some (.ref (.lit (.iface 90 (.agg #[.pointer (some ⟨4, 25, none⟩)]))))) (bsel (Nat.beq g 1) (some (.ref (.lit (.agg (tab c))))) none) = some x
    cases hb : Nat.beq g 0
    · rw [hb, bsel_false] at h; cases h
    · rw [hb, bsel_true] at h; rw [bsel_true]; exact h)
theorem fok_mono {P : Program} {gl gl' : Nat → Option AV} (h : ∀ g x, gl g = some x → gl' g = some x) {f : FuncId} {xs : List AV} {σ : Hp} {r : Back} (hf : FOk P gl f xs σ r) : FOk P gl' f xs σ r :=
  fun E w vals hg hh hfr hv => hf E w vals (fun g x hx => hg g x (h g x hx)) hh hfr hv
end
end Go.Proofs.YtihjokkmkdhhpaaDoor
end
section
namespace Go.Proofs.YtihjokkmkdhhpaaDoor
open Go.AS
noncomputable section
def XB : WX := WX.base X0
theorem XB_ok : XB.Sound := .base sound0
/-- Pick. -/
def spPick : Sp := .pure (Int × Int) (fun i => 0 < i.2 ∧ i.2 ≤ 1000000) (fun i => [.lit (.int .i64 i.1), .lit (.int .i64 i.2)]) (fun i => .lit (.int .i64 (i.1 % i.2)))
def g7 (os : Orc) (n m : Int) : Prop := runF (XB.ask [7]) 5 7 (fn 7) (code 7) os 0 [] [.lit (.int .i64 n), .lit (.int .i64 m)] .nil ⟨.lit (.int .i64 (n % m)), .nil, []⟩
def X1 : WX := XB.add 7 (Sp.con [spPick])
/-- Hash. -/
def hb0 (p : Int) : Int := [171, 171, 160, 18, 254, 171].getD (p % 6).toNat 0
def hashV (p : Int) : Array Value := (([hb0 p, p / 6 * 16 % 256, p * 7 % 256] ++ List.replicate 28 0 ++ [p]).map (Value.int .u8)).toArray
def spHash : Sp := .pure Int (fun _ => True) (fun n => [.lit (.int .i64 n)]) (fun n => .lit (.agg (hashV (n % 60))))
def g11 (os : Orc) (n : Int) : Prop := runF (X1.ask [11]) 5 11 (fn 11) (code 11) os 0 [] [.lit (.int .i64 n)] .nil ⟨.lit (.agg (hashV (n % 60))), .nil, []⟩
def X2 : WX := X1.add 11 (Sp.con [spHash])
def g3 (os : Orc) (kind at_ n : Int) (name : ByteArray) : Prop := lawW (X2.ask [3]) 12 3 (fn 3) (code 3) os [.lit (.int .i64 kind), .lit (.string name), .lit (.int .i64 at_), .lit (.int .i64 n)]
/-- The second law. -/
def g4 (os : Orc) (a b x y kind : Int) (name : ByteArray) : Prop := lawW (X2.ask [4]) 12 4 (fn 4) (code 4) os [.lit (.int .i64 a), .lit (.int .i64 b), .lit (.int .i64 x), .lit (.int .i64 y), .lit (.int .i64 kind), .lit (.string name)]
end
end Go.Proofs.YtihjokkmkdhhpaaDoor
end
section
namespace Go.Proofs.YtihjokkmkdhhpaaDoor
open Go Go.AS
theorem g7_vc (n : Int) (m : Int) : g7 (Orc.z.s Orc.z) n m = ((!m == 0) = true ∧ (decide (n.tmod m < 0) = true → inR IntKind.i64 (n.tmod m + m) = true ∧ Wk (AV.lit (Value.int IntKind.i64 (n.tmod m + m))) (AV.lit (Value.int IntKind.i64 (n % m))) ∧ SameH (hpL []) (hpL [])) ∧ (decide (n.tmod m < 0) = false → Wk (AV.lit (Value.int IntKind.i64 (n.tmod m))) (AV.lit (Value.int IntKind.i64 (n % m))) ∧ SameH (hpL []) (hpL []))) := by kernel_rfl
theorem g11_vc (n : Int) : g11 (Orc.z) n = (∃ (i1 : Int × Int), ((0 < i1.snd ∧ i1.snd ≤ 1000000) ∧ Wks [AV.lit (Value.int IntKind.i64 n), AV.lit (Value.int IntKind.i64 60)] [AV.lit (Value.int IntKind.i64 i1.fst), AV.lit (Value.int IntKind.i64 i1.snd)] ∧ hpL [] = hpL []) ∧ true = true ∧ (decide (0 ≤ (i1.fst % i1.snd).tmod 6 ∧ (i1.fst % i1.snd).tmod 6 < ↑6) && true) = true ∧ (inR IntKind.i64 ((i1.fst % i1.snd).tdiv 6) && true) = true ∧ inR IntKind.i64 ((i1.fst % i1.snd).tdiv 6 * 16) = true ∧ true = true ∧ inR IntKind.i64 (i1.fst % i1.snd * 7) = true ∧ true = true ∧ true = true ∧ Wk (AV.agg [AV.lit (Value.int IntKind.u8 ((intsL [Value.int IntKind.u8 171, Value.int IntKind.u8 171, Value.int IntKind.u8 160, Value.int IntKind.u8 18, Value.int IntKind.u8 254, Value.int IntKind.u8 171]).getD ((i1.fst % i1.snd).tmod 6).toNat 0)), AV.lit (Value.int IntKind.u8 (IntKind.u8.wrap ((i1.fst % i1.snd).tdiv 6 * 16))), AV.lit (Value.int IntKind.u8 (IntKind.u8.wrap (i1.fst % i1.snd * 7))), AV.lit (Value.int IntKind.u8 0), AV.lit (Value.int IntKind.u8 0), AV.lit (Value.int IntKind.u8 0), AV.lit (Value.int IntKind.u8 0), AV.lit (Value.int IntKind.u8 0), AV.lit (Value.int IntKind.u8 0), AV.lit (Value.int IntKind.u8 0), AV.lit (Value.int IntKind.u8 0), AV.lit (Value.int IntKind.u8 0), AV.lit (Value.int IntKind.u8 0), AV.lit (Value.int IntKind.u8 0), AV.lit (Value.int IntKind.u8 0), AV.lit (Value.int IntKind.u8 0), AV.lit (Value.int IntKind.u8 0), AV.lit (Value.int IntKind.u8 0), AV.lit (Value.int IntKind.u8 0), AV.lit (Value.int IntKind.u8 0), AV.lit (Value.int IntKind.u8 0), AV.lit (Value.int IntKind.u8 0), AV.lit (Value.int IntKind.u8 0), AV.lit (Value.int IntKind.u8 0), AV.lit (Value.int IntKind.u8 0), AV.lit (Value.int IntKind.u8 0), AV.lit (Value.int IntKind.u8 0), AV.lit (Value.int IntKind.u8 0), AV.lit (Value.int IntKind.u8 0), AV.lit (Value.int IntKind.u8 0), AV.lit (Value.int IntKind.u8 0), AV.lit (Value.int IntKind.u8 (IntKind.u8.wrap (i1.fst % i1.snd)))]) (AV.lit (Value.agg (hashV (n % 60)))) ∧ SameH (hpL []) (hpL [])) := by kernel_rfl
end Go.Proofs.YtihjokkmkdhhpaaDoor
end
section
namespace Go.Proofs.YtihjokkmkdhhpaaDoor
open Go.AS
noncomputable section
theorem fnOk (f : Nat) (h : (Tryd.prog.funcs[f]?).isSome = true) : Tryd.prog.funcs[f]? = some (fn f) := fn_some h
theorem g7_ok (n m : Int) (h1 : 0 < m) (h2 : m ≤ 1000000) : g7 (Orc.z.s Orc.z) n m := by
  rw [g7_vc]
  obtain ⟨e1, e2⟩ := tmod_pick (n := n) (m := m) h1
  have h3 := Int.emod_nonneg n (by omega : m ≠ 0)
  have h4 := Int.emod_lt_of_pos n h1
  refine ⟨by simp; omega, fun h => ?_, fun h => ?_⟩
  · have h := of_decide_eq_true h
    exact ⟨inR_i64 (by rw [e1 h]; omega) (by rw [e1 h]; omega), .of_eq (by rw [e1 h]), .rfl⟩
  · have h := of_decide_eq_false h
    exact ⟨.of_eq (by rw [e2 h]), .rfl⟩
theorem pick_ok : ConOk Tryd.prog X0.gl 7 (Sp.con [spPick]) := Sp.one fun i hp =>
  fn_ok (X := XB.ask [7]) (d := 5) (XB_ok.ask [7]) (fnOk 7 (by kernel_rfl)) (show (fn 7).body = some (code 7) by kernel_rfl) (by kernel_rfl) (g7_ok i.1 i.2 hp.1 hp.2)
theorem X1_ok : X1.Sound := XB_ok.add pick_ok
theorem hash_cells (p : Int) : ∀ u ∈ (hashV p).toList, u.oneCell' = true := by
  intro u hu
  unfold hashV at hu
  simp only [List.mem_map] at hu
  obtain ⟨n, _, rfl⟩ := hu
  rfl
theorem g11_ok (n : Int) : g11 Orc.z n := by
  rw [g11_vc]
  have h3 := Int.emod_nonneg n (by decide : (60 : Int) ≠ 0)
  have h4 := Int.emod_lt_of_pos n (by decide : (0 : Int) < 60)
  generalize hp : n % 60 = p at h3 h4
  have t6 : p.tmod 6 = p % 6 := Int.tmod_eq_emod_of_nonneg h3
  have d6 : p.tdiv 6 = p / 6 := Int.tdiv_eq_ediv_of_nonneg h3
  refine ⟨(n, 60), ⟨⟨(by show (0 : Int) < 60; omega), (by show (60 : Int) ≤ 1000000; omega)⟩, .refl _, rfl⟩, rfl, ?_⟩
  simp only [hp, t6, d6]
  refine ⟨by simp; omega, by rw [Bool.and_true]; exact inR_i64 (by omega) (by omega), inR_i64 (by omega) (by omega), trivial, inR_i64 (by omega) (by omega), trivial, trivial, ?_, .rfl⟩
  refine .aggLit ?_ (hash_cells p)
  simp only [wrap_u8]
  have e : p % 256 = p := Int.emod_eq_of_lt h3 (by omega)
  rw [e]
  rfl
set_option maxRecDepth 100000 in
theorem hash_ok : ConOk Tryd.prog X0.gl 11 (Sp.con [spHash]) := Sp.one fun i _ =>
  fn_ok (X := X1.ask [11]) (d := 5) (X1_ok.ask [11]) (fnOk 11 (by kernel_rfl)) (show (fn 11).body = some (code 11) by kernel_rfl) (by kernel_rfl) (g11_ok i)
theorem X2_ok : X2.Sound := X1_ok.add hash_ok
theorem hash_flat (p : Int) : flatK .u8 32 (hashV p) = true := flatK_ints (l := [hb0 p, p / 6 * 16 % 256, p * 7 % 256] ++ List.replicate 28 0 ++ [p]) rfl rfl
end
end Go.Proofs.YtihjokkmkdhhpaaDoor
end
