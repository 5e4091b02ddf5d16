/- A part of the proof of OopsOutermostCardSaid. -/
import Derived.Test.YtihjokkmkdhhpaaDoorOV
import Derived.Test.YtihjokkmkdhhpaaDoorAWl
namespace Go.Proofs.YtihjokkmkdhhpaaDoor
open Go.AS
noncomputable section
theorem fnOk (f : Nat) (h : (Tryd.prog.funcs[f]?).isSome = true) : Tryd.prog.funcs[f]? = some (fn f) := fn_some h
theorem g7_ok (n m : Int) (h1 : 0 < m) (h2 : m ≤ 1000000) : g7 (Orc.z.s Orc.z) n m := by
  rw [g7_vc]
  obtain ⟨e1, e2⟩ := tmod_pick (n := n) (m := m) h1
  have h3 := Int.emod_nonneg n (by omega : m ≠ 0)
  have h4 := Int.emod_lt_of_pos n h1
  refine ⟨by simp; omega, fun h => ?_, fun h => ?_⟩
  · have h := of_decide_eq_true h
    exact ⟨inR_i64 (by rw [e1 h]; omega) (by rw [e1 h]; omega), .of_eq (by rw [e1 h]), .rfl⟩
  · have h := of_decide_eq_false h
    exact ⟨.of_eq (by rw [e2 h]), .rfl⟩
theorem pick_ok : ConOk Tryd.prog X0.gl 7 (Sp.con [spPick]) := Sp.one fun i hp =>
  fn_ok (X := XB.ask [7]) (d := 5) (XB_ok.ask [7]) (fnOk 7 (by kernel_rfl)) (show (fn 7).body = some (code 7) by kernel_rfl) (by kernel_rfl) (g7_ok i.1 i.2 hp.1 hp.2)
theorem X1_ok : X1.Sound := XB_ok.add pick_ok
theorem g11_ok (n : Int) : g11 Orc.z n := by
  rw [g11_vc]
  have h3 := Int.emod_nonneg n (by decide : (60 : Int) ≠ 0)
  have h4 := Int.emod_lt_of_pos n (by decide : (0 : Int) < 60)
  generalize hp : n % 60 = p at h3 h4
  have t6 : p.tmod 6 = p % 6 := Int.tmod_eq_emod_of_nonneg h3
  have d6 : p.tdiv 6 = p / 6 := Int.tdiv_eq_ediv_of_nonneg h3
  refine ⟨(n, 60), ⟨⟨(by show (0 : Int) < 60; omega), (by show (60 : Int) ≤ 1000000; omega)⟩, .refl _, rfl⟩, rfl, ?_⟩
  simp only [hp, t6, d6]
  refine ⟨by simp; omega, by rw [Bool.and_true]; exact inR_i64 (by omega) (by omega), inR_i64 (by omega) (by omega), trivial, inR_i64 (by omega) (by omega), trivial, trivial, ?_, .rfl⟩
  refine .of_eq ?_
  simp only [wrap_u8]
  have e : p % 256 = p := Int.emod_eq_of_lt h3 (by omega)
  rw [e]
  rfl
set_option maxRecDepth 100000 in
theorem hash_ok : ConOk Tryd.prog X0.gl 11 (Sp.con [spHash]) := Sp.one fun i _ =>
  fn_ok (X := X1.ask [11]) (d := 5) (X1_ok.ask [11]) (fnOk 11 (by kernel_rfl)) (show (fn 11).body = some (code 11) by kernel_rfl) (by kernel_rfl) (g11_ok i)
theorem X2_ok : X2.Sound := X1_ok.add hash_ok
theorem hash_flat (p : Int) : flatK .u8 32 (hashV p) = true := flatK_ints (l := [hb0 p, p / 6 * 16 % 256, p * 7 % 256] ++ List.replicate 28 0 ++ [p]) rfl rfl
end
end Go.Proofs.YtihjokkmkdhhpaaDoor
