/- Numbers below a thousand as texts: they are not empty. -/
import Derived.Test.YtihjokkmkdhhpaaDoorOd
import Derived.Test.YtihjokkmkdhhpaaDoorOa
section
namespace Go.Proofs.YtihjokkmkdhhpaaDoor
open Go.AS
noncomputable section
theorem wrap_u32 (n : Int) : IntKind.wrap .u32 n = n % 4294967296 := by
  simp [IntKind.wrap, IntKind.signed, IntKind.bits]
theorem wrap_u64 (n : Int) : IntKind.wrap .u64 n = n % 18446744073709551616 := by
  simp [IntKind.wrap, IntKind.signed, IntKind.bits]
theorem len8_small : ∀ n : Fin 256, (64 ≤ n.val → n.val < 128 → byteAt len8 n.val = 7) ∧ (128 ≤ n.val → byteAt len8 n.val = 8) ∧ byteAt len8 n.val ≤ 8 := by decide +kernel
theorem len8_at : byteAt len8 1 = 1 ∧ byteAt len8 2 = 2 ∧ byteAt len8 3 = 2 := by decide +kernel
def lenOf (u : Int) : Int := if u < 128 then 7 else if u < 256 then 8 else if u < 512 then 9 else 10
theorem g63_ok (c : Nat → Int) (u : Int) (h1 : 64 ≤ u) (h2 : u < 1024) : g63 (Orc.f (Orc.f (Orc.s Orc.z Orc.z))) c u (lenOf u) := by
  rw [g63_vc]
  refine ⟨decide_eq_false (by omega), decide_eq_false (by omega), fun h => ?_, fun h => ?_⟩
  · have h := of_decide_eq_true h
    have hq : Int.fdiv u 256 = u / 256 := Int.fdiv_eq_ediv_of_nonneg _ (by omega)
    rw [hq, wrap_u8]
    have hq2 : u / 256 % 256 = u / 256 := by omega
    rw [hq2]
    by_cases h5 : u < 512
    · have e : u / 256 = 1 := by omega
      have el : lenOf u = 9 := by unfold lenOf; rw [if_neg (by omega), if_neg (by omega), if_pos h5]
      rw [e, el, show Int.toNat 1 = 1 from rfl, len8_at.1]
      exact ⟨rfl, rfl, rfl, by decide, by decide, by decide, .refl _, .rfl⟩
    · have el : lenOf u = 10 := by unfold lenOf; rw [if_neg (by omega), if_neg (by omega), if_neg h5]
      rw [el]
      rcases (by omega : u / 256 = 2 ∨ u / 256 = 3) with e | e
      · rw [e, show Int.toNat 2 = 2 from rfl, len8_at.2.1]; exact ⟨rfl, rfl, rfl, by decide, by decide, by decide, .refl _, .rfl⟩
      · rw [e, show Int.toNat 3 = 3 from rfl, len8_at.2.2]; exact ⟨rfl, rfl, rfl, by decide, by decide, by decide, .refl _, .rfl⟩
  · have h := of_decide_eq_false h
    have hq2 : u % 256 = u := by omega
    rw [wrap_u8, hq2]
    have hs := len8_small ⟨u.toNat, by omega⟩
    simp only at hs
    have el : ((byteAt len8 u.toNat : Nat) : Int) = lenOf u := by
      unfold lenOf
      by_cases h6 : u < 128
      · rw [if_pos h6, hs.1 (by omega) (by omega)]; rfl
      · rw [if_neg h6, if_pos (by omega), hs.2.1 (by omega)]; rfl
    have hb : (0 : Int) ≤ lenOf u ∧ lenOf u ≤ 10 := by unfold lenOf; split <;> (try split) <;> (try split) <;> omega
    rw [el]
    exact ⟨rfl, decide_eq_true ⟨by omega, by omega⟩, inR_i64 (by omega) (by omega), inR_i64 (by omega) (by omega), .of_eq (by rw [Int.zero_add]), .rfl⟩
abbrev askC : List Nat := [55, 56, 57, 58, 59, 60, 62, 63, 64]
theorem C_ok {X : WX} {c : Nat → Int} (hX : X.Sound) (hp : X.px = XT c) {f : Nat} (hs : (Tryd.prog.funcs[f]?).isSome = true) (hb : (fn f).body = some (code f)) (hn : ((fn f).name == "runtime.NumGoroutine") = false) {os : Orc} {x r : AV} (h : gC X f os x r) : FOk Tryd.prog (gl1 c) f [x] .nil ⟨r, .nil, []⟩ := by
  have hP : X.px.P = Tryd.prog := by rw [hp]; rfl
  have hg : X.px.gl = gl1 c := by rw [hp]; rfl
  have := fn_ok (X := X.ask askC) (d := 8) (hX.ask askC) (f := f) (fn := fn f) (code := code f) (by show X.px.P.funcs[f]? = _; rw [hP]; exact fnOk f hs) hb hn h
  rw [← hg, ← hP]; exact this
theorem len_ok (c : Nat → Int) (u : Int) (h1 : 64 ≤ u) (h2 : u < 1024) : FOk Tryd.prog (gl1 c) 63 [u6 u] .nil ⟨iV (lenOf u), .nil, []⟩ :=
  C_ok (XC_ok c) rfl (by kernel_rfl) (show (fn 63).body = some (code 63) by kernel_rfl) (by kernel_rfl) (g63_ok c u h1 h2)
theorem add63 {c : Nat → Int} {f : Nat} {u m : Int} (h : FOk Tryd.prog (gl1 c) f [u6 u] .nil ⟨iV m, .nil, []⟩) : ((XC c).add f (Sp.con [sp63 u m])).Sound := (XC_ok c).add (Sp.one fun _ _ => h)
def ndOf (c : Nat → Int) (u : Int) : Int := if u < 512 then (if u ≥ c 2 then 3 else 2) else (if u ≥ c 3 then 4 else 3)
theorem g597_ok (c : Nat → Int) (u : Int) : g597 (Orc.s Orc.z Orc.z) c u (if u ≥ c 2 then 3 else 2) := by
  rw [g597_vc]
  refine ⟨(), ⟨trivial, .refl _, rfl⟩, rfl, rfl, fun h => ?_, fun h => ?_⟩
  · rw [if_pos (of_decide_eq_true h)]; exact ⟨rfl, .refl _, .rfl⟩
  · rw [if_neg (of_decide_eq_false h)]; exact ⟨rfl, .refl _, .rfl⟩
theorem g598_ok (c : Nat → Int) (u : Int) : g598 (Orc.s Orc.z Orc.z) c u (if u ≥ c 2 then 3 else 2) := by
  rw [g598_vc]
  refine ⟨(), ⟨trivial, .refl _, rfl⟩, rfl, rfl, fun h => ?_, fun h => ?_⟩
  · rw [if_pos (of_decide_eq_true h)]; exact ⟨rfl, .refl _, .rfl⟩
  · rw [if_neg (of_decide_eq_false h)]; exact ⟨rfl, .refl _, .rfl⟩
theorem g599_ok (c : Nat → Int) (u : Int) : g599 (Orc.s Orc.z Orc.z) c u (if u ≥ c 2 then 3 else 2) := by
  rw [g599_vc]
  refine ⟨(), ⟨trivial, .refl _, rfl⟩, rfl, rfl, fun h => ?_, fun h => ?_⟩
  · rw [if_pos (of_decide_eq_true h)]; exact ⟨rfl, .refl _, .rfl⟩
  · rw [if_neg (of_decide_eq_false h)]; exact ⟨rfl, .refl _, .rfl⟩
theorem g59t_ok (c : Nat → Int) (u : Int) : g59t (Orc.s Orc.z Orc.z) c u (if u ≥ c 3 then 4 else 3) := by
  rw [g59t_vc]
  refine ⟨(), ⟨trivial, .refl _, rfl⟩, rfl, rfl, fun h => ?_, fun h => ?_⟩
  · rw [if_pos (of_decide_eq_true h)]; exact ⟨rfl, .refl _, .rfl⟩
  · rw [if_neg (of_decide_eq_false h)]; exact ⟨rfl, .refl _, .rfl⟩
theorem nd_ok (c : Nat → Int) (u : Int) (h1 : 64 ≤ u) (h2 : u < 1024) : FOk Tryd.prog (gl1 c) 59 [u6 u] .nil ⟨iV (ndOf c u), .nil, []⟩ := by
  have hl := len_ok c u h1 h2
  have b : (fn 59).body = some (code 59) := by kernel_rfl
  have s : (Tryd.prog.funcs[59]?).isSome = true := by kernel_rfl
  have n : ((fn 59).name == "runtime.NumGoroutine") = false := by kernel_rfl
  by_cases h3 : u < 128
  · have e : lenOf u = 7 := by unfold lenOf; rw [if_pos h3]
    rw [e] at hl
    rw [show ndOf c u = if u ≥ c 2 then 3 else 2 by unfold ndOf; rw [if_pos (by omega)]]
    exact C_ok (add63 hl) rfl s b n (g597_ok c u)
  · by_cases h4 : u < 256
    · have e : lenOf u = 8 := by unfold lenOf; rw [if_neg h3, if_pos h4]
      rw [e] at hl
      rw [show ndOf c u = if u ≥ c 2 then 3 else 2 by unfold ndOf; rw [if_pos (by omega)]]
      exact C_ok (add63 hl) rfl s b n (g598_ok c u)
    · by_cases h5 : u < 512
      · have e : lenOf u = 9 := by unfold lenOf; rw [if_neg h3, if_neg h4, if_pos h5]
        rw [e] at hl
        rw [show ndOf c u = if u ≥ c 2 then 3 else 2 by unfold ndOf; rw [if_pos h5]]
        exact C_ok (add63 hl) rfl s b n (g599_ok c u)
      · have e : lenOf u = 10 := by unfold lenOf; rw [if_neg h3, if_neg h4, if_neg h5]
        rw [e] at hl
        rw [show ndOf c u = if u ≥ c 3 then 4 else 3 by unfold ndOf; rw [if_neg h5]]
        exact C_ok (add63 hl) rfl s b n (g59t_ok c u)
theorem size_pos (x : UInt8) (l : List UInt8) : 0 < ByteArray.size ⟨⟨x :: l⟩⟩ := Nat.succ_pos _
theorem size_le {l : List UInt8} (h : l.length ≤ 1000) : ByteArray.size ⟨⟨l⟩⟩ ≤ 1000 := h
abbrev Txt (c : Nat → Int) (f : Nat) (x : AV) : Prop := ∃ s : ByteArray, 0 < s.size ∧ s.size ≤ 1000 ∧ FOk Tryd.prog (gl1 c) f [x] .nil ⟨sV s, .nil, []⟩
set_option maxRecDepth 100000 in
theorem itoa (c : Nat → Int) (n : Int) (h1 : 0 ≤ n) (h2 : n < 1000) : Txt c 55 (iV n) := by
  have b : (fn 55).body = some (code 55) := by kernel_rfl
  have s : (Tryd.prog.funcs[55]?).isSome = true := by kernel_rfl
  have nm : ((fn 55).name == "runtime.NumGoroutine") = false := by kernel_rfl
  by_cases hs : n < 100
  · by_cases ht : n < 10
    · refine ⟨_, ?_, ?_, C_ok (XC_ok c) rfl s b nm ((iff_of_eq (g55a_vc c n (digits.extract n.toNat (n + 1).toNat))).2 ?_)⟩
      · rw [ByteArray.size_extract, show digits.size = 36 from rfl]; omega
      · rw [ByteArray.size_extract, show digits.size = 36 from rfl]; omega
      · refine ⟨rfl, decide_eq_true h1, rfl, decide_eq_true hs, fun _ => ?_, fun h => absurd ht (of_decide_eq_false h)⟩
        exact ⟨inR_i64 (by omega) (by omega), decide_eq_true ⟨by simpa using h1, by simp <;> omega, by simp <;> omega, rfl⟩, .refl _, .rfl⟩
    · refine ⟨_, ?_, ?_, C_ok (XC_ok c) rfl s b nm ((iff_of_eq (g55a_vc c n (smalls.extract (n * 2).toNat (n * 2 + 2).toNat))).2 ?_)⟩
      · rw [ByteArray.size_extract, show smalls.size = 200 from rfl]; omega
      · rw [ByteArray.size_extract, show smalls.size = 200 from rfl]; omega
      · refine ⟨rfl, decide_eq_true h1, rfl, decide_eq_true hs, fun h => absurd (of_decide_eq_true h) ht, fun _ => ?_⟩
        exact ⟨inR_i64 (by omega) (by omega), inR_i64 (by omega) (by omega), inR_i64 (by omega) (by omega), decide_eq_true ⟨by simp <;> omega, by simp <;> omega, by simp <;> omega, rfl⟩, .refl _, .rfl⟩
  · have hn := nd_ok c n (by omega) (by omega)
    have hw : IntKind.wrap .u64 n = n := by rw [wrap_u64]; omega
    have hw2 : IntKind.wrap .u32 n = n := by rw [wrap_u32]; omega
    have t0 : n.tmod 100 = n % 100 := Int.tmod_eq_emod_of_nonneg (by omega)
    have t1 : n.tmod 10000 = n := by rw [Int.tmod_eq_emod_of_nonneg (by omega)]; omega
    have t2 : n.tdiv 100 = n / 100 := Int.tdiv_eq_ediv_of_nonneg (by omega)
    have hcase : ndOf c n = 2 ∨ ndOf c n = 3 ∨ ndOf c n = 4 := by unfold ndOf; split <;> split <;> omega
    rcases hcase with e | e | e <;> rw [e] at hn
    · refine ⟨?w0, ?h0, ?j0, C_ok (add63 hn) rfl s b nm ((iff_of_eq (g552_vc c n ?w0)).2 ?g0)⟩
      case g0 =>
        repeat' first
          | exact rfl
          | exact decide_eq_true h1
          | exact decide_eq_false (by omega)
          | (refine ⟨(), ⟨trivial, .of_eq (by rw [hw]), rfl⟩, ?_⟩)
          | exact .refl _
          | exact .rfl
          | (refine decide_eq_true ?_; simp only [hw, hw2, t0, t1, t2, wrap_u32]; omega)
          | refine And.intro ?_ ?_
      case h0 => exact size_pos _ _
      case j0 => exact size_le (by simp only [List.length_cons, List.length_nil]; omega)
    · refine ⟨?w1, ?h1, ?j1, C_ok (add63 hn) rfl s b nm ((iff_of_eq (g553_vc c n ?w1)).2 ?g1)⟩
      case g1 =>
        repeat' first
          | exact rfl
          | exact decide_eq_true h1
          | exact decide_eq_false (by omega)
          | (refine ⟨(), ⟨trivial, .of_eq (by rw [hw]), rfl⟩, ?_⟩)
          | exact .refl _
          | exact .rfl
          | (refine decide_eq_true ?_; simp only [hw, hw2, t0, t1, t2, wrap_u32]; omega)
          | refine And.intro ?_ ?_
      case h1 => exact size_pos _ _
      case j1 => exact size_le (by simp only [List.length_cons, List.length_nil]; omega)
    · refine ⟨?w2, ?h2, ?j2, C_ok (add63 hn) rfl s b nm ((iff_of_eq (g554_vc c n ?w2)).2 ?g2)⟩
      case g2 =>
        repeat' first
          | exact rfl
          | exact decide_eq_true h1
          | exact decide_eq_false (by omega)
          | (refine ⟨(), ⟨trivial, .of_eq (by rw [hw]), rfl⟩, ?_⟩)
          | exact .refl _
          | exact .rfl
          | (refine decide_eq_true ?_; simp only [hw, hw2, t0, t1, t2, wrap_u32]; omega)
          | refine And.intro ?_ ?_
      case h2 => exact size_pos _ _
      case j2 => exact size_le (by simp only [List.length_cons, List.length_nil]; omega)
end
end Go.Proofs.YtihjokkmkdhhpaaDoor
end
section
namespace Go.Proofs.YtihjokkmkdhhpaaDoor
open Go.AS
noncomputable section
def sp1 (x : AV) (r : ByteArray) : Sp := .pure Unit (fun _ => True) (fun _ => [x]) (fun _ => sV r)
def colon : ByteArray := ⟨⟨[58, 32]⟩⟩
def sp53 (x : AV) (r : ByteArray) : Sp := .pure ByteArray (fun a => a.size ≤ 1125899906842624) (fun a => [sV a, x]) (fun a => sV (a ++ colon ++ r))
def g51x1 (os : Orc) (c : Nat → Int) (s : ByteArray) : Prop := runF (XC c) 8 51 (fn 51) (code 51) os 0 [] [iV 1] .nil ⟨sV s, .nil, []⟩
def g51x2 (os : Orc) (c : Nat → Int) (s : ByteArray) : Prop := runF (XC c) 8 51 (fn 51) (code 51) os 0 [] [iV 2] .nil ⟨sV s, .nil, []⟩
def g51x3 (os : Orc) (c : Nat → Int) (s : ByteArray) : Prop := runF (XC c) 8 51 (fn 51) (code 51) os 0 [] [iV 3] .nil ⟨sV s, .nil, []⟩
def g51x4 (os : Orc) (c : Nat → Int) (s : ByteArray) : Prop := runF (XC c) 8 51 (fn 51) (code 51) os 0 [] [iV 4] .nil ⟨sV s, .nil, []⟩
def g51x5 (os : Orc) (c : Nat → Int) (s : ByteArray) : Prop := runF (XC c) 8 51 (fn 51) (code 51) os 0 [] [iV 5] .nil ⟨sV s, .nil, []⟩
def g51x6 (os : Orc) (c : Nat → Int) (s : ByteArray) : Prop := runF (XC c) 8 51 (fn 51) (code 51) os 0 [] [iV 6] .nil ⟨sV s, .nil, []⟩
def g51x7 (os : Orc) (c : Nat → Int) (s : ByteArray) : Prop := runF (XC c) 8 51 (fn 51) (code 51) os 0 [] [iV 7] .nil ⟨sV s, .nil, []⟩
def g51x8 (os : Orc) (c : Nat → Int) (s : ByteArray) : Prop := runF (XC c) 8 51 (fn 51) (code 51) os 0 [] [iV 8] .nil ⟨sV s, .nil, []⟩
def g51x9 (os : Orc) (c : Nat → Int) (s : ByteArray) : Prop := runF (XC c) 8 51 (fn 51) (code 51) os 0 [] [iV 9] .nil ⟨sV s, .nil, []⟩
def g51x10 (os : Orc) (c : Nat → Int) (s : ByteArray) : Prop := runF (XC c) 8 51 (fn 51) (code 51) os 0 [] [iV 10] .nil ⟨sV s, .nil, []⟩
def g51x11 (os : Orc) (c : Nat → Int) (s : ByteArray) : Prop := runF (XC c) 8 51 (fn 51) (code 51) os 0 [] [iV 11] .nil ⟨sV s, .nil, []⟩
def g51x12 (os : Orc) (c : Nat → Int) (s : ByteArray) : Prop := runF (XC c) 8 51 (fn 51) (code 51) os 0 [] [iV 12] .nil ⟨sV s, .nil, []⟩
def g51x13 (os : Orc) (c : Nat → Int) (s : ByteArray) : Prop := runF (XC c) 8 51 (fn 51) (code 51) os 0 [] [iV 13] .nil ⟨sV s, .nil, []⟩
def g51x14 (os : Orc) (c : Nat → Int) (s : ByteArray) : Prop := runF (XC c) 8 51 (fn 51) (code 51) os 0 [] [iV 14] .nil ⟨sV s, .nil, []⟩
def g51x15 (os : Orc) (c : Nat → Int) (s : ByteArray) : Prop := runF (XC c) 8 51 (fn 51) (code 51) os 0 [] [iV 15] .nil ⟨sV s, .nil, []⟩
def g51x16 (os : Orc) (c : Nat → Int) (s : ByteArray) : Prop := runF (XC c) 8 51 (fn 51) (code 51) os 0 [] [iV 16] .nil ⟨sV s, .nil, []⟩
def g51x17 (os : Orc) (c : Nat → Int) (s : ByteArray) : Prop := runF (XC c) 8 51 (fn 51) (code 51) os 0 [] [iV 17] .nil ⟨sV s, .nil, []⟩
def g51x18 (os : Orc) (c : Nat → Int) (s : ByteArray) : Prop := runF (XC c) 8 51 (fn 51) (code 51) os 0 [] [iV 18] .nil ⟨sV s, .nil, []⟩
def g51x19 (os : Orc) (c : Nat → Int) (s : ByteArray) : Prop := runF (XC c) 8 51 (fn 51) (code 51) os 0 [] [iV 19] .nil ⟨sV s, .nil, []⟩
def g53b (os : Orc) (c : Nat → Int) (k : Int) (a r s : ByteArray) : Prop := runF (((XC c).add 51 (Sp.con [sp1 (iV k) r])).ask [53]) 8 53 (fn 53) (code 53) os 0 [] [sV a, tB k] .nil ⟨sV s, .nil, []⟩
def g53s (os : Orc) (c : Nat → Int) (b : AV) (a r s : ByteArray) : Prop := runF (((XC c).add 52 (Sp.con [sp1 (.ref b) r])).ask [53]) 8 53 (fn 53) (code 53) os 0 [] [sV a, tW 33 b] .nil ⟨sV s, .nil, []⟩
def g53p (os : Orc) (c : Nat → Int) (b : AV) (a r s : ByteArray) : Prop := runF (((XC c).add 54 (Sp.con [sp1 (.ref b) r])).ask [53]) 8 53 (fn 53) (code 53) os 0 [] [sV a, tW 34 b] .nil ⟨sV s, .nil, []⟩
def g53w (os : Orc) (c : Nat → Int) (b : AV) (a r s : ByteArray) : Prop := runF (((XC c).add 69 (Sp.con [sp1 (.ref b) r])).ask [53]) 8 53 (fn 53) (code 53) os 0 [] [sV a, tW 35 b] .nil ⟨sV s, .nil, []⟩
def g52b (os : Orc) (c : Nat → Int) (q : ByteArray) (k : Int) (r s : ByteArray) : Prop := runF (((XC c).add 53 (Sp.con [sp53 (tB k) r])).ask [52]) 8 52 (fn 52) (code 52) os 0 [] [.ref (.agg [.lit (.string q), tB k])] .nil ⟨sV s, .nil, []⟩
def g52t (os : Orc) (c : Nat → Int) (q : ByteArray) (t : Nat) (b : AV) (r s : ByteArray) : Prop := runF (((XC c).add 53 (Sp.con [sp53 (tW t b) r])).ask [52]) 8 52 (fn 52) (code 52) os 0 [] [.ref (.agg [.lit (.string q), tW t b])] .nil ⟨sV s, .nil, []⟩
def g54b (os : Orc) (c : Nat → Int) (n : Int) (ri : ByteArray) (k : Int) (r s : ByteArray) : Prop := runF ((((XC c).add 53 (Sp.con [sp53 (tB k) r])).add 55 (Sp.con [sp1 (iV n) ri])).ask [54]) 8 54 (fn 54) (code 54) os 0 [] [.ref (.agg [.lit (.int .i64 n), tB k])] .nil ⟨sV s, .nil, []⟩
def g54t (os : Orc) (c : Nat → Int) (n : Int) (ri : ByteArray) (t : Nat) (b : AV) (r s : ByteArray) : Prop := runF ((((XC c).add 53 (Sp.con [sp53 (tW t b) r])).add 55 (Sp.con [sp1 (iV n) ri])).ask [54]) 8 54 (fn 54) (code 54) os 0 [] [.ref (.agg [.lit (.int .i64 n), tW t b])] .nil ⟨sV s, .nil, []⟩
def g69b (os : Orc) (c : Nat → Int) (p : Int) (ri : ByteArray) (k : Int) (r s : ByteArray) : Prop := runF ((((XC c).add 53 (Sp.con [sp53 (tB k) r])).add 55 (Sp.con [sp1 (iV (hb0 p)) ri])).ask [69]) 8 69 (fn 69) (code 69) os 0 [] [.ref (.agg [.lit (.agg (hashV p)), tB k])] .nil ⟨sV s, .nil, []⟩
def g69t (os : Orc) (c : Nat → Int) (p : Int) (ri : ByteArray) (t : Nat) (b : AV) (r s : ByteArray) : Prop := runF ((((XC c).add 53 (Sp.con [sp53 (tW t b) r])).add 55 (Sp.con [sp1 (iV (hb0 p)) ri])).ask [69]) 8 69 (fn 69) (code 69) os 0 [] [.ref (.agg [.lit (.agg (hashV p)), tW t b])] .nil ⟨sV s, .nil, []⟩
end
end Go.Proofs.YtihjokkmkdhhpaaDoor
end
section
namespace Go.Proofs.YtihjokkmkdhhpaaDoor
open Go Go.AS
theorem g51x1_vc (c : Nat → Int) (s : ByteArray) : g51x1 (Orc.z) c s = (Wk (AV.lit (Value.string { data := { toList := [97, 114, 103, 117, 109, 101, 110, 116] } })) (AV.lit (Value.string s)) ∧ SameH (hpL []) (hpL [])) := by kernel_rfl
theorem g51x2_vc (c : Nat → Int) (s : ByteArray) : g51x2 (Orc.z) c s = (Wk (AV.lit (Value.string { data := { toList := [102, 111, 114, 109] } })) (AV.lit (Value.string s)) ∧ SameH (hpL []) (hpL [])) := by kernel_rfl
theorem g51x3_vc (c : Nat → Int) (s : ByteArray) : g51x3 (Orc.z) c s = (Wk (AV.lit (Value.string { data := { toList := [115, 104, 111, 114, 116] } })) (AV.lit (Value.string s)) ∧ SameH (hpL []) (hpL [])) := by kernel_rfl
theorem g51x4_vc (c : Nat → Int) (s : ByteArray) : g51x4 (Orc.z) c s = (Wk (AV.lit (Value.string { data := { toList := [115, 117, 109] } })) (AV.lit (Value.string s)) ∧ SameH (hpL []) (hpL [])) := by kernel_rfl
theorem g51x5_vc (c : Nat → Int) (s : ByteArray) : g51x5 (Orc.z) c s = (Wk (AV.lit (Value.string { data := { toList := [108, 111, 110, 103] } })) (AV.lit (Value.string s)) ∧ SameH (hpL []) (hpL [])) := by kernel_rfl
theorem g51x6_vc (c : Nat → Int) (s : ByteArray) : g51x6 (Orc.z) c s = (Wk (AV.lit (Value.string { data := { toList := [115, 112, 97, 99, 101] } })) (AV.lit (Value.string s)) ∧ SameH (hpL []) (hpL [])) := by kernel_rfl
theorem g51x7_vc (c : Nat → Int) (s : ByteArray) : g51x7 (Orc.z) c s = (Wk (AV.lit (Value.string { data := { toList := [100, 111, 119, 110] } })) (AV.lit (Value.string s)) ∧ SameH (hpL []) (hpL [])) := by kernel_rfl
theorem g51x8_vc (c : Nat → Int) (s : ByteArray) : g51x8 (Orc.z) c s = (Wk (AV.lit (Value.string { data := { toList := [108, 105, 109, 105, 116] } })) (AV.lit (Value.string s)) ∧ SameH (hpL []) (hpL [])) := by kernel_rfl
theorem g51x9_vc (c : Nat → Int) (s : ByteArray) : g51x9 (Orc.z) c s = (Wk (AV.lit (Value.string { data := { toList := [99, 111, 110, 102, 108, 105, 99, 116] } })) (AV.lit (Value.string s)) ∧ SameH (hpL []) (hpL [])) := by kernel_rfl
theorem g51x10_vc (c : Nat → Int) (s : ByteArray) : g51x10 (Orc.z) c s = (Wk (AV.lit (Value.string { data := { toList := [112, 97, 114, 101, 110, 116] } })) (AV.lit (Value.string s)) ∧ SameH (hpL []) (hpL [])) := by kernel_rfl
theorem g51x11_vc (c : Nat → Int) (s : ByteArray) : g51x11 (Orc.z) c s = (Wk (AV.lit (Value.string { data := { toList := [117, 110, 107, 110, 111, 119, 110] } })) (AV.lit (Value.string s)) ∧ SameH (hpL []) (hpL [])) := by kernel_rfl
theorem g51x12_vc (c : Nat → Int) (s : ByteArray) : g51x12 (Orc.z) c s = (Wk (AV.lit (Value.string { data := { toList := [99, 121, 99, 108, 101] } })) (AV.lit (Value.string s)) ∧ SameH (hpL []) (hpL [])) := by kernel_rfl
theorem g51x13_vc (c : Nat → Int) (s : ByteArray) : g51x13 (Orc.z) c s = (Wk (AV.lit (Value.string { data := { toList := [102, 117, 108, 108] } })) (AV.lit (Value.string s)) ∧ SameH (hpL []) (hpL [])) := by kernel_rfl
theorem g51x14_vc (c : Nat → Int) (s : ByteArray) : g51x14 (Orc.z) c s = (Wk (AV.lit (Value.string { data := { toList := [97, 109, 98, 105, 103, 117, 111, 117, 115] } })) (AV.lit (Value.string s)) ∧ SameH (hpL []) (hpL [])) := by kernel_rfl
theorem g51x15_vc (c : Nat → Int) (s : ByteArray) : g51x15 (Orc.z) c s = (Wk (AV.lit (Value.string { data := { toList := [112, 97, 114, 115, 101] } })) (AV.lit (Value.string s)) ∧ SameH (hpL []) (hpL [])) := by kernel_rfl
theorem g51x16_vc (c : Nat → Int) (s : ByteArray) : g51x16 (Orc.z) c s = (Wk (AV.lit (Value.string { data := { toList := [100, 101, 112, 116, 104] } })) (AV.lit (Value.string s)) ∧ SameH (hpL []) (hpL [])) := by kernel_rfl
theorem g51x17_vc (c : Nat → Int) (s : ByteArray) : g51x17 (Orc.z) c s = (Wk (AV.lit (Value.string { data := { toList := [102, 101, 116, 99, 104] } })) (AV.lit (Value.string s)) ∧ SameH (hpL []) (hpL [])) := by kernel_rfl
theorem g51x18_vc (c : Nat → Int) (s : ByteArray) : g51x18 (Orc.z) c s = (Wk (AV.lit (Value.string { data := { toList := [115, 116, 97, 116, 101] } })) (AV.lit (Value.string s)) ∧ SameH (hpL []) (hpL [])) := by kernel_rfl
theorem g51x19_vc (c : Nat → Int) (s : ByteArray) : g51x19 (Orc.z) c s = (Wk (AV.lit (Value.string { data := { toList := [109, 97, 115, 116, 101, 114] } })) (AV.lit (Value.string s)) ∧ SameH (hpL []) (hpL [])) := by kernel_rfl
theorem g53b_vc (c : Nat → Int) (k : Int) (a : ByteArray) (r : ByteArray) (s : ByteArray) : g53b (Orc.f Orc.z) c k a r s = (false = false ∧ decide (ByteArray.size a + 2 ≤ 9223372036854775807) = true ∧ ∃ (_ : Unit), (True ∧ Wks [AV.lit (Value.int IntKind.i64 k)] [AV.lit (Value.int IntKind.i64 k)] ∧ hpL [] = hpL []) ∧ decide (ByteArray.size (a ++ { data := { toList := [58, 32] } }) + ByteArray.size r ≤ 9223372036854775807) = true ∧ Wk (AV.lit (Value.string (a ++ { data := { toList := [58, 32] } } ++ r))) (AV.lit (Value.string s)) ∧ SameH (hpL []) (hpL [])) := by kernel_rfl
theorem g53s_vc (c : Nat → Int) (b : AV) (a : ByteArray) (r : ByteArray) (s : ByteArray) : g53s (Orc.f Orc.z) c b a r s = (false = false ∧ decide (ByteArray.size a + 2 ≤ 9223372036854775807) = true ∧ ∃ (_ : Unit), (True ∧ Wks [AV.ref b] [AV.ref b] ∧ hpL [] = hpL []) ∧ decide (ByteArray.size (a ++ { data := { toList := [58, 32] } }) + ByteArray.size r ≤ 9223372036854775807) = true ∧ Wk (AV.lit (Value.string (a ++ { data := { toList := [58, 32] } } ++ r))) (AV.lit (Value.string s)) ∧ SameH (hpL []) (hpL [])) := by kernel_rfl
theorem g53p_vc (c : Nat → Int) (b : AV) (a : ByteArray) (r : ByteArray) (s : ByteArray) : g53p (Orc.f Orc.z) c b a r s = (false = false ∧ decide (ByteArray.size a + 2 ≤ 9223372036854775807) = true ∧ ∃ (_ : Unit), (True ∧ Wks [AV.ref b] [AV.ref b] ∧ hpL [] = hpL []) ∧ decide (ByteArray.size (a ++ { data := { toList := [58, 32] } }) + ByteArray.size r ≤ 9223372036854775807) = true ∧ Wk (AV.lit (Value.string (a ++ { data := { toList := [58, 32] } } ++ r))) (AV.lit (Value.string s)) ∧ SameH (hpL []) (hpL [])) := by kernel_rfl
theorem g53w_vc (c : Nat → Int) (b : AV) (a : ByteArray) (r : ByteArray) (s : ByteArray) : g53w (Orc.f Orc.z) c b a r s = (false = false ∧ decide (ByteArray.size a + 2 ≤ 9223372036854775807) = true ∧ ∃ (_ : Unit), (True ∧ Wks [AV.ref b] [AV.ref b] ∧ hpL [] = hpL []) ∧ decide (ByteArray.size (a ++ { data := { toList := [58, 32] } }) + ByteArray.size r ≤ 9223372036854775807) = true ∧ Wk (AV.lit (Value.string (a ++ { data := { toList := [58, 32] } } ++ r))) (AV.lit (Value.string s)) ∧ SameH (hpL []) (hpL [])) := by kernel_rfl
theorem g52b_vc (c : Nat → Int) (q : ByteArray) (k : Int) (r : ByteArray) (s : ByteArray) : g52b (Orc.z) c q k r s = (decide (5 + ByteArray.size q ≤ 9223372036854775807) = true ∧ ∃ (i1 : ByteArray), (ByteArray.size i1 ≤ 1125899906842624 ∧ Wks [AV.lit (Value.string ({ data := { toList := [115, 116, 101, 112, 32] } } ++ q)), AV.iface 22 (AV.lit (Value.int IntKind.i64 k))] [AV.lit (Value.string i1), AV.iface 22 (AV.lit (Value.int IntKind.i64 k))] ∧ hpL [] = hpL []) ∧ Wk (AV.lit (Value.string (i1 ++ colon ++ r))) (AV.lit (Value.string s)) ∧ SameH (hpL []) (hpL [])) := by kernel_rfl
theorem g52t_vc (c : Nat → Int) (q : ByteArray) (t : Nat) (b : AV) (r : ByteArray) (s : ByteArray) : g52t (Orc.z) c q t b r s = (decide (5 + ByteArray.size q ≤ 9223372036854775807) = true ∧ ∃ (i1 : ByteArray), (ByteArray.size i1 ≤ 1125899906842624 ∧ Wks [AV.lit (Value.string ({ data := { toList := [115, 116, 101, 112, 32] } } ++ q)), AV.iface t (AV.ref b)] [AV.lit (Value.string i1), AV.iface t (AV.ref b)] ∧ hpL [] = hpL []) ∧ Wk (AV.lit (Value.string (i1 ++ colon ++ r))) (AV.lit (Value.string s)) ∧ SameH (hpL []) (hpL [])) := by kernel_rfl
theorem g54b_vc (c : Nat → Int) (n : Int) (ri : ByteArray) (k : Int) (r : ByteArray) (s : ByteArray) : g54b (Orc.z) c n ri k r s = (∃ (_ : Unit), (True ∧ Wks [AV.lit (Value.int IntKind.i64 n)] [AV.lit (Value.int IntKind.i64 n)] ∧ hpL [] = hpL []) ∧ decide (3 + ByteArray.size ri ≤ 9223372036854775807) = true ∧ ∃ (i2 : ByteArray), (ByteArray.size i2 ≤ 1125899906842624 ∧ Wks [AV.lit (Value.string ({ data := { toList := [97, 116, 32] } } ++ ri)), AV.iface 22 (AV.lit (Value.int IntKind.i64 k))] [AV.lit (Value.string i2), AV.iface 22 (AV.lit (Value.int IntKind.i64 k))] ∧ hpL [] = hpL []) ∧ Wk (AV.lit (Value.string (i2 ++ colon ++ r))) (AV.lit (Value.string s)) ∧ SameH (hpL []) (hpL [])) := by kernel_rfl
theorem g54t_vc (c : Nat → Int) (n : Int) (ri : ByteArray) (t : Nat) (b : AV) (r : ByteArray) (s : ByteArray) : g54t (Orc.z) c n ri t b r s = (∃ (_ : Unit), (True ∧ Wks [AV.lit (Value.int IntKind.i64 n)] [AV.lit (Value.int IntKind.i64 n)] ∧ hpL [] = hpL []) ∧ decide (3 + ByteArray.size ri ≤ 9223372036854775807) = true ∧ ∃ (i2 : ByteArray), (ByteArray.size i2 ≤ 1125899906842624 ∧ Wks [AV.lit (Value.string ({ data := { toList := [97, 116, 32] } } ++ ri)), AV.iface t (AV.ref b)] [AV.lit (Value.string i2), AV.iface t (AV.ref b)] ∧ hpL [] = hpL []) ∧ Wk (AV.lit (Value.string (i2 ++ colon ++ r))) (AV.lit (Value.string s)) ∧ SameH (hpL []) (hpL [])) := by kernel_rfl
theorem g69b_vc (c : Nat → Int) (p : Int) (ri : ByteArray) (k : Int) (r : ByteArray) (s : ByteArray) : g69b (Orc.z) c p ri k r s = (inR IntKind.i64 (hb0 p) = true ∧ ∃ (_ : Unit), (True ∧ Wks [AV.lit (Value.int IntKind.i64 (hb0 p))] [AV.lit (Value.int IntKind.i64 (hb0 p))] ∧ hpL [] = hpL []) ∧ decide (3 + ByteArray.size ri ≤ 9223372036854775807) = true ∧ ∃ (i2 : ByteArray), (ByteArray.size i2 ≤ 1125899906842624 ∧ Wks [AV.lit (Value.string ({ data := { toList := [111, 102, 32] } } ++ ri)), AV.iface 22 (AV.lit (Value.int IntKind.i64 k))] [AV.lit (Value.string i2), AV.iface 22 (AV.lit (Value.int IntKind.i64 k))] ∧ hpL [] = hpL []) ∧ Wk (AV.lit (Value.string (i2 ++ colon ++ r))) (AV.lit (Value.string s)) ∧ SameH (hpL []) (hpL [])) := by kernel_rfl
theorem g69t_vc (c : Nat → Int) (p : Int) (ri : ByteArray) (t : Nat) (b : AV) (r : ByteArray) (s : ByteArray) : g69t (Orc.z) c p ri t b r s = (inR IntKind.i64 (hb0 p) = true ∧ ∃ (_ : Unit), (True ∧ Wks [AV.lit (Value.int IntKind.i64 (hb0 p))] [AV.lit (Value.int IntKind.i64 (hb0 p))] ∧ hpL [] = hpL []) ∧ decide (3 + ByteArray.size ri ≤ 9223372036854775807) = true ∧ ∃ (i2 : ByteArray), (ByteArray.size i2 ≤ 1125899906842624 ∧ Wks [AV.lit (Value.string ({ data := { toList := [111, 102, 32] } } ++ ri)), AV.iface t (AV.ref b)] [AV.lit (Value.string i2), AV.iface t (AV.ref b)] ∧ hpL [] = hpL []) ∧ Wk (AV.lit (Value.string (i2 ++ colon ++ r))) (AV.lit (Value.string s)) ∧ SameH (hpL []) (hpL [])) := by kernel_rfl
end Go.Proofs.YtihjokkmkdhhpaaDoor
end
section
namespace Go.Proofs.YtihjokkmkdhhpaaDoor
open Go.AS
noncomputable section
attribute [local irreducible] runF
def Er.meth : Er → Nat
  | .base _ => 51
  | .step .. => 52
  | .place .. => 54
  | .which .. => 69
def Er.recv : Er → AV
  | .base k => iV k
  | .step s e => .ref (.agg [.lit (.string s), e.enc])
  | .place n e => .ref (.agg [.lit (.int .i64 n), e.enc])
  | .which p e => .ref (.agg [.lit (.agg (hashV p)), e.enc])
def Er.fine : Er → Prop
  | .base k => 1 ≤ k ∧ k ≤ 19
  | .step s e => s.size ≤ 140737488355328 ∧ e.fine
  | .place n e => (0 ≤ n ∧ n < 1000) ∧ e.fine
  | .which _ e => e.fine
def Er.deep : Er → Nat
  | .base _ => 0
  | .step _ e => e.deep + 1
  | .place _ e => e.deep + 1
  | .which _ e => e.deep + 1
abbrev FC (c : Nat → Int) (f : Nat) (xs : List AV) (r : AV) : Prop := FOk Tryd.prog (gl1 c) f xs .nil ⟨r, .nil, []⟩
theorem fn_okC {X : WX} {c : Nat → Int} (hX : X.Sound) (hp : X.px = XT c) {fs : List Nat} {f : Nat} (hs : (Tryd.prog.funcs[f]?).isSome = true) (hb : (fn f).body = some (code f)) (hn : ((fn f).name == "runtime.NumGoroutine") = false) {os : Orc} {fz : Nat} {xs : List AV} {r : AV} (h : runF (X.ask fs) 8 f (fn f) (code f) os fz [] xs .nil ⟨r, .nil, []⟩) : FC c f xs r := by
  have hP : X.px.P = Tryd.prog := by rw [hp]; rfl
  have hg : X.px.gl = gl1 c := by rw [hp]; rfl
  have := fn_ok (X := X.ask fs) (d := 8) (hX.ask fs) (f := f) (fn := fn f) (code := code f) (by show X.px.P.funcs[f]? = _; rw [hP]; exact fnOk f hs) hb hn h
  show FOk Tryd.prog (gl1 c) f xs .nil ⟨r, .nil, []⟩
  rw [← hg, ← hP]; exact this
theorem fn_okC0 {X : WX} {c : Nat → Int} (hX : X.Sound) (hp : X.px = XT c) {f : Nat} (hs : (Tryd.prog.funcs[f]?).isSome = true) (hb : (fn f).body = some (code f)) (hn : ((fn f).name == "runtime.NumGoroutine") = false) {os : Orc} {fz : Nat} {xs : List AV} {r : AV} (h : runF X 8 f (fn f) (code f) os fz [] xs .nil ⟨r, .nil, []⟩) : FC c f xs r := by
  have hP : X.px.P = Tryd.prog := by rw [hp]; rfl
  have hg : X.px.gl = gl1 c := by rw [hp]; rfl
  have := fn_ok (X := X) (d := 8) hX (f := f) (fn := fn f) (code := code f) (by show X.px.P.funcs[f]? = _; rw [hP]; exact fnOk f hs) hb hn h
  show FOk Tryd.prog (gl1 c) f xs .nil ⟨r, .nil, []⟩
  rw [← hg, ← hP]; exact this
theorem addC {c : Nat → Int} {X : WX} (hX : X.Sound) (hp : X.px = XT c) {f : Nat} {x : AV} {r : ByteArray} (h : FC c f [x] (sV r)) : (X.add f (Sp.con [sp1 x r])).Sound := hX.add (Sp.one fun _ _ => by
  have hP : X.px.P = Tryd.prog := by rw [hp]; rfl
  have hg : X.px.gl = gl1 c := by rw [hp]; rfl
  rw [hP, hg]; exact h)
theorem size_app (a b : ByteArray) : (a ++ b).size = a.size + b.size := ByteArray.size_append
theorem s53 : (Tryd.prog.funcs[53]?).isSome = true := by kernel_rfl
theorem b53 : (fn 53).body = some (code 53) := by kernel_rfl
theorem n53 : ((fn 53).name == "runtime.NumGoroutine") = false := by kernel_rfl
theorem colon_size : colon.size = 2 := rfl
set_option maxRecDepth 100000 in
theorem text_b {c : Nat → Int} {k : Int} {r : ByteArray} (h : FC c 51 [iV k] (sV r)) (hr : r.size ≤ 1000000000000000000) (a : ByteArray) (ha : a.size ≤ 1125899906842624) : FC c 53 [sV a, tB k] (sV (a ++ colon ++ r)) :=
  fn_okC (addC (XC_ok c) rfl h) rfl s53 b53 n53 ((iff_of_eq (g53b_vc c k a r (a ++ colon ++ r))).2 ⟨rfl, decide_eq_true (by omega), (), ⟨trivial, .refl _, rfl⟩, decide_eq_true (by rw [size_app]; have : ByteArray.size ⟨⟨[58, 32]⟩⟩ = 2 := rfl; omega), .refl _, .rfl⟩)
set_option maxRecDepth 100000 in
theorem text_s {c : Nat → Int} {b : AV} {r : ByteArray} (h : FC c 52 [.ref b] (sV r)) (hr : r.size ≤ 1000000000000000000) (a : ByteArray) (ha : a.size ≤ 1125899906842624) : FC c 53 [sV a, tW 33 b] (sV (a ++ colon ++ r)) :=
  fn_okC (addC (XC_ok c) rfl h) rfl s53 b53 n53 ((iff_of_eq (g53s_vc c b a r (a ++ colon ++ r))).2 ⟨rfl, decide_eq_true (by omega), (), ⟨trivial, .refl _, rfl⟩, decide_eq_true (by rw [size_app]; have : ByteArray.size ⟨⟨[58, 32]⟩⟩ = 2 := rfl; omega), .refl _, .rfl⟩)
set_option maxRecDepth 100000 in
theorem text_p {c : Nat → Int} {b : AV} {r : ByteArray} (h : FC c 54 [.ref b] (sV r)) (hr : r.size ≤ 1000000000000000000) (a : ByteArray) (ha : a.size ≤ 1125899906842624) : FC c 53 [sV a, tW 34 b] (sV (a ++ colon ++ r)) :=
  fn_okC (addC (XC_ok c) rfl h) rfl s53 b53 n53 ((iff_of_eq (g53p_vc c b a r (a ++ colon ++ r))).2 ⟨rfl, decide_eq_true (by omega), (), ⟨trivial, .refl _, rfl⟩, decide_eq_true (by rw [size_app]; have : ByteArray.size ⟨⟨[58, 32]⟩⟩ = 2 := rfl; omega), .refl _, .rfl⟩)
set_option maxRecDepth 100000 in
theorem text_w {c : Nat → Int} {b : AV} {r : ByteArray} (h : FC c 69 [.ref b] (sV r)) (hr : r.size ≤ 1000000000000000000) (a : ByteArray) (ha : a.size ≤ 1125899906842624) : FC c 53 [sV a, tW 35 b] (sV (a ++ colon ++ r)) :=
  fn_okC (addC (XC_ok c) rfl h) rfl s53 b53 n53 ((iff_of_eq (g53w_vc c b a r (a ++ colon ++ r))).2 ⟨rfl, decide_eq_true (by omega), (), ⟨trivial, .refl _, rfl⟩, decide_eq_true (by rw [size_app]; have : ByteArray.size ⟨⟨[58, 32]⟩⟩ = 2 := rfl; omega), .refl _, .rfl⟩)
set_option maxRecDepth 100000 in
theorem text_ok {c : Nat → Int} {e : Er} {r : ByteArray} (h : FC c e.meth [e.recv] (sV r)) (hr : r.size ≤ 1000000000000000000) (a : ByteArray) (ha : a.size ≤ 1125899906842624) : FC c 53 [sV a, e.enc] (sV (a ++ colon ++ r)) := by
  cases e with
  | base k => exact text_b h hr a ha
  | step s e => exact text_s h hr a ha
  | place s e => exact text_p h hr a ha
  | which s e => exact text_w h hr a ha
theorem add53 {c : Nat → Int} {x : AV} {r : ByteArray} (h : ∀ a : ByteArray, a.size ≤ 1125899906842624 → FC c 53 [sV a, x] (sV (a ++ colon ++ r))) : ((XC c).add 53 (Sp.con [sp53 x r])).Sound := (XC_ok c).add (Sp.one fun a ha => h a ha)
theorem hb0_at (p : Int) : 0 ≤ hb0 p ∧ hb0 p < 1000 := by
  have h1 := Int.emod_nonneg p (by decide : (6 : Int) ≠ 0)
  have h2 := Int.emod_lt_of_pos p (by decide : (0 : Int) < 6)
  unfold hb0
  generalize p % 6 = q at h1 h2
  have : q = 0 ∨ q = 1 ∨ q = 2 ∨ q = 3 ∨ q = 4 ∨ q = 5 := by omega
  rcases this with rfl | rfl | rfl | rfl | rfl | rfl <;> decide
theorem itoa_small (c : Nat → Int) (n : Int) (h1 : 0 ≤ n) (h2 : n < 1000) : ∃ s : ByteArray, 0 < s.size ∧ s.size ≤ 1000 ∧ FC c 55 [iV n] (sV s) := itoa c n h1 h2
theorem s52 : (Tryd.prog.funcs[52]?).isSome = true := by kernel_rfl
theorem b52 : (fn 52).body = some (code 52) := by kernel_rfl
theorem n52 : ((fn 52).name == "runtime.NumGoroutine") = false := by kernel_rfl
theorem s54 : (Tryd.prog.funcs[54]?).isSome = true := by kernel_rfl
theorem b54 : (fn 54).body = some (code 54) := by kernel_rfl
theorem n54 : ((fn 54).name == "runtime.NumGoroutine") = false := by kernel_rfl
theorem s69 : (Tryd.prog.funcs[69]?).isSome = true := by kernel_rfl
theorem b69 : (fn 69).body = some (code 69) := by kernel_rfl
theorem n69 : ((fn 69).name == "runtime.NumGoroutine") = false := by kernel_rfl
set_option maxRecDepth 100000 in
theorem step_b {c : Nat → Int} {k : Int} {r : ByteArray} (h : ∀ a : ByteArray, a.size ≤ 1125899906842624 → FC c 53 [sV a, tB k] (sV (a ++ colon ++ r))) (q : ByteArray) (hq : q.size ≤ 140737488355328) : FC c 52 [.ref (.agg [.lit (.string q), tB k])] (sV (⟨⟨[115, 116, 101, 112, 32]⟩⟩ ++ q ++ colon ++ r)) :=
  fn_okC (add53 h) rfl s52 b52 n52 ((iff_of_eq (g52b_vc c q k r _)).2 ⟨decide_eq_true (by omega), ⟨⟨[115, 116, 101, 112, 32]⟩⟩ ++ q, ⟨by rw [size_app]; have : ByteArray.size ⟨⟨[115, 116, 101, 112, 32]⟩⟩ = 5 := rfl; omega, .refl _, rfl⟩, .refl _, .rfl⟩)
set_option maxRecDepth 100000 in
theorem place_b {c : Nat → Int} {k : Int} {r : ByteArray} (h : ∀ a : ByteArray, a.size ≤ 1125899906842624 → FC c 53 [sV a, tB k] (sV (a ++ colon ++ r))) (n : Int) {ri : ByteArray} (hi : FC c 55 [iV n] (sV ri)) (hr : ri.size ≤ 1000) : FC c 54 [.ref (.agg [.lit (.int .i64 n), tB k])] (sV (⟨⟨[97, 116, 32]⟩⟩ ++ ri ++ colon ++ r)) :=
  fn_okC (addC (add53 h) rfl hi) rfl s54 b54 n54 ((iff_of_eq (g54b_vc c n ri k r _)).2 ⟨(), ⟨trivial, .refl _, rfl⟩, decide_eq_true (by omega), ⟨⟨[97, 116, 32]⟩⟩ ++ ri, ⟨by rw [size_app]; have : ByteArray.size ⟨⟨[97, 116, 32]⟩⟩ = 3 := rfl; omega, .refl _, rfl⟩, .refl _, .rfl⟩)
set_option maxRecDepth 100000 in
theorem which_b {c : Nat → Int} {k : Int} {r : ByteArray} (h : ∀ a : ByteArray, a.size ≤ 1125899906842624 → FC c 53 [sV a, tB k] (sV (a ++ colon ++ r))) (p : Int) {ri : ByteArray} (hi : FC c 55 [iV (hb0 p)] (sV ri)) (hr : ri.size ≤ 1000) : FC c 69 [.ref (.agg [.lit (.agg (hashV p)), tB k])] (sV (⟨⟨[111, 102, 32]⟩⟩ ++ ri ++ colon ++ r)) :=
  fn_okC (addC (add53 h) rfl hi) rfl s69 b69 n69 ((iff_of_eq (g69b_vc c p ri k r _)).2 ⟨inR_i64 (by have := hb0_at p; omega) (by have := hb0_at p; omega), (), ⟨trivial, .refl _, rfl⟩, decide_eq_true (by omega), ⟨⟨[111, 102, 32]⟩⟩ ++ ri, ⟨by rw [size_app]; have : ByteArray.size ⟨⟨[111, 102, 32]⟩⟩ = 3 := rfl; omega, .refl _, rfl⟩, .refl _, .rfl⟩)
set_option maxRecDepth 100000 in
theorem step_t {c : Nat → Int} {t : Nat} {b : AV} {r : ByteArray} (h : ∀ a : ByteArray, a.size ≤ 1125899906842624 → FC c 53 [sV a, tW t b] (sV (a ++ colon ++ r))) (q : ByteArray) (hq : q.size ≤ 140737488355328) : FC c 52 [.ref (.agg [.lit (.string q), tW t b])] (sV (⟨⟨[115, 116, 101, 112, 32]⟩⟩ ++ q ++ colon ++ r)) :=
  fn_okC (add53 h) rfl s52 b52 n52 ((iff_of_eq (g52t_vc c q t b r _)).2 ⟨decide_eq_true (by omega), ⟨⟨[115, 116, 101, 112, 32]⟩⟩ ++ q, ⟨by rw [size_app]; have : ByteArray.size ⟨⟨[115, 116, 101, 112, 32]⟩⟩ = 5 := rfl; omega, .refl _, rfl⟩, .refl _, .rfl⟩)
set_option maxRecDepth 100000 in
theorem place_t {c : Nat → Int} {t : Nat} {b : AV} {r : ByteArray} (h : ∀ a : ByteArray, a.size ≤ 1125899906842624 → FC c 53 [sV a, tW t b] (sV (a ++ colon ++ r))) (n : Int) {ri : ByteArray} (hi : FC c 55 [iV n] (sV ri)) (hr : ri.size ≤ 1000) : FC c 54 [.ref (.agg [.lit (.int .i64 n), tW t b])] (sV (⟨⟨[97, 116, 32]⟩⟩ ++ ri ++ colon ++ r)) :=
  fn_okC (addC (add53 h) rfl hi) rfl s54 b54 n54 ((iff_of_eq (g54t_vc c n ri t b r _)).2 ⟨(), ⟨trivial, .refl _, rfl⟩, decide_eq_true (by omega), ⟨⟨[97, 116, 32]⟩⟩ ++ ri, ⟨by rw [size_app]; have : ByteArray.size ⟨⟨[97, 116, 32]⟩⟩ = 3 := rfl; omega, .refl _, rfl⟩, .refl _, .rfl⟩)
set_option maxRecDepth 100000 in
theorem which_t {c : Nat → Int} {t : Nat} {b : AV} {r : ByteArray} (h : ∀ a : ByteArray, a.size ≤ 1125899906842624 → FC c 53 [sV a, tW t b] (sV (a ++ colon ++ r))) (p : Int) {ri : ByteArray} (hi : FC c 55 [iV (hb0 p)] (sV ri)) (hr : ri.size ≤ 1000) : FC c 69 [.ref (.agg [.lit (.agg (hashV p)), tW t b])] (sV (⟨⟨[111, 102, 32]⟩⟩ ++ ri ++ colon ++ r)) :=
  fn_okC (addC (add53 h) rfl hi) rfl s69 b69 n69 ((iff_of_eq (g69t_vc c p ri t b r _)).2 ⟨inR_i64 (by have := hb0_at p; omega) (by have := hb0_at p; omega), (), ⟨trivial, .refl _, rfl⟩, decide_eq_true (by omega), ⟨⟨[111, 102, 32]⟩⟩ ++ ri, ⟨by rw [size_app]; have : ByteArray.size ⟨⟨[111, 102, 32]⟩⟩ = 3 := rfl; omega, .refl _, rfl⟩, .refl _, .rfl⟩)
theorem s51 : (Tryd.prog.funcs[51]?).isSome = true := by kernel_rfl
theorem b51 : (fn 51).body = some (code 51) := by kernel_rfl
theorem n51 : ((fn 51).name == "runtime.NumGoroutine") = false := by kernel_rfl
set_option maxRecDepth 100000 in
theorem errno_1 (c : Nat → Int) : ∃ s : ByteArray, 0 < s.size ∧ s.size ≤ 1000 ∧ FC c 51 [iV 1] (sV s) := ⟨⟨⟨[97, 114, 103, 117, 109, 101, 110, 116]⟩⟩, size_pos _ _, size_le (by simp only [List.length_cons, List.length_nil]; omega), fn_okC0 (XC_ok c) rfl s51 b51 n51 (fz := 0) (os := Orc.z) (show g51x1 Orc.z c ⟨⟨[97, 114, 103, 117, 109, 101, 110, 116]⟩⟩ from (iff_of_eq (g51x1_vc c ⟨⟨[97, 114, 103, 117, 109, 101, 110, 116]⟩⟩)).2 ⟨.refl _, .rfl⟩)⟩
set_option maxRecDepth 100000 in
theorem errno_2 (c : Nat → Int) : ∃ s : ByteArray, 0 < s.size ∧ s.size ≤ 1000 ∧ FC c 51 [iV 2] (sV s) := ⟨⟨⟨[102, 111, 114, 109]⟩⟩, size_pos _ _, size_le (by simp only [List.length_cons, List.length_nil]; omega), fn_okC0 (XC_ok c) rfl s51 b51 n51 (fz := 0) (os := Orc.z) (show g51x2 Orc.z c ⟨⟨[102, 111, 114, 109]⟩⟩ from (iff_of_eq (g51x2_vc c ⟨⟨[102, 111, 114, 109]⟩⟩)).2 ⟨.refl _, .rfl⟩)⟩
set_option maxRecDepth 100000 in
theorem errno_3 (c : Nat → Int) : ∃ s : ByteArray, 0 < s.size ∧ s.size ≤ 1000 ∧ FC c 51 [iV 3] (sV s) := ⟨⟨⟨[115, 104, 111, 114, 116]⟩⟩, size_pos _ _, size_le (by simp only [List.length_cons, List.length_nil]; omega), fn_okC0 (XC_ok c) rfl s51 b51 n51 (fz := 0) (os := Orc.z) (show g51x3 Orc.z c ⟨⟨[115, 104, 111, 114, 116]⟩⟩ from (iff_of_eq (g51x3_vc c ⟨⟨[115, 104, 111, 114, 116]⟩⟩)).2 ⟨.refl _, .rfl⟩)⟩
set_option maxRecDepth 100000 in
theorem errno_4 (c : Nat → Int) : ∃ s : ByteArray, 0 < s.size ∧ s.size ≤ 1000 ∧ FC c 51 [iV 4] (sV s) := ⟨⟨⟨[115, 117, 109]⟩⟩, size_pos _ _, size_le (by simp only [List.length_cons, List.length_nil]; omega), fn_okC0 (XC_ok c) rfl s51 b51 n51 (fz := 0) (os := Orc.z) (show g51x4 Orc.z c ⟨⟨[115, 117, 109]⟩⟩ from (iff_of_eq (g51x4_vc c ⟨⟨[115, 117, 109]⟩⟩)).2 ⟨.refl _, .rfl⟩)⟩
set_option maxRecDepth 100000 in
theorem errno_5 (c : Nat → Int) : ∃ s : ByteArray, 0 < s.size ∧ s.size ≤ 1000 ∧ FC c 51 [iV 5] (sV s) := ⟨⟨⟨[108, 111, 110, 103]⟩⟩, size_pos _ _, size_le (by simp only [List.length_cons, List.length_nil]; omega), fn_okC0 (XC_ok c) rfl s51 b51 n51 (fz := 0) (os := Orc.z) (show g51x5 Orc.z c ⟨⟨[108, 111, 110, 103]⟩⟩ from (iff_of_eq (g51x5_vc c ⟨⟨[108, 111, 110, 103]⟩⟩)).2 ⟨.refl _, .rfl⟩)⟩
set_option maxRecDepth 100000 in
theorem errno_6 (c : Nat → Int) : ∃ s : ByteArray, 0 < s.size ∧ s.size ≤ 1000 ∧ FC c 51 [iV 6] (sV s) := ⟨⟨⟨[115, 112, 97, 99, 101]⟩⟩, size_pos _ _, size_le (by simp only [List.length_cons, List.length_nil]; omega), fn_okC0 (XC_ok c) rfl s51 b51 n51 (fz := 0) (os := Orc.z) (show g51x6 Orc.z c ⟨⟨[115, 112, 97, 99, 101]⟩⟩ from (iff_of_eq (g51x6_vc c ⟨⟨[115, 112, 97, 99, 101]⟩⟩)).2 ⟨.refl _, .rfl⟩)⟩
set_option maxRecDepth 100000 in
theorem errno_7 (c : Nat → Int) : ∃ s : ByteArray, 0 < s.size ∧ s.size ≤ 1000 ∧ FC c 51 [iV 7] (sV s) := ⟨⟨⟨[100, 111, 119, 110]⟩⟩, size_pos _ _, size_le (by simp only [List.length_cons, List.length_nil]; omega), fn_okC0 (XC_ok c) rfl s51 b51 n51 (fz := 0) (os := Orc.z) (show g51x7 Orc.z c ⟨⟨[100, 111, 119, 110]⟩⟩ from (iff_of_eq (g51x7_vc c ⟨⟨[100, 111, 119, 110]⟩⟩)).2 ⟨.refl _, .rfl⟩)⟩
set_option maxRecDepth 100000 in
theorem errno_8 (c : Nat → Int) : ∃ s : ByteArray, 0 < s.size ∧ s.size ≤ 1000 ∧ FC c 51 [iV 8] (sV s) := ⟨⟨⟨[108, 105, 109, 105, 116]⟩⟩, size_pos _ _, size_le (by simp only [List.length_cons, List.length_nil]; omega), fn_okC0 (XC_ok c) rfl s51 b51 n51 (fz := 0) (os := Orc.z) (show g51x8 Orc.z c ⟨⟨[108, 105, 109, 105, 116]⟩⟩ from (iff_of_eq (g51x8_vc c ⟨⟨[108, 105, 109, 105, 116]⟩⟩)).2 ⟨.refl _, .rfl⟩)⟩
set_option maxRecDepth 100000 in
theorem errno_9 (c : Nat → Int) : ∃ s : ByteArray, 0 < s.size ∧ s.size ≤ 1000 ∧ FC c 51 [iV 9] (sV s) := ⟨⟨⟨[99, 111, 110, 102, 108, 105, 99, 116]⟩⟩, size_pos _ _, size_le (by simp only [List.length_cons, List.length_nil]; omega), fn_okC0 (XC_ok c) rfl s51 b51 n51 (fz := 0) (os := Orc.z) (show g51x9 Orc.z c ⟨⟨[99, 111, 110, 102, 108, 105, 99, 116]⟩⟩ from (iff_of_eq (g51x9_vc c ⟨⟨[99, 111, 110, 102, 108, 105, 99, 116]⟩⟩)).2 ⟨.refl _, .rfl⟩)⟩
set_option maxRecDepth 100000 in
theorem errno_10 (c : Nat → Int) : ∃ s : ByteArray, 0 < s.size ∧ s.size ≤ 1000 ∧ FC c 51 [iV 10] (sV s) := ⟨⟨⟨[112, 97, 114, 101, 110, 116]⟩⟩, size_pos _ _, size_le (by simp only [List.length_cons, List.length_nil]; omega), fn_okC0 (XC_ok c) rfl s51 b51 n51 (fz := 0) (os := Orc.z) (show g51x10 Orc.z c ⟨⟨[112, 97, 114, 101, 110, 116]⟩⟩ from (iff_of_eq (g51x10_vc c ⟨⟨[112, 97, 114, 101, 110, 116]⟩⟩)).2 ⟨.refl _, .rfl⟩)⟩
set_option maxRecDepth 100000 in
theorem errno_11 (c : Nat → Int) : ∃ s : ByteArray, 0 < s.size ∧ s.size ≤ 1000 ∧ FC c 51 [iV 11] (sV s) := ⟨⟨⟨[117, 110, 107, 110, 111, 119, 110]⟩⟩, size_pos _ _, size_le (by simp only [List.length_cons, List.length_nil]; omega), fn_okC0 (XC_ok c) rfl s51 b51 n51 (fz := 0) (os := Orc.z) (show g51x11 Orc.z c ⟨⟨[117, 110, 107, 110, 111, 119, 110]⟩⟩ from (iff_of_eq (g51x11_vc c ⟨⟨[117, 110, 107, 110, 111, 119, 110]⟩⟩)).2 ⟨.refl _, .rfl⟩)⟩
set_option maxRecDepth 100000 in
theorem errno_12 (c : Nat → Int) : ∃ s : ByteArray, 0 < s.size ∧ s.size ≤ 1000 ∧ FC c 51 [iV 12] (sV s) := ⟨⟨⟨[99, 121, 99, 108, 101]⟩⟩, size_pos _ _, size_le (by simp only [List.length_cons, List.length_nil]; omega), fn_okC0 (XC_ok c) rfl s51 b51 n51 (fz := 0) (os := Orc.z) (show g51x12 Orc.z c ⟨⟨[99, 121, 99, 108, 101]⟩⟩ from (iff_of_eq (g51x12_vc c ⟨⟨[99, 121, 99, 108, 101]⟩⟩)).2 ⟨.refl _, .rfl⟩)⟩
set_option maxRecDepth 100000 in
theorem errno_13 (c : Nat → Int) : ∃ s : ByteArray, 0 < s.size ∧ s.size ≤ 1000 ∧ FC c 51 [iV 13] (sV s) := ⟨⟨⟨[102, 117, 108, 108]⟩⟩, size_pos _ _, size_le (by simp only [List.length_cons, List.length_nil]; omega), fn_okC0 (XC_ok c) rfl s51 b51 n51 (fz := 0) (os := Orc.z) (show g51x13 Orc.z c ⟨⟨[102, 117, 108, 108]⟩⟩ from (iff_of_eq (g51x13_vc c ⟨⟨[102, 117, 108, 108]⟩⟩)).2 ⟨.refl _, .rfl⟩)⟩
set_option maxRecDepth 100000 in
theorem errno_14 (c : Nat → Int) : ∃ s : ByteArray, 0 < s.size ∧ s.size ≤ 1000 ∧ FC c 51 [iV 14] (sV s) := ⟨⟨⟨[97, 109, 98, 105, 103, 117, 111, 117, 115]⟩⟩, size_pos _ _, size_le (by simp only [List.length_cons, List.length_nil]; omega), fn_okC0 (XC_ok c) rfl s51 b51 n51 (fz := 0) (os := Orc.z) (show g51x14 Orc.z c ⟨⟨[97, 109, 98, 105, 103, 117, 111, 117, 115]⟩⟩ from (iff_of_eq (g51x14_vc c ⟨⟨[97, 109, 98, 105, 103, 117, 111, 117, 115]⟩⟩)).2 ⟨.refl _, .rfl⟩)⟩
set_option maxRecDepth 100000 in
theorem errno_15 (c : Nat → Int) : ∃ s : ByteArray, 0 < s.size ∧ s.size ≤ 1000 ∧ FC c 51 [iV 15] (sV s) := ⟨⟨⟨[112, 97, 114, 115, 101]⟩⟩, size_pos _ _, size_le (by simp only [List.length_cons, List.length_nil]; omega), fn_okC0 (XC_ok c) rfl s51 b51 n51 (fz := 0) (os := Orc.z) (show g51x15 Orc.z c ⟨⟨[112, 97, 114, 115, 101]⟩⟩ from (iff_of_eq (g51x15_vc c ⟨⟨[112, 97, 114, 115, 101]⟩⟩)).2 ⟨.refl _, .rfl⟩)⟩
set_option maxRecDepth 100000 in
theorem errno_16 (c : Nat → Int) : ∃ s : ByteArray, 0 < s.size ∧ s.size ≤ 1000 ∧ FC c 51 [iV 16] (sV s) := ⟨⟨⟨[100, 101, 112, 116, 104]⟩⟩, size_pos _ _, size_le (by simp only [List.length_cons, List.length_nil]; omega), fn_okC0 (XC_ok c) rfl s51 b51 n51 (fz := 0) (os := Orc.z) (show g51x16 Orc.z c ⟨⟨[100, 101, 112, 116, 104]⟩⟩ from (iff_of_eq (g51x16_vc c ⟨⟨[100, 101, 112, 116, 104]⟩⟩)).2 ⟨.refl _, .rfl⟩)⟩
set_option maxRecDepth 100000 in
theorem errno_17 (c : Nat → Int) : ∃ s : ByteArray, 0 < s.size ∧ s.size ≤ 1000 ∧ FC c 51 [iV 17] (sV s) := ⟨⟨⟨[102, 101, 116, 99, 104]⟩⟩, size_pos _ _, size_le (by simp only [List.length_cons, List.length_nil]; omega), fn_okC0 (XC_ok c) rfl s51 b51 n51 (fz := 0) (os := Orc.z) (show g51x17 Orc.z c ⟨⟨[102, 101, 116, 99, 104]⟩⟩ from (iff_of_eq (g51x17_vc c ⟨⟨[102, 101, 116, 99, 104]⟩⟩)).2 ⟨.refl _, .rfl⟩)⟩
set_option maxRecDepth 100000 in
theorem errno_18 (c : Nat → Int) : ∃ s : ByteArray, 0 < s.size ∧ s.size ≤ 1000 ∧ FC c 51 [iV 18] (sV s) := ⟨⟨⟨[115, 116, 97, 116, 101]⟩⟩, size_pos _ _, size_le (by simp only [List.length_cons, List.length_nil]; omega), fn_okC0 (XC_ok c) rfl s51 b51 n51 (fz := 0) (os := Orc.z) (show g51x18 Orc.z c ⟨⟨[115, 116, 97, 116, 101]⟩⟩ from (iff_of_eq (g51x18_vc c ⟨⟨[115, 116, 97, 116, 101]⟩⟩)).2 ⟨.refl _, .rfl⟩)⟩
set_option maxRecDepth 100000 in
theorem errno_19 (c : Nat → Int) : ∃ s : ByteArray, 0 < s.size ∧ s.size ≤ 1000 ∧ FC c 51 [iV 19] (sV s) := ⟨⟨⟨[109, 97, 115, 116, 101, 114]⟩⟩, size_pos _ _, size_le (by simp only [List.length_cons, List.length_nil]; omega), fn_okC0 (XC_ok c) rfl s51 b51 n51 (fz := 0) (os := Orc.z) (show g51x19 Orc.z c ⟨⟨[109, 97, 115, 116, 101, 114]⟩⟩ from (iff_of_eq (g51x19_vc c ⟨⟨[109, 97, 115, 116, 101, 114]⟩⟩)).2 ⟨.refl _, .rfl⟩)⟩
set_option maxRecDepth 100000 in
theorem errno (c : Nat → Int) (k : Int) (h1 : 1 ≤ k) (h2 : k ≤ 19) : ∃ s : ByteArray, 0 < s.size ∧ s.size ≤ 1000 ∧ FC c 51 [iV k] (sV s) := by
  have : k = 1 ∨ k = 2 ∨ k = 3 ∨ k = 4 ∨ k = 5 ∨ k = 6 ∨ k = 7 ∨ k = 8 ∨ k = 9 ∨ k = 10 ∨ k = 11 ∨ k = 12 ∨ k = 13 ∨ k = 14 ∨ k = 15 ∨ k = 16 ∨ k = 17 ∨ k = 18 ∨ k = 19 := by omega
  rcases this with rfl | rfl | rfl | rfl | rfl | rfl | rfl | rfl | rfl | rfl | rfl | rfl | rfl | rfl | rfl | rfl | rfl | rfl | rfl
  · exact errno_1 c
  · exact errno_2 c
  · exact errno_3 c
  · exact errno_4 c
  · exact errno_5 c
  · exact errno_6 c
  · exact errno_7 c
  · exact errno_8 c
  · exact errno_9 c
  · exact errno_10 c
  · exact errno_11 c
  · exact errno_12 c
  · exact errno_13 c
  · exact errno_14 c
  · exact errno_15 c
  · exact errno_16 c
  · exact errno_17 c
  · exact errno_18 c
  · exact errno_19 c
set_option maxRecDepth 100000 in
theorem err (c : Nat → Int) : ∀ e : Er, e.fine → e.deep ≤ 1000 → ∃ s : ByteArray, 0 < s.size ∧ s.size ≤ (e.deep + 1) * 200000000000000 ∧ FC c e.meth [e.recv] (sV s)
  | .base k, h, _ => by
    obtain ⟨s, h1, h2, h3⟩ := errno c k h.1 h.2
    exact ⟨s, h1, by simp only [Er.deep]; omega, h3⟩
  | .step q e, h, hd => by
    obtain ⟨r, h1, h2, h3⟩ := err c e h.2 (by simp only [Er.deep] at hd; omega)
    simp only [Er.deep] at hd ⊢
    have hq : q.size ≤ 140737488355328 := h.1
    have ht := fun a ha => text_ok h3 (by have : (e.deep + 1) * 200000000000000 ≤ 1001 * 200000000000000 := Nat.mul_le_mul_right _ (by omega); omega) a ha
    refine ⟨⟨⟨[115, 116, 101, 112, 32]⟩⟩ ++ q ++ colon ++ r, ?_, ?_, ?_⟩
    · simp only [size_app]; omega
    · simp only [size_app, colon_size]; have : ByteArray.size ⟨⟨[115, 116, 101, 112, 32]⟩⟩ = 5 := rfl; omega
    · cases e with
      | base k => exact step_b ht q hq
      | step s' e' => exact step_t ht q hq
      | place s' e' => exact step_t ht q hq
      | which s' e' => exact step_t ht q hq
  | .place n e, h, hd => by
    obtain ⟨r, h1, h2, h3⟩ := err c e h.2 (by simp only [Er.deep] at hd; omega)
    simp only [Er.deep] at hd ⊢
    obtain ⟨ri, k1, k2, k3⟩ := itoa_small c n h.1.1 h.1.2
    have ht := fun a ha => text_ok h3 (by have : (e.deep + 1) * 200000000000000 ≤ 1001 * 200000000000000 := Nat.mul_le_mul_right _ (by omega); omega) a ha
    refine ⟨⟨⟨[97, 116, 32]⟩⟩ ++ ri ++ colon ++ r, ?_, ?_, ?_⟩
    · simp only [size_app]; omega
    · simp only [size_app, colon_size]; have : ByteArray.size ⟨⟨[97, 116, 32]⟩⟩ = 3 := rfl; omega
    · cases e with
      | base k => exact place_b ht n k3 k2
      | step s' e' => exact place_t ht n k3 k2
      | place s' e' => exact place_t ht n k3 k2
      | which s' e' => exact place_t ht n k3 k2
  | .which p e, h, hd => by
    obtain ⟨r, h1, h2, h3⟩ := err c e h (by simp only [Er.deep] at hd; omega)
    simp only [Er.deep] at hd ⊢
    obtain ⟨ri, k1, k2, k3⟩ := itoa_small c (hb0 p) (hb0_at p).1 (hb0_at p).2
    have ht := fun a ha => text_ok h3 (by have : (e.deep + 1) * 200000000000000 ≤ 1001 * 200000000000000 := Nat.mul_le_mul_right _ (by omega); omega) a ha
    refine ⟨⟨⟨[111, 102, 32]⟩⟩ ++ ri ++ colon ++ r, ?_, ?_, ?_⟩
    · simp only [size_app]; omega
    · simp only [size_app, colon_size]; have : ByteArray.size ⟨⟨[111, 102, 32]⟩⟩ = 3 := rfl; omega
    · cases e with
      | base k => exact which_b ht p k3 k2
      | step s' e' => exact which_t ht p k3 k2
      | place s' e' => exact which_t ht p k3 k2
      | which s' e' => exact which_t ht p k3 k2
end
end Go.Proofs.YtihjokkmkdhhpaaDoor
end
section
namespace Go.Proofs.YtihjokkmkdhhpaaDoor
open Go.AS
noncomputable section
abbrev u8 (n : Int) : AV := .lit (.int .u8 n)
def hG (a b c d : Int) : List AV := [u8 a, u8 b, u8 c] ++ List.replicate 28 (u8 0) ++ [u8 d]
/-- What a layer holds. -/
def lyW (xs : List AV) (i : Int) : Int := intA (nthA 0 (xs.getD i.toNat (.lit undef)))
def lyN (xs : List AV) (i : Int) : Int := intA (nthA 1 (xs.getD i.toNat (.lit undef)))
def lyS (xs : List AV) (i : Int) : ByteArray := strA (nthA 2 (xs.getD i.toNat (.lit undef)))
def lArgs (xs : List AV) (o kk : Int) (e : AV) (ys : List AV) (at_ : Int) (hs : Bool) (i : Int) : List AV :=
  [.lst false 3 xs, i0 o, i0 kk, e, .slc 1048578 [1, 0] 0 ys.length, i0 at_, .ptr 1048577 [0, 0] 0 0, b0 hs, i0 i]
def lHeap (ys : List AV) (a b c d : Int) : Hp := hpL [(1048577, ⟨[0, 0], .row true 1 (hG a b c d)⟩), (1048578, ⟨[1, 0], .row true 1 ys⟩)]
def outA (o kk : Int) (e : AV) (ys : List AV) (at_ : Int) (hs : Bool) (a b c d : Int) : Ex × Back :=
  (.exit 0, ⟨.tup [i0 o, i0 kk, e, .slc 1048578 [1, 0] 0 ys.length, i0 at_, .ptr 1048577 [0, 0] 0 0, b0 hs], lHeap ys a b c d, [1048577]⟩)
def lpL (l : List Spl) : Lp := ⟨[1, 2, 7, 8, 9, 10, 11, 12, 13], [(9, 1)], fun _ => [2, 7, 8, 9, 10, 11, 12], Spl.con l⟩
def lpL1 (xs : List AV) (o kk : Int) (e : AV) (ys : List AV) (at_ : Int) (hs : Bool) (i : Int) (a b c d : Int) (r : Ex × Back) : Lp :=
  lpL [⟨Unit, fun _ => True, fun _ => lArgs xs o kk e ys at_ hs i, fun _ => lHeap ys a b c d, fun _ => r⟩]
def rL (os : Orc) (L : Lp) (xs : List AV) (o kk : Int) (e : AV) (ys : List AV) (at_ : Int) (hs : Bool) (i : Int) (a b c d : Int) (r : Ex × Back) : Prop :=
  runL ((X2.ask [5]).askAt 5 [39]) 12 5 (fn 5).ntmps (loopAt (code 5) 0) L L os 0 [] (lArgs xs o kk e ys at_ hs i) (lHeap ys a b c d) r
def outB (o kk : Int) (e : AV) (ys zs : List AV) (at_ : Int) (hs : Bool) (a b c d : Int) : Ex × Back :=
  (.exit 0, ⟨.tup [i0 o, i0 kk, e, .slc 2097155 [2, 1] 0 zs.length, i0 at_, .ptr 1048577 [0, 0] 0 0, b0 hs], hpL [(1048577, ⟨[0, 0], .row true 1 (hG a b c d)⟩), (1048578, ⟨[1, 0], .row true 1 ys⟩), (2097155, ⟨[2, 1], .row true 1 zs⟩)], [1048577, 2097155]⟩)
abbrev hA (p : Int) : Int := hb0 p
abbrev hB (p : Int) : Int := p / 6 * 16 % 256
abbrev hC (p : Int) : Int := p * 7 % 256
def rLxb1 (os : Orc) (xs : List AV) (o kk : Int) (k : Int) (ys : List AV) (at_ : Int) (hs : Bool) (i : Int) (a b0_ c d : Int) : Prop := rL os (lpL []) xs o kk (tB k) ys at_ hs i a b0_ c d (outA o kk (tB k) ys at_ hs a b0_ c d)
def rLxb2 (os : Orc) (xs : List AV) (o kk : Int) (k : Int) (ys : List AV) (at_ : Int) (hs : Bool) (i : Int) (a b0_ c d : Int) : Prop := rL os (lpL []) xs o kk (tB k) ys at_ hs i a b0_ c d (outA o kk (tB k) ys at_ hs a b0_ c d)
def rLsbA (os : Orc) (xs : List AV) (o kk : Int) (k : Int) (ys : List AV) (at_ : Int) (hs : Bool) (i : Int) (a b0_ c d : Int) (t' : Nat) (b' : AV) (at' : Int) (hs' : Bool) (a' b2 c' d' : Int) : Prop := rL os (lpL1 xs o kk (hStep (lyS xs i) (tB k)) (sA (lyS xs i) :: ys) at_ hs (i + 1) a b0_ c d (outA o kk (tW t' b') (sA (lyS xs i) :: ys) at' hs' a' b2 c' d')) xs o kk (tB k) ys at_ hs i a b0_ c d (outB o kk (tW t' b') ys (sA (lyS xs i) :: ys) at' hs' a' b2 c' d')
def rLsbB (os : Orc) (xs : List AV) (o kk : Int) (k : Int) (ys : List AV) (at_ : Int) (hs : Bool) (i : Int) (a b0_ c d : Int) (t' : Nat) (b' : AV) (at' : Int) (hs' : Bool) (a' b2 c' d' : Int) (zs : List AV) : Prop := rL os (lpL1 xs o kk (hStep (lyS xs i) (tB k)) (sA (lyS xs i) :: ys) at_ hs (i + 1) a b0_ c d (outB o kk (tW t' b') (sA (lyS xs i) :: ys) zs at' hs' a' b2 c' d')) xs o kk (tB k) ys at_ hs i a b0_ c d (outB o kk (tW t' b') ys zs at' hs' a' b2 c' d')
def rLpbA (os : Orc) (xs : List AV) (o kk : Int) (k : Int) (ys : List AV) (at_ : Int) (hs : Bool) (i : Int) (a b0_ c d : Int) (t' : Nat) (b' : AV) (at' : Int) (hs' : Bool) (a' b2 c' d' : Int) : Prop := rL os (lpL1 xs o kk (hPlace (lyN xs i % 1000) (tB k)) ys (lyN xs i % 1000) hs (i + 1) a b0_ c d (outA o kk (tW t' b') ys at' hs' a' b2 c' d')) xs o kk (tB k) ys at_ hs i a b0_ c d (outA o kk (tW t' b') ys at' hs' a' b2 c' d')
def rLpbB (os : Orc) (xs : List AV) (o kk : Int) (k : Int) (ys : List AV) (at_ : Int) (hs : Bool) (i : Int) (a b0_ c d : Int) (t' : Nat) (b' : AV) (at' : Int) (hs' : Bool) (a' b2 c' d' : Int) (zs : List AV) : Prop := rL os (lpL1 xs o kk (hPlace (lyN xs i % 1000) (tB k)) ys (lyN xs i % 1000) hs (i + 1) a b0_ c d (outB o kk (tW t' b') ys zs at' hs' a' b2 c' d')) xs o kk (tB k) ys at_ hs i a b0_ c d (outB o kk (tW t' b') ys zs at' hs' a' b2 c' d')
def rLwbA (os : Orc) (xs : List AV) (o kk : Int) (k : Int) (ys : List AV) (at_ : Int) (hs : Bool) (i : Int) (a b0_ c d : Int) (t' : Nat) (b' : AV) (at' : Int) (hs' : Bool) (a' b2 c' d' : Int) : Prop := rL os (lpL1 xs o kk (hWhich (lyN xs i % 60) (tB k)) ys at_ true (i + 1) (hA (lyN xs i % 60)) (hB (lyN xs i % 60)) (hC (lyN xs i % 60)) (lyN xs i % 60) (outA o kk (tW t' b') ys at' hs' a' b2 c' d')) xs o kk (tB k) ys at_ hs i a b0_ c d (outA o kk (tW t' b') ys at' hs' a' b2 c' d')
def rLwbB (os : Orc) (xs : List AV) (o kk : Int) (k : Int) (ys : List AV) (at_ : Int) (hs : Bool) (i : Int) (a b0_ c d : Int) (t' : Nat) (b' : AV) (at' : Int) (hs' : Bool) (a' b2 c' d' : Int) (zs : List AV) : Prop := rL os (lpL1 xs o kk (hWhich (lyN xs i % 60) (tB k)) ys at_ true (i + 1) (hA (lyN xs i % 60)) (hB (lyN xs i % 60)) (hC (lyN xs i % 60)) (lyN xs i % 60) (outB o kk (tW t' b') ys zs at' hs' a' b2 c' d')) xs o kk (tB k) ys at_ hs i a b0_ c d (outB o kk (tW t' b') ys zs at' hs' a' b2 c' d')
def rLxt1 (os : Orc) (xs : List AV) (o kk : Int) (t : Nat) (b : AV) (ys : List AV) (at_ : Int) (hs : Bool) (i : Int) (a b0_ c d : Int) : Prop := rL os (lpL []) xs o kk (tW t b) ys at_ hs i a b0_ c d (outA o kk (tW t b) ys at_ hs a b0_ c d)
def rLxt2 (os : Orc) (xs : List AV) (o kk : Int) (t : Nat) (b : AV) (ys : List AV) (at_ : Int) (hs : Bool) (i : Int) (a b0_ c d : Int) : Prop := rL os (lpL []) xs o kk (tW t b) ys at_ hs i a b0_ c d (outA o kk (tW t b) ys at_ hs a b0_ c d)
def rLstA (os : Orc) (xs : List AV) (o kk : Int) (t : Nat) (b : AV) (ys : List AV) (at_ : Int) (hs : Bool) (i : Int) (a b0_ c d : Int) (t' : Nat) (b' : AV) (at' : Int) (hs' : Bool) (a' b2 c' d' : Int) : Prop := rL os (lpL1 xs o kk (hStep (lyS xs i) (tW t b)) (sA (lyS xs i) :: ys) at_ hs (i + 1) a b0_ c d (outA o kk (tW t' b') (sA (lyS xs i) :: ys) at' hs' a' b2 c' d')) xs o kk (tW t b) ys at_ hs i a b0_ c d (outB o kk (tW t' b') ys (sA (lyS xs i) :: ys) at' hs' a' b2 c' d')
def rLstB (os : Orc) (xs : List AV) (o kk : Int) (t : Nat) (b : AV) (ys : List AV) (at_ : Int) (hs : Bool) (i : Int) (a b0_ c d : Int) (t' : Nat) (b' : AV) (at' : Int) (hs' : Bool) (a' b2 c' d' : Int) (zs : List AV) : Prop := rL os (lpL1 xs o kk (hStep (lyS xs i) (tW t b)) (sA (lyS xs i) :: ys) at_ hs (i + 1) a b0_ c d (outB o kk (tW t' b') (sA (lyS xs i) :: ys) zs at' hs' a' b2 c' d')) xs o kk (tW t b) ys at_ hs i a b0_ c d (outB o kk (tW t' b') ys zs at' hs' a' b2 c' d')
def rLptA (os : Orc) (xs : List AV) (o kk : Int) (t : Nat) (b : AV) (ys : List AV) (at_ : Int) (hs : Bool) (i : Int) (a b0_ c d : Int) (t' : Nat) (b' : AV) (at' : Int) (hs' : Bool) (a' b2 c' d' : Int) : Prop := rL os (lpL1 xs o kk (hPlace (lyN xs i % 1000) (tW t b)) ys (lyN xs i % 1000) hs (i + 1) a b0_ c d (outA o kk (tW t' b') ys at' hs' a' b2 c' d')) xs o kk (tW t b) ys at_ hs i a b0_ c d (outA o kk (tW t' b') ys at' hs' a' b2 c' d')
def rLptB (os : Orc) (xs : List AV) (o kk : Int) (t : Nat) (b : AV) (ys : List AV) (at_ : Int) (hs : Bool) (i : Int) (a b0_ c d : Int) (t' : Nat) (b' : AV) (at' : Int) (hs' : Bool) (a' b2 c' d' : Int) (zs : List AV) : Prop := rL os (lpL1 xs o kk (hPlace (lyN xs i % 1000) (tW t b)) ys (lyN xs i % 1000) hs (i + 1) a b0_ c d (outB o kk (tW t' b') ys zs at' hs' a' b2 c' d')) xs o kk (tW t b) ys at_ hs i a b0_ c d (outB o kk (tW t' b') ys zs at' hs' a' b2 c' d')
def rLwtA (os : Orc) (xs : List AV) (o kk : Int) (t : Nat) (b : AV) (ys : List AV) (at_ : Int) (hs : Bool) (i : Int) (a b0_ c d : Int) (t' : Nat) (b' : AV) (at' : Int) (hs' : Bool) (a' b2 c' d' : Int) : Prop := rL os (lpL1 xs o kk (hWhich (lyN xs i % 60) (tW t b)) ys at_ true (i + 1) (hA (lyN xs i % 60)) (hB (lyN xs i % 60)) (hC (lyN xs i % 60)) (lyN xs i % 60) (outA o kk (tW t' b') ys at' hs' a' b2 c' d')) xs o kk (tW t b) ys at_ hs i a b0_ c d (outA o kk (tW t' b') ys at' hs' a' b2 c' d')
def rLwtB (os : Orc) (xs : List AV) (o kk : Int) (t : Nat) (b : AV) (ys : List AV) (at_ : Int) (hs : Bool) (i : Int) (a b0_ c d : Int) (t' : Nat) (b' : AV) (at' : Int) (hs' : Bool) (a' b2 c' d' : Int) (zs : List AV) : Prop := rL os (lpL1 xs o kk (hWhich (lyN xs i % 60) (tW t b)) ys at_ true (i + 1) (hA (lyN xs i % 60)) (hB (lyN xs i % 60)) (hC (lyN xs i % 60)) (lyN xs i % 60) (outB o kk (tW t' b') ys zs at' hs' a' b2 c' d')) xs o kk (tW t b) ys at_ hs i a b0_ c d (outB o kk (tW t' b') ys zs at' hs' a' b2 c' d')
end
end Go.Proofs.YtihjokkmkdhhpaaDoor
end
