/- errors.As over an error in its wrappers: each round, and all of them. -/
import Derived.Test.YtihjokkmkdhhpaaDoorOb
import Derived.Test.YtihjokkmkdhhpaaDoorAWl
import Derived.Test.YtihjokkmkdhhpaaDoorOa
section
namespace Go.Proofs.YtihjokkmkdhhpaaDoor
open Go.AS
noncomputable section
theorem rE0_ok (k : Int) : rE0 (Orc.z.t) k := by
  rw [rE0_vc]
  repeat' first
    | exact ⟨(), ⟨trivial, .refl _, rfl⟩, rfl, .refl _, .rfl⟩
    | exact .rfl
    | exact .refl _
    | exact rfl
    | refine And.intro ?_ ?_
theorem rEsb_ok (s : ByteArray) (k : Int) (c : Bool) (v : AV) : rEsb (Orc.z.f.t.f.f.f.f.f) s k c v := by
  rw [rEsb_vc]
  repeat' first
    | exact ⟨(), ⟨trivial, .refl _, rfl⟩, rfl, .refl _, .rfl⟩
    | exact .rfl
    | exact .refl _
    | exact rfl
    | refine And.intro ?_ ?_
theorem rEst_ok (s : ByteArray) (t : Nat) (b : AV) (c : Bool) (v : AV) : rEst (Orc.z.f.t.f.f.f.f.f) s t b c v := by
  rw [rEst_vc]
  repeat' first
    | exact ⟨(), ⟨trivial, .refl _, rfl⟩, rfl, .refl _, .rfl⟩
    | exact .rfl
    | exact .refl _
    | exact rfl
    | refine And.intro ?_ ?_
theorem rEpb_ok (n : Int) (k : Int) (c : Bool) (v : AV) : rEpb (Orc.z.f.t.f.f.f.f.f) n k c v := by
  rw [rEpb_vc]
  repeat' first
    | exact ⟨(), ⟨trivial, .refl _, rfl⟩, rfl, .refl _, .rfl⟩
    | exact .rfl
    | exact .refl _
    | exact rfl
    | refine And.intro ?_ ?_
theorem rEpt_ok (n : Int) (t : Nat) (b : AV) (c : Bool) (v : AV) : rEpt (Orc.z.f.t.f.f.f.f.f) n t b c v := by
  rw [rEpt_vc]
  repeat' first
    | exact ⟨(), ⟨trivial, .refl _, rfl⟩, rfl, .refl _, .rfl⟩
    | exact .rfl
    | exact .refl _
    | exact rfl
    | refine And.intro ?_ ?_
theorem rEwb_ok (p : Int) (k : Int) (c : Bool) (v : AV) : rEwb (Orc.z.f.t.f.f.f.f.f) p k c v := by
  rw [rEwb_vc]
  repeat' first
    | exact ⟨(), ⟨trivial, .refl _, rfl⟩, rfl, .refl _, .rfl⟩
    | exact .rfl
    | exact .refl _
    | exact rfl
    | refine And.intro ?_ ?_
theorem rEwt_ok (p : Int) (t : Nat) (b : AV) (c : Bool) (v : AV) : rEwt (Orc.z.f.t.f.f.f.f.f) p t b c v := by
  rw [rEwt_vc]
  repeat' first
    | exact ⟨(), ⟨trivial, .refl _, rfl⟩, rfl, .refl _, .rfl⟩
    | exact .rfl
    | exact .refl _
    | exact rfl
    | refine And.intro ?_ ?_
theorem rP0_ok (k : Int) : rP0 (Orc.z.f.f.f.f.f.f.f) k := by
  rw [rP0_vc]
  repeat' first
    | exact ⟨(), ⟨trivial, .refl _, rfl⟩, rfl, .refl _, .rfl⟩
    | exact .rfl
    | exact .refl _
    | exact rfl
    | refine And.intro ?_ ?_
theorem rPsb_ok (s : ByteArray) (k : Int) (c : Bool) (v : AV) : rPsb (Orc.z.f.t.f.f.f.f.f) s k c v := by
  rw [rPsb_vc]
  repeat' first
    | exact ⟨(), ⟨trivial, .refl _, rfl⟩, rfl, .refl _, .rfl⟩
    | exact .rfl
    | exact .refl _
    | exact rfl
    | refine And.intro ?_ ?_
theorem rPst_ok (s : ByteArray) (t : Nat) (b : AV) (c : Bool) (v : AV) : rPst (Orc.z.f.t.f.f.f.f.f) s t b c v := by
  rw [rPst_vc]
  repeat' first
    | exact ⟨(), ⟨trivial, .refl _, rfl⟩, rfl, .refl _, .rfl⟩
    | exact .rfl
    | exact .refl _
    | exact rfl
    | refine And.intro ?_ ?_
theorem rPp_ok (n : Int) (t : Nat) (x : AV) : rPp (Orc.z.t) n t x := by
  rw [rPp_vc]
  repeat' first
    | exact ⟨(), ⟨trivial, .refl _, rfl⟩, rfl, .refl _, .rfl⟩
    | exact .rfl
    | exact .refl _
    | exact rfl
    | refine And.intro ?_ ?_
theorem rPwb_ok (p : Int) (k : Int) (c : Bool) (v : AV) : rPwb (Orc.z.f.t.f.f.f.f.f) p k c v := by
  rw [rPwb_vc]
  repeat' first
    | exact ⟨(), ⟨trivial, .refl _, rfl⟩, rfl, .refl _, .rfl⟩
    | exact .rfl
    | exact .refl _
    | exact rfl
    | refine And.intro ?_ ?_
theorem rPwt_ok (p : Int) (t : Nat) (b : AV) (c : Bool) (v : AV) : rPwt (Orc.z.f.t.f.f.f.f.f) p t b c v := by
  rw [rPwt_vc]
  repeat' first
    | exact ⟨(), ⟨trivial, .refl _, rfl⟩, rfl, .refl _, .rfl⟩
    | exact .rfl
    | exact .refl _
    | exact rfl
    | refine And.intro ?_ ?_
theorem rW0_ok (k : Int) : rW0 (Orc.z.f.f.f.f.f.f.f) k := by
  rw [rW0_vc]
  repeat' first
    | exact ⟨(), ⟨trivial, .refl _, rfl⟩, rfl, .refl _, .rfl⟩
    | exact .rfl
    | exact .refl _
    | exact rfl
    | refine And.intro ?_ ?_
theorem rWsb_ok (s : ByteArray) (k : Int) (c : Bool) (v : AV) : rWsb (Orc.z.f.t.f.f.f.f.f) s k c v := by
  rw [rWsb_vc]
  repeat' first
    | exact ⟨(), ⟨trivial, .refl _, rfl⟩, rfl, .refl _, .rfl⟩
    | exact .rfl
    | exact .refl _
    | exact rfl
    | refine And.intro ?_ ?_
theorem rWst_ok (s : ByteArray) (t : Nat) (b : AV) (c : Bool) (v : AV) : rWst (Orc.z.f.t.f.f.f.f.f) s t b c v := by
  rw [rWst_vc]
  repeat' first
    | exact ⟨(), ⟨trivial, .refl _, rfl⟩, rfl, .refl _, .rfl⟩
    | exact .rfl
    | exact .refl _
    | exact rfl
    | refine And.intro ?_ ?_
theorem rWpb_ok (n : Int) (k : Int) (c : Bool) (v : AV) : rWpb (Orc.z.f.t.f.f.f.f.f) n k c v := by
  rw [rWpb_vc]
  repeat' first
    | exact ⟨(), ⟨trivial, .refl _, rfl⟩, rfl, .refl _, .rfl⟩
    | exact .rfl
    | exact .refl _
    | exact rfl
    | refine And.intro ?_ ?_
theorem rWpt_ok (n : Int) (t : Nat) (b : AV) (c : Bool) (v : AV) : rWpt (Orc.z.f.t.f.f.f.f.f) n t b c v := by
  rw [rWpt_vc]
  repeat' first
    | exact ⟨(), ⟨trivial, .refl _, rfl⟩, rfl, .refl _, .rfl⟩
    | exact .rfl
    | exact .refl _
    | exact rfl
    | refine And.intro ?_ ?_
theorem rWw_ok (p : Int) (t : Nat) (x : AV) : rWw (Orc.z.t) p t x := by
  rw [rWw_vc]
  repeat' first
    | exact ⟨(), ⟨trivial, .refl _, rfl⟩, rfl, .refl _, .rfl⟩
    | exact .rfl
    | exact .refl _
    | exact rfl
    | refine And.intro ?_ ?_

abbrev n29 : Nat := (fn 29).ntmps
abbrev B29 (xs : List AV) (σ : Hp) (r : Ex × Back) : Prop := BlkOk Tryd.prog X0.gl n29 (loopAt (code 29) 0) [0, 1, 3, 6] (fun _ => [8]) xs σ fun _ r' => r' = r
theorem loops29 : Code.loops (fun i y => ∀ L, (XB.ask [29]).lp 29 i = some L → LpOk (XB.ask [29]).px.P (XB.ask [29]).px.gl n29 y L) none (loopAt (code 29) 0) := loops_true (fun _ _ _ hL => by cases hL) _ _
theorem lpNo_ok : LpOk Tryd.prog X0.gl n29 (loopAt (code 29) 0) lpNo := fun _ _ _ a ha => by cases ha
theorem round0 {K T : Nat} {z x : AV} {b : Bool} {v : AV} {os : Orc} (h : rA0 os K T z x b v) : B29 (asArgs K T x) (asHeap K z) (asOut K b v) :=
  lp_ok (X := XB.ask [29]) (d := 6) (f := 29) (L := lpNo) (XB_ok.ask [29]) loops29 lpNo_ok h
theorem round1 {K T : Nat} {z x tl : AV} {b : Bool} {v : AV} {os : Orc} (ih : B29 (asArgs K T tl) (asHeap K z) (asOut K b v)) (h : rAs os K T z x tl b v) : B29 (asArgs K T x) (asHeap K z) (asOut K b v) :=
  lp_ok (X := XB.ask [29]) (d := 6) (f := 29) (L := lpAs K T z tl b v) (XB_ok.ask [29]) loops29
    (Spl.ok rfl (show ([0, 1, 3, 6] : List Nat).Nodup by decide) fun s hs i _ => by obtain rfl := List.mem_singleton.1 hs; exact ih) h
set_option maxRecDepth 100000 in
theorem asE : ∀ e : Er, B29 (asArgs 83 22 e.enc) (asHeap 83 (.lit (.int .i64 0))) (asOut 83 true (.lit (.int .i64 e.kindOf)))
  | .base k => round0 (rE0_ok k)
  | .step s e => by
    have ih := asE e
    cases e with
    | base k => exact round1 ih (rEsb_ok s k _ _)
    | step s' e' => exact round1 ih (rEst_ok s _ _ _ _)
    | place s' e' => exact round1 ih (rEst_ok s _ _ _ _)
    | which s' e' => exact round1 ih (rEst_ok s _ _ _ _)
  | .place s e => by
    have ih := asE e
    cases e with
    | base k => exact round1 ih (rEpb_ok s k _ _)
    | step s' e' => exact round1 ih (rEpt_ok s _ _ _ _)
    | place s' e' => exact round1 ih (rEpt_ok s _ _ _ _)
    | which s' e' => exact round1 ih (rEpt_ok s _ _ _ _)
  | .which s e => by
    have ih := asE e
    cases e with
    | base k => exact round1 ih (rEwb_ok s k _ _)
    | step s' e' => exact round1 ih (rEwt_ok s _ _ _ _)
    | place s' e' => exact round1 ih (rEwt_ok s _ _ _ _)
    | which s' e' => exact round1 ih (rEwt_ok s _ _ _ _)
def Er.placeV : Er → Bool × AV
  | .base _ => (false, .lit (.pointer none))
  | .step _ e => e.placeV
  | .place n e => (true, .ref (.agg [.lit (.int .i64 n), e.enc]))
  | .which _ e => e.placeV
def Er.whichV : Er → Bool × AV
  | .base _ => (false, .lit (.pointer none))
  | .step _ e => e.whichV
  | .place _ e => e.whichV
  | .which p e => (true, .ref (.agg [.lit (.agg (hashV p)), e.enc]))
set_option maxRecDepth 100000 in
theorem asP : ∀ e : Er, B29 (asArgs 38 34 e.enc) (asHeap 38 (.lit (.pointer none))) (asOut 38 e.placeV.1 e.placeV.2)
  | .base k => round0 (rP0_ok k)
  | .step s e => by
    have ih := asP e
    cases e with
    | base k => exact round1 ih (rPsb_ok s k _ _)
    | step s' e' => exact round1 ih (rPst_ok s _ _ _ _)
    | place s' e' => exact round1 ih (rPst_ok s _ _ _ _)
    | which s' e' => exact round1 ih (rPst_ok s _ _ _ _)
  | .place n e => round0 (rPp_ok n e.ty e.bx)
  | .which s e => by
    have ih := asP e
    cases e with
    | base k => exact round1 ih (rPwb_ok s k _ _)
    | step s' e' => exact round1 ih (rPwt_ok s _ _ _ _)
    | place s' e' => exact round1 ih (rPwt_ok s _ _ _ _)
    | which s' e' => exact round1 ih (rPwt_ok s _ _ _ _)
set_option maxRecDepth 100000 in
theorem asW : ∀ e : Er, B29 (asArgs 39 35 e.enc) (asHeap 39 (.lit (.pointer none))) (asOut 39 e.whichV.1 e.whichV.2)
  | .base k => round0 (rW0_ok k)
  | .step s e => by
    have ih := asW e
    cases e with
    | base k => exact round1 ih (rWsb_ok s k _ _)
    | step s' e' => exact round1 ih (rWst_ok s _ _ _ _)
    | place s' e' => exact round1 ih (rWst_ok s _ _ _ _)
    | which s' e' => exact round1 ih (rWst_ok s _ _ _ _)
  | .place s e => by
    have ih := asW e
    cases e with
    | base k => exact round1 ih (rWpb_ok s k _ _)
    | step s' e' => exact round1 ih (rWpt_ok s _ _ _ _)
    | place s' e' => exact round1 ih (rWpt_ok s _ _ _ _)
    | which s' e' => exact round1 ih (rWpt_ok s _ _ _ _)
  | .which p e => round0 (rWw_ok p e.ty e.bx)
end
end Go.Proofs.YtihjokkmkdhhpaaDoor
end
section
namespace Go.Proofs.YtihjokkmkdhhpaaDoor
open Go.AS
noncomputable section
abbrev zI : AV := .lit (.int .i64 0)
abbrev zN : AV := .lit (.pointer none)
def lpOf (l : List Spl) : Lp := ⟨[0, 1, 3, 6], [], fun _ => [8], Spl.con l⟩
def spE : Spl := ⟨Er, fun _ => True, fun e => asArgs 83 22 e.enc, fun _ => asHeap 83 zI, fun e => asOut 83 true (.lit (.int .i64 e.kindOf))⟩
def spP1 : Spl := ⟨Er × Int × Er, fun i => i.1.placeV = (true, .ref (.agg [.lit (.int .i64 i.2.1), i.2.2.enc])), fun i => asArgs 38 34 i.1.enc, fun _ => asHeap 38 zN, fun i => asOut 38 true (.ref (.agg [.lit (.int .i64 i.2.1), i.2.2.enc]))⟩
def spP0 : Spl := ⟨Er, fun e => e.placeV = (false, zN), fun e => asArgs 38 34 e.enc, fun _ => asHeap 38 zN, fun _ => asOut 38 false zN⟩
def spW1 : Spl := ⟨Er × Int × Er, fun i => i.1.whichV = (true, .ref (.agg [.lit (.agg (hashV i.2.1)), i.2.2.enc])), fun i => asArgs 39 35 i.1.enc, fun _ => asHeap 39 zN, fun i => asOut 39 true (.ref (.agg [.lit (.agg (hashV i.2.1)), i.2.2.enc]))⟩
def spW0 : Spl := ⟨Er, fun e => e.whichV = (false, zN), fun e => asArgs 39 35 e.enc, fun _ => asHeap 39 zN, fun _ => asOut 39 false zN⟩
def XE : WX := XB.addLp 29 0 (lpOf [spE])
def XP1 : WX := XB.addLp 29 0 (lpOf [spP1])
def XP0 : WX := XB.addLp 29 0 (lpOf [spP0])
def XW1 : WX := XB.addLp 29 0 (lpOf [spW1])
def XW0 : WX := XB.addLp 29 0 (lpOf [spW0])
def gF (X : WX) (f : Nat) (os : Orc) (x r : AV) : Prop := runF (X.ask [f]) 8 f (fn f) (code f) os 0 [] [x] .nil ⟨r, .nil, []⟩
abbrev b0 (b : Bool) : AV := .lit (.bool b)
abbrev i0 (n : Int) : AV := .lit (.int .i64 n)
def hz : AV := .agg (List.replicate 32 (.lit (.int .u8 0)))
def g18b (os : Orc) (k : Int) : Prop := gF XP0 18 os (tB k) (.tup [i0 0, b0 false])
def g18n (os : Orc) (t : Nat) (b : AV) : Prop := gF XP0 18 os (tW t b) (.tup [i0 0, b0 false])
def g18f (os : Orc) (t : Nat) (b : AV) (n : Int) : Prop := gF XP1 18 os (tW t b) (.tup [i0 n, b0 true])
def g24b (os : Orc) (k : Int) : Prop := gF XP0 24 os (tB k) (i0 (-1))
def g24n (os : Orc) (t : Nat) (b : AV) : Prop := gF XP0 24 os (tW t b) (i0 (-1))
def g24f (os : Orc) (t : Nat) (b : AV) (n : Int) : Prop := gF XP1 24 os (tW t b) (i0 n)
def g19b (os : Orc) (k : Int) : Prop := gF XW0 19 os (tB k) (.tup [hz, b0 false])
def g19n (os : Orc) (t : Nat) (b : AV) : Prop := gF XW0 19 os (tW t b) (.tup [hz, b0 false])
def g19f (os : Orc) (t : Nat) (b : AV) (p : Int) : Prop := gF XW1 19 os (tW t b) (.tup [.lit (.agg (hashV p)), b0 true])
def g21b (os : Orc) (k : Int) : Prop := gF XE 21 os (tB k) (i0 k)
def g21n (os : Orc) (t : Nat) (b : AV) (k : Int) : Prop := gF XE 21 os (tW t b) (i0 k)
def g23b (os : Orc) (k : Int) : Prop := gF XE 23 os (tB k) (i0 k)
def g23n (os : Orc) (t : Nat) (b : AV) (k : Int) : Prop := gF XE 23 os (tW t b) (i0 k)
end
end Go.Proofs.YtihjokkmkdhhpaaDoor
end
section
namespace Go.Proofs.YtihjokkmkdhhpaaDoor
open Go Go.AS
theorem g18b_vc (k : Int) : g18b (Orc.z.t) k = (∃ (i1 : Er), (i1.placeV = (false, AV.lit (Value.pointer none)) ∧ Wks [AV.iface 22 (AV.lit (Value.int IntKind.i64 k)), AV.iface 38 (AV.ptr 1048579 [2, 0] 0 0), AV.lit (Value.iface 90 (Value.agg { toList := [Value.pointer (some { block := 4, off := 34 })] })), AV.ptr 1048578 [1, 0] 0 0] [AV.iface i1.ty i1.bx, AV.iface 38 (AV.ptr 1048579 [2, 0] 0 0), AV.lit (Value.iface 90 (Value.agg { toList := [Value.pointer (some { block := 4, off := 34 })] })), AV.ptr 1048578 [1, 0] 0 0] ∧ hpL [(1048579, { id := [2, 0], obj := AObj.row true 1 [AV.lit (Value.pointer none)] }), (1048577, { id := [0, 0], obj := AObj.row false 1 [AV.ptr 1048579 [2, 0] 0 0] }), (1048578, { id := [1, 0], obj := AObj.row false 3 [AV.agg [AV.lit (Value.pointer (some { block := 4, off := 38 })), AV.ptr 1048577 [0, 0] 0 0, AV.lit (Value.int IntKind.u64 (Int.ofNat 150))]] })] = hpL [(1048579, { id := [2, 0], obj := AObj.row true 1 [AV.lit (Value.pointer none)] }), (1048577, { id := [0, 0], obj := AObj.row false 1 [AV.ptr 1048579 [2, 0] 0 0] }), (1048578, { id := [1, 0], obj := AObj.row false 3 [AV.agg [AV.lit (Value.pointer (some { block := 4, off := 38 })), AV.ptr 1048577 [0, 0] 0 0, AV.lit (Value.int IntKind.u64 150)]] })]) ∧ true = true ∧ Wk (AV.tup [AV.lit (Value.int IntKind.i64 0), AV.lit (Value.bool false)]) (AV.tup [AV.lit (Value.int IntKind.i64 0), AV.lit (Value.bool false)]) ∧ SameH (hpL []) (hpL [])) := by kernel_rfl
theorem g18n_vc (t : Nat) (b : AV) : g18n (Orc.z.t) t b = (∃ (i1 : Er), (i1.placeV = (false, AV.lit (Value.pointer none)) ∧ Wks [AV.iface t b.ref, AV.iface 38 (AV.ptr 1048579 [2, 0] 0 0), AV.lit (Value.iface 90 (Value.agg { toList := [Value.pointer (some { block := 4, off := 34 })] })), AV.ptr 1048578 [1, 0] 0 0] [AV.iface i1.ty i1.bx, AV.iface 38 (AV.ptr 1048579 [2, 0] 0 0), AV.lit (Value.iface 90 (Value.agg { toList := [Value.pointer (some { block := 4, off := 34 })] })), AV.ptr 1048578 [1, 0] 0 0] ∧ hpL [(1048579, { id := [2, 0], obj := AObj.row true 1 [AV.lit (Value.pointer none)] }), (1048577, { id := [0, 0], obj := AObj.row false 1 [AV.ptr 1048579 [2, 0] 0 0] }), (1048578, { id := [1, 0], obj := AObj.row false 3 [AV.agg [AV.lit (Value.pointer (some { block := 4, off := 38 })), AV.ptr 1048577 [0, 0] 0 0, AV.lit (Value.int IntKind.u64 (Int.ofNat 150))]] })] = hpL [(1048579, { id := [2, 0], obj := AObj.row true 1 [AV.lit (Value.pointer none)] }), (1048577, { id := [0, 0], obj := AObj.row false 1 [AV.ptr 1048579 [2, 0] 0 0] }), (1048578, { id := [1, 0], obj := AObj.row false 3 [AV.agg [AV.lit (Value.pointer (some { block := 4, off := 38 })), AV.ptr 1048577 [0, 0] 0 0, AV.lit (Value.int IntKind.u64 150)]] })]) ∧ true = true ∧ Wk (AV.tup [AV.lit (Value.int IntKind.i64 0), AV.lit (Value.bool false)]) (AV.tup [AV.lit (Value.int IntKind.i64 0), AV.lit (Value.bool false)]) ∧ SameH (hpL []) (hpL [])) := by kernel_rfl
theorem g18f_vc (t : Nat) (b : AV) (n : Int) : g18f (Orc.z.f) t b n = (∃ (i1 : Er × Int × Er), (i1.fst.placeV = (true, (AV.agg [AV.lit (Value.int IntKind.i64 i1.snd.fst), AV.iface i1.snd.snd.ty i1.snd.snd.bx]).ref) ∧ Wks [AV.iface t b.ref, AV.iface 38 (AV.ptr 1048579 [2, 0] 0 0), AV.lit (Value.iface 90 (Value.agg { toList := [Value.pointer (some { block := 4, off := 34 })] })), AV.ptr 1048578 [1, 0] 0 0] [AV.iface i1.fst.ty i1.fst.bx, AV.iface 38 (AV.ptr 1048579 [2, 0] 0 0), AV.lit (Value.iface 90 (Value.agg { toList := [Value.pointer (some { block := 4, off := 34 })] })), AV.ptr 1048578 [1, 0] 0 0] ∧ hpL [(1048579, { id := [2, 0], obj := AObj.row true 1 [AV.lit (Value.pointer none)] }), (1048577, { id := [0, 0], obj := AObj.row false 1 [AV.ptr 1048579 [2, 0] 0 0] }), (1048578, { id := [1, 0], obj := AObj.row false 3 [AV.agg [AV.lit (Value.pointer (some { block := 4, off := 38 })), AV.ptr 1048577 [0, 0] 0 0, AV.lit (Value.int IntKind.u64 (Int.ofNat 150))]] })] = hpL [(1048579, { id := [2, 0], obj := AObj.row true 1 [AV.lit (Value.pointer none)] }), (1048577, { id := [0, 0], obj := AObj.row false 1 [AV.ptr 1048579 [2, 0] 0 0] }), (1048578, { id := [1, 0], obj := AObj.row false 3 [AV.agg [AV.lit (Value.pointer (some { block := 4, off := 38 })), AV.ptr 1048577 [0, 0] 0 0, AV.lit (Value.int IntKind.u64 150)]] })]) ∧ false = false ∧ Wk (AV.tup [AV.lit (Value.int IntKind.i64 i1.snd.fst), AV.lit (Value.bool true)]) (AV.tup [AV.lit (Value.int IntKind.i64 n), AV.lit (Value.bool true)]) ∧ SameH (hpL []) (hpL [])) := by kernel_rfl
theorem g24b_vc (k : Int) : g24b (Orc.z.f.f.f) k = (∃ (i1 : Er), (i1.placeV = (false, AV.lit (Value.pointer none)) ∧ Wks [AV.iface 22 (AV.lit (Value.int IntKind.i64 k)), AV.iface 38 (AV.ptr 1048579 [2, 0] 0 0), AV.lit (Value.iface 90 (Value.agg { toList := [Value.pointer (some { block := 4, off := 34 })] })), AV.ptr 1048578 [1, 0] 0 0] [AV.iface i1.ty i1.bx, AV.iface 38 (AV.ptr 1048579 [2, 0] 0 0), AV.lit (Value.iface 90 (Value.agg { toList := [Value.pointer (some { block := 4, off := 34 })] })), AV.ptr 1048578 [1, 0] 0 0] ∧ hpL [(1048579, { id := [2, 0], obj := AObj.row true 1 [AV.lit (Value.pointer none)] }), (1048577, { id := [0, 0], obj := AObj.row false 1 [AV.ptr 1048579 [2, 0] 0 0] }), (1048578, { id := [1, 0], obj := AObj.row false 3 [AV.agg [AV.lit (Value.pointer (some { block := 4, off := 38 })), AV.ptr 1048577 [0, 0] 0 0, AV.lit (Value.int IntKind.u64 (Int.ofNat 150))]] })] = hpL [(1048579, { id := [2, 0], obj := AObj.row true 1 [AV.lit (Value.pointer none)] }), (1048577, { id := [0, 0], obj := AObj.row false 1 [AV.ptr 1048579 [2, 0] 0 0] }), (1048578, { id := [1, 0], obj := AObj.row false 3 [AV.agg [AV.lit (Value.pointer (some { block := 4, off := 38 })), AV.ptr 1048577 [0, 0] 0 0, AV.lit (Value.int IntKind.u64 150)]] })]) ∧ false = false ∧ false = false ∧ false = false ∧ Wk (AV.lit (Value.int IntKind.i64 (-1))) (AV.lit (Value.int IntKind.i64 (-1))) ∧ SameH (hpL []) (hpL [])) := by kernel_rfl
theorem g24n_vc (t : Nat) (b : AV) : g24n (Orc.z.f.f.f) t b = (∃ (i1 : Er), (i1.placeV = (false, AV.lit (Value.pointer none)) ∧ Wks [AV.iface t b.ref, AV.iface 38 (AV.ptr 1048579 [2, 0] 0 0), AV.lit (Value.iface 90 (Value.agg { toList := [Value.pointer (some { block := 4, off := 34 })] })), AV.ptr 1048578 [1, 0] 0 0] [AV.iface i1.ty i1.bx, AV.iface 38 (AV.ptr 1048579 [2, 0] 0 0), AV.lit (Value.iface 90 (Value.agg { toList := [Value.pointer (some { block := 4, off := 34 })] })), AV.ptr 1048578 [1, 0] 0 0] ∧ hpL [(1048579, { id := [2, 0], obj := AObj.row true 1 [AV.lit (Value.pointer none)] }), (1048577, { id := [0, 0], obj := AObj.row false 1 [AV.ptr 1048579 [2, 0] 0 0] }), (1048578, { id := [1, 0], obj := AObj.row false 3 [AV.agg [AV.lit (Value.pointer (some { block := 4, off := 38 })), AV.ptr 1048577 [0, 0] 0 0, AV.lit (Value.int IntKind.u64 (Int.ofNat 150))]] })] = hpL [(1048579, { id := [2, 0], obj := AObj.row true 1 [AV.lit (Value.pointer none)] }), (1048577, { id := [0, 0], obj := AObj.row false 1 [AV.ptr 1048579 [2, 0] 0 0] }), (1048578, { id := [1, 0], obj := AObj.row false 3 [AV.agg [AV.lit (Value.pointer (some { block := 4, off := 38 })), AV.ptr 1048577 [0, 0] 0 0, AV.lit (Value.int IntKind.u64 150)]] })]) ∧ false = false ∧ false = false ∧ false = false ∧ Wk (AV.lit (Value.int IntKind.i64 (-1))) (AV.lit (Value.int IntKind.i64 (-1))) ∧ SameH (hpL []) (hpL [])) := by kernel_rfl
theorem g24f_vc (t : Nat) (b : AV) (n : Int) : g24f (Orc.z.t.t.t) t b n = (∃ (i1 : Er × Int × Er), (i1.fst.placeV = (true, (AV.agg [AV.lit (Value.int IntKind.i64 i1.snd.fst), AV.iface i1.snd.snd.ty i1.snd.snd.bx]).ref) ∧ Wks [AV.iface t b.ref, AV.iface 38 (AV.ptr 1048579 [2, 0] 0 0), AV.lit (Value.iface 90 (Value.agg { toList := [Value.pointer (some { block := 4, off := 34 })] })), AV.ptr 1048578 [1, 0] 0 0] [AV.iface i1.fst.ty i1.fst.bx, AV.iface 38 (AV.ptr 1048579 [2, 0] 0 0), AV.lit (Value.iface 90 (Value.agg { toList := [Value.pointer (some { block := 4, off := 34 })] })), AV.ptr 1048578 [1, 0] 0 0] ∧ hpL [(1048579, { id := [2, 0], obj := AObj.row true 1 [AV.lit (Value.pointer none)] }), (1048577, { id := [0, 0], obj := AObj.row false 1 [AV.ptr 1048579 [2, 0] 0 0] }), (1048578, { id := [1, 0], obj := AObj.row false 3 [AV.agg [AV.lit (Value.pointer (some { block := 4, off := 38 })), AV.ptr 1048577 [0, 0] 0 0, AV.lit (Value.int IntKind.u64 (Int.ofNat 150))]] })] = hpL [(1048579, { id := [2, 0], obj := AObj.row true 1 [AV.lit (Value.pointer none)] }), (1048577, { id := [0, 0], obj := AObj.row false 1 [AV.ptr 1048579 [2, 0] 0 0] }), (1048578, { id := [1, 0], obj := AObj.row false 3 [AV.agg [AV.lit (Value.pointer (some { block := 4, off := 38 })), AV.ptr 1048577 [0, 0] 0 0, AV.lit (Value.int IntKind.u64 150)]] })]) ∧ true = true ∧ true = true ∧ true = true ∧ Wk (AV.lit (Value.int IntKind.i64 i1.snd.fst)) (AV.lit (Value.int IntKind.i64 n)) ∧ SameH (hpL []) (hpL [])) := by kernel_rfl
theorem g19b_vc (k : Int) : g19b (Orc.z.t) k = (∃ (i1 : Er), (i1.whichV = (false, AV.lit (Value.pointer none)) ∧ Wks [AV.iface 22 (AV.lit (Value.int IntKind.i64 k)), AV.iface 39 (AV.ptr 1048579 [2, 0] 0 0), AV.lit (Value.iface 90 (Value.agg { toList := [Value.pointer (some { block := 4, off := 35 })] })), AV.ptr 1048578 [1, 0] 0 0] [AV.iface i1.ty i1.bx, AV.iface 39 (AV.ptr 1048579 [2, 0] 0 0), AV.lit (Value.iface 90 (Value.agg { toList := [Value.pointer (some { block := 4, off := 35 })] })), AV.ptr 1048578 [1, 0] 0 0] ∧ hpL [(1048579, { id := [2, 0], obj := AObj.row true 1 [AV.lit (Value.pointer none)] }), (1048577, { id := [0, 0], obj := AObj.row false 1 [AV.ptr 1048579 [2, 0] 0 0] }), (1048578, { id := [1, 0], obj := AObj.row false 3 [AV.agg [AV.lit (Value.pointer (some { block := 4, off := 39 })), AV.ptr 1048577 [0, 0] 0 0, AV.lit (Value.int IntKind.u64 (Int.ofNat 150))]] })] = hpL [(1048579, { id := [2, 0], obj := AObj.row true 1 [AV.lit (Value.pointer none)] }), (1048577, { id := [0, 0], obj := AObj.row false 1 [AV.ptr 1048579 [2, 0] 0 0] }), (1048578, { id := [1, 0], obj := AObj.row false 3 [AV.agg [AV.lit (Value.pointer (some { block := 4, off := 39 })), AV.ptr 1048577 [0, 0] 0 0, AV.lit (Value.int IntKind.u64 150)]] })]) ∧ true = true ∧ Wk (AV.tup [AV.agg [AV.lit (Value.int IntKind.u8 0), AV.lit (Value.int IntKind.u8 0), AV.lit (Value.int IntKind.u8 0), AV.lit (Value.int IntKind.u8 0), AV.lit (Value.int IntKind.u8 0), AV.lit (Value.int IntKind.u8 0), AV.lit (Value.int IntKind.u8 0), AV.lit (Value.int IntKind.u8 0), AV.lit (Value.int IntKind.u8 0), AV.lit (Value.int IntKind.u8 0), AV.lit (Value.int IntKind.u8 0), AV.lit (Value.int IntKind.u8 0), AV.lit (Value.int IntKind.u8 0), AV.lit (Value.int IntKind.u8 0), AV.lit (Value.int IntKind.u8 0), AV.lit (Value.int IntKind.u8 0), AV.lit (Value.int IntKind.u8 0), AV.lit (Value.int IntKind.u8 0), AV.lit (Value.int IntKind.u8 0), AV.lit (Value.int IntKind.u8 0), AV.lit (Value.int IntKind.u8 0), AV.lit (Value.int IntKind.u8 0), AV.lit (Value.int IntKind.u8 0), AV.lit (Value.int IntKind.u8 0), AV.lit (Value.int IntKind.u8 0), AV.lit (Value.int IntKind.u8 0), AV.lit (Value.int IntKind.u8 0), AV.lit (Value.int IntKind.u8 0), AV.lit (Value.int IntKind.u8 0), AV.lit (Value.int IntKind.u8 0), AV.lit (Value.int IntKind.u8 0), AV.lit (Value.int IntKind.u8 0)], AV.lit (Value.bool false)]) (AV.tup [AV.agg [AV.lit (Value.int IntKind.u8 0), AV.lit (Value.int IntKind.u8 0), AV.lit (Value.int IntKind.u8 0), AV.lit (Value.int IntKind.u8 0), AV.lit (Value.int IntKind.u8 0), AV.lit (Value.int IntKind.u8 0), AV.lit (Value.int IntKind.u8 0), AV.lit (Value.int IntKind.u8 0), AV.lit (Value.int IntKind.u8 0), AV.lit (Value.int IntKind.u8 0), AV.lit (Value.int IntKind.u8 0), AV.lit (Value.int IntKind.u8 0), AV.lit (Value.int IntKind.u8 0), AV.lit (Value.int IntKind.u8 0), AV.lit (Value.int IntKind.u8 0), AV.lit (Value.int IntKind.u8 0), AV.lit (Value.int IntKind.u8 0), AV.lit (Value.int IntKind.u8 0), AV.lit (Value.int IntKind.u8 0), AV.lit (Value.int IntKind.u8 0), AV.lit (Value.int IntKind.u8 0), AV.lit (Value.int IntKind.u8 0), AV.lit (Value.int IntKind.u8 0), AV.lit (Value.int IntKind.u8 0), AV.lit (Value.int IntKind.u8 0), AV.lit (Value.int IntKind.u8 0), AV.lit (Value.int IntKind.u8 0), AV.lit (Value.int IntKind.u8 0), AV.lit (Value.int IntKind.u8 0), AV.lit (Value.int IntKind.u8 0), AV.lit (Value.int IntKind.u8 0), AV.lit (Value.int IntKind.u8 0)], AV.lit (Value.bool false)]) ∧ SameH (hpL []) (hpL [])) := by kernel_rfl
theorem g19n_vc (t : Nat) (b : AV) : g19n (Orc.z.t) t b = (∃ (i1 : Er), (i1.whichV = (false, AV.lit (Value.pointer none)) ∧ Wks [AV.iface t b.ref, AV.iface 39 (AV.ptr 1048579 [2, 0] 0 0), AV.lit (Value.iface 90 (Value.agg { toList := [Value.pointer (some { block := 4, off := 35 })] })), AV.ptr 1048578 [1, 0] 0 0] [AV.iface i1.ty i1.bx, AV.iface 39 (AV.ptr 1048579 [2, 0] 0 0), AV.lit (Value.iface 90 (Value.agg { toList := [Value.pointer (some { block := 4, off := 35 })] })), AV.ptr 1048578 [1, 0] 0 0] ∧ hpL [(1048579, { id := [2, 0], obj := AObj.row true 1 [AV.lit (Value.pointer none)] }), (1048577, { id := [0, 0], obj := AObj.row false 1 [AV.ptr 1048579 [2, 0] 0 0] }), (1048578, { id := [1, 0], obj := AObj.row false 3 [AV.agg [AV.lit (Value.pointer (some { block := 4, off := 39 })), AV.ptr 1048577 [0, 0] 0 0, AV.lit (Value.int IntKind.u64 (Int.ofNat 150))]] })] = hpL [(1048579, { id := [2, 0], obj := AObj.row true 1 [AV.lit (Value.pointer none)] }), (1048577, { id := [0, 0], obj := AObj.row false 1 [AV.ptr 1048579 [2, 0] 0 0] }), (1048578, { id := [1, 0], obj := AObj.row false 3 [AV.agg [AV.lit (Value.pointer (some { block := 4, off := 39 })), AV.ptr 1048577 [0, 0] 0 0, AV.lit (Value.int IntKind.u64 150)]] })]) ∧ true = true ∧ Wk (AV.tup [AV.agg [AV.lit (Value.int IntKind.u8 0), AV.lit (Value.int IntKind.u8 0), AV.lit (Value.int IntKind.u8 0), AV.lit (Value.int IntKind.u8 0), AV.lit (Value.int IntKind.u8 0), AV.lit (Value.int IntKind.u8 0), AV.lit (Value.int IntKind.u8 0), AV.lit (Value.int IntKind.u8 0), AV.lit (Value.int IntKind.u8 0), AV.lit (Value.int IntKind.u8 0), AV.lit (Value.int IntKind.u8 0), AV.lit (Value.int IntKind.u8 0), AV.lit (Value.int IntKind.u8 0), AV.lit (Value.int IntKind.u8 0), AV.lit (Value.int IntKind.u8 0), AV.lit (Value.int IntKind.u8 0), AV.lit (Value.int IntKind.u8 0), AV.lit (Value.int IntKind.u8 0), AV.lit (Value.int IntKind.u8 0), AV.lit (Value.int IntKind.u8 0), AV.lit (Value.int IntKind.u8 0), AV.lit (Value.int IntKind.u8 0), AV.lit (Value.int IntKind.u8 0), AV.lit (Value.int IntKind.u8 0), AV.lit (Value.int IntKind.u8 0), AV.lit (Value.int IntKind.u8 0), AV.lit (Value.int IntKind.u8 0), AV.lit (Value.int IntKind.u8 0), AV.lit (Value.int IntKind.u8 0), AV.lit (Value.int IntKind.u8 0), AV.lit (Value.int IntKind.u8 0), AV.lit (Value.int IntKind.u8 0)], AV.lit (Value.bool false)]) (AV.tup [AV.agg [AV.lit (Value.int IntKind.u8 0), AV.lit (Value.int IntKind.u8 0), AV.lit (Value.int IntKind.u8 0), AV.lit (Value.int IntKind.u8 0), AV.lit (Value.int IntKind.u8 0), AV.lit (Value.int IntKind.u8 0), AV.lit (Value.int IntKind.u8 0), AV.lit (Value.int IntKind.u8 0), AV.lit (Value.int IntKind.u8 0), AV.lit (Value.int IntKind.u8 0), AV.lit (Value.int IntKind.u8 0), AV.lit (Value.int IntKind.u8 0), AV.lit (Value.int IntKind.u8 0), AV.lit (Value.int IntKind.u8 0), AV.lit (Value.int IntKind.u8 0), AV.lit (Value.int IntKind.u8 0), AV.lit (Value.int IntKind.u8 0), AV.lit (Value.int IntKind.u8 0), AV.lit (Value.int IntKind.u8 0), AV.lit (Value.int IntKind.u8 0), AV.lit (Value.int IntKind.u8 0), AV.lit (Value.int IntKind.u8 0), AV.lit (Value.int IntKind.u8 0), AV.lit (Value.int IntKind.u8 0), AV.lit (Value.int IntKind.u8 0), AV.lit (Value.int IntKind.u8 0), AV.lit (Value.int IntKind.u8 0), AV.lit (Value.int IntKind.u8 0), AV.lit (Value.int IntKind.u8 0), AV.lit (Value.int IntKind.u8 0), AV.lit (Value.int IntKind.u8 0), AV.lit (Value.int IntKind.u8 0)], AV.lit (Value.bool false)]) ∧ SameH (hpL []) (hpL [])) := by kernel_rfl
theorem g19f_vc (t : Nat) (b : AV) (p : Int) : g19f (Orc.z.f) t b p = (∃ (i1 : Er × Int × Er), (i1.fst.whichV = (true, (AV.agg [AV.lit (Value.agg (hashV i1.snd.fst)), AV.iface i1.snd.snd.ty i1.snd.snd.bx]).ref) ∧ Wks [AV.iface t b.ref, AV.iface 39 (AV.ptr 1048579 [2, 0] 0 0), AV.lit (Value.iface 90 (Value.agg { toList := [Value.pointer (some { block := 4, off := 35 })] })), AV.ptr 1048578 [1, 0] 0 0] [AV.iface i1.fst.ty i1.fst.bx, AV.iface 39 (AV.ptr 1048579 [2, 0] 0 0), AV.lit (Value.iface 90 (Value.agg { toList := [Value.pointer (some { block := 4, off := 35 })] })), AV.ptr 1048578 [1, 0] 0 0] ∧ hpL [(1048579, { id := [2, 0], obj := AObj.row true 1 [AV.lit (Value.pointer none)] }), (1048577, { id := [0, 0], obj := AObj.row false 1 [AV.ptr 1048579 [2, 0] 0 0] }), (1048578, { id := [1, 0], obj := AObj.row false 3 [AV.agg [AV.lit (Value.pointer (some { block := 4, off := 39 })), AV.ptr 1048577 [0, 0] 0 0, AV.lit (Value.int IntKind.u64 (Int.ofNat 150))]] })] = hpL [(1048579, { id := [2, 0], obj := AObj.row true 1 [AV.lit (Value.pointer none)] }), (1048577, { id := [0, 0], obj := AObj.row false 1 [AV.ptr 1048579 [2, 0] 0 0] }), (1048578, { id := [1, 0], obj := AObj.row false 3 [AV.agg [AV.lit (Value.pointer (some { block := 4, off := 39 })), AV.ptr 1048577 [0, 0] 0 0, AV.lit (Value.int IntKind.u64 150)]] })]) ∧ false = false ∧ Wk (AV.tup [AV.agg [AV.lit (Value.int IntKind.u8 (hb0 i1.snd.fst)), AV.lit (Value.int IntKind.u8 (i1.snd.fst / 6 * 16 % 256)), AV.lit (Value.int IntKind.u8 (i1.snd.fst * 7 % 256)), AV.lit (Value.int IntKind.u8 0), AV.lit (Value.int IntKind.u8 0), AV.lit (Value.int IntKind.u8 0), AV.lit (Value.int IntKind.u8 0), AV.lit (Value.int IntKind.u8 0), AV.lit (Value.int IntKind.u8 0), AV.lit (Value.int IntKind.u8 0), AV.lit (Value.int IntKind.u8 0), AV.lit (Value.int IntKind.u8 0), AV.lit (Value.int IntKind.u8 0), AV.lit (Value.int IntKind.u8 0), AV.lit (Value.int IntKind.u8 0), AV.lit (Value.int IntKind.u8 0), AV.lit (Value.int IntKind.u8 0), AV.lit (Value.int IntKind.u8 0), AV.lit (Value.int IntKind.u8 0), AV.lit (Value.int IntKind.u8 0), AV.lit (Value.int IntKind.u8 0), AV.lit (Value.int IntKind.u8 0), AV.lit (Value.int IntKind.u8 0), AV.lit (Value.int IntKind.u8 0), AV.lit (Value.int IntKind.u8 0), AV.lit (Value.int IntKind.u8 0), AV.lit (Value.int IntKind.u8 0), AV.lit (Value.int IntKind.u8 0), AV.lit (Value.int IntKind.u8 0), AV.lit (Value.int IntKind.u8 0), AV.lit (Value.int IntKind.u8 0), AV.lit (Value.int IntKind.u8 i1.snd.fst)], AV.lit (Value.bool true)]) (AV.tup [AV.lit (Value.agg (hashV p)), AV.lit (Value.bool true)]) ∧ SameH (hpL []) (hpL [])) := by kernel_rfl
theorem g21b_vc (k : Int) : g21b (Orc.z.t.f) k = (false = false ∧ ∃ (i1 : Er), (True ∧ Wks [AV.iface 22 (AV.lit (Value.int IntKind.i64 k)), AV.iface 83 (AV.ptr 1048579 [2, 0] 0 0), AV.lit (Value.iface 90 (Value.agg { toList := [Value.pointer (some { block := 4, off := 22 })] })), AV.ptr 1048578 [1, 0] 0 0] [AV.iface i1.ty i1.bx, AV.iface 83 (AV.ptr 1048579 [2, 0] 0 0), AV.lit (Value.iface 90 (Value.agg { toList := [Value.pointer (some { block := 4, off := 22 })] })), AV.ptr 1048578 [1, 0] 0 0] ∧ hpL [(1048579, { id := [2, 0], obj := AObj.row true 1 [AV.lit (Value.int IntKind.i64 0)] }), (1048577, { id := [0, 0], obj := AObj.row false 1 [AV.ptr 1048579 [2, 0] 0 0] }), (1048578, { id := [1, 0], obj := AObj.row false 3 [AV.agg [AV.lit (Value.pointer (some { block := 4, off := 83 })), AV.ptr 1048577 [0, 0] 0 0, AV.lit (Value.int IntKind.u64 (Int.ofNat 150))]] })] = hpL [(1048579, { id := [2, 0], obj := AObj.row true 1 [AV.lit (Value.int IntKind.i64 0)] }), (1048577, { id := [0, 0], obj := AObj.row false 1 [AV.ptr 1048579 [2, 0] 0 0] }), (1048578, { id := [1, 0], obj := AObj.row false 3 [AV.agg [AV.lit (Value.pointer (some { block := 4, off := 83 })), AV.ptr 1048577 [0, 0] 0 0, AV.lit (Value.int IntKind.u64 150)]] })]) ∧ true = true ∧ Wk (AV.lit (Value.int IntKind.i64 i1.kindOf)) (AV.lit (Value.int IntKind.i64 k)) ∧ SameH (hpL []) (hpL [])) := by kernel_rfl
theorem g21n_vc (t : Nat) (b : AV) (k : Int) : g21n (Orc.z.t.f) t b k = (false = false ∧ ∃ (i1 : Er), (True ∧ Wks [AV.iface t b.ref, AV.iface 83 (AV.ptr 1048579 [2, 0] 0 0), AV.lit (Value.iface 90 (Value.agg { toList := [Value.pointer (some { block := 4, off := 22 })] })), AV.ptr 1048578 [1, 0] 0 0] [AV.iface i1.ty i1.bx, AV.iface 83 (AV.ptr 1048579 [2, 0] 0 0), AV.lit (Value.iface 90 (Value.agg { toList := [Value.pointer (some { block := 4, off := 22 })] })), AV.ptr 1048578 [1, 0] 0 0] ∧ hpL [(1048579, { id := [2, 0], obj := AObj.row true 1 [AV.lit (Value.int IntKind.i64 0)] }), (1048577, { id := [0, 0], obj := AObj.row false 1 [AV.ptr 1048579 [2, 0] 0 0] }), (1048578, { id := [1, 0], obj := AObj.row false 3 [AV.agg [AV.lit (Value.pointer (some { block := 4, off := 83 })), AV.ptr 1048577 [0, 0] 0 0, AV.lit (Value.int IntKind.u64 (Int.ofNat 150))]] })] = hpL [(1048579, { id := [2, 0], obj := AObj.row true 1 [AV.lit (Value.int IntKind.i64 0)] }), (1048577, { id := [0, 0], obj := AObj.row false 1 [AV.ptr 1048579 [2, 0] 0 0] }), (1048578, { id := [1, 0], obj := AObj.row false 3 [AV.agg [AV.lit (Value.pointer (some { block := 4, off := 83 })), AV.ptr 1048577 [0, 0] 0 0, AV.lit (Value.int IntKind.u64 150)]] })]) ∧ true = true ∧ Wk (AV.lit (Value.int IntKind.i64 i1.kindOf)) (AV.lit (Value.int IntKind.i64 k)) ∧ SameH (hpL []) (hpL [])) := by kernel_rfl
theorem g23b_vc (k : Int) : g23b (Orc.z.t.f) k = (false = false ∧ ∃ (i1 : Er), (True ∧ Wks [AV.iface 22 (AV.lit (Value.int IntKind.i64 k)), AV.iface 83 (AV.ptr 1048579 [2, 0] 0 0), AV.lit (Value.iface 90 (Value.agg { toList := [Value.pointer (some { block := 4, off := 22 })] })), AV.ptr 1048578 [1, 0] 0 0] [AV.iface i1.ty i1.bx, AV.iface 83 (AV.ptr 1048579 [2, 0] 0 0), AV.lit (Value.iface 90 (Value.agg { toList := [Value.pointer (some { block := 4, off := 22 })] })), AV.ptr 1048578 [1, 0] 0 0] ∧ hpL [(1048579, { id := [2, 0], obj := AObj.row true 1 [AV.lit (Value.int IntKind.i64 0)] }), (1048577, { id := [0, 0], obj := AObj.row false 1 [AV.ptr 1048579 [2, 0] 0 0] }), (1048578, { id := [1, 0], obj := AObj.row false 3 [AV.agg [AV.lit (Value.pointer (some { block := 4, off := 83 })), AV.ptr 1048577 [0, 0] 0 0, AV.lit (Value.int IntKind.u64 (Int.ofNat 150))]] })] = hpL [(1048579, { id := [2, 0], obj := AObj.row true 1 [AV.lit (Value.int IntKind.i64 0)] }), (1048577, { id := [0, 0], obj := AObj.row false 1 [AV.ptr 1048579 [2, 0] 0 0] }), (1048578, { id := [1, 0], obj := AObj.row false 3 [AV.agg [AV.lit (Value.pointer (some { block := 4, off := 83 })), AV.ptr 1048577 [0, 0] 0 0, AV.lit (Value.int IntKind.u64 150)]] })]) ∧ true = true ∧ Wk (AV.lit (Value.int IntKind.i64 i1.kindOf)) (AV.lit (Value.int IntKind.i64 k)) ∧ SameH (hpL []) (hpL [])) := by kernel_rfl
theorem g23n_vc (t : Nat) (b : AV) (k : Int) : g23n (Orc.z.t.f) t b k = (false = false ∧ ∃ (i1 : Er), (True ∧ Wks [AV.iface t b.ref, AV.iface 83 (AV.ptr 1048579 [2, 0] 0 0), AV.lit (Value.iface 90 (Value.agg { toList := [Value.pointer (some { block := 4, off := 22 })] })), AV.ptr 1048578 [1, 0] 0 0] [AV.iface i1.ty i1.bx, AV.iface 83 (AV.ptr 1048579 [2, 0] 0 0), AV.lit (Value.iface 90 (Value.agg { toList := [Value.pointer (some { block := 4, off := 22 })] })), AV.ptr 1048578 [1, 0] 0 0] ∧ hpL [(1048579, { id := [2, 0], obj := AObj.row true 1 [AV.lit (Value.int IntKind.i64 0)] }), (1048577, { id := [0, 0], obj := AObj.row false 1 [AV.ptr 1048579 [2, 0] 0 0] }), (1048578, { id := [1, 0], obj := AObj.row false 3 [AV.agg [AV.lit (Value.pointer (some { block := 4, off := 83 })), AV.ptr 1048577 [0, 0] 0 0, AV.lit (Value.int IntKind.u64 (Int.ofNat 150))]] })] = hpL [(1048579, { id := [2, 0], obj := AObj.row true 1 [AV.lit (Value.int IntKind.i64 0)] }), (1048577, { id := [0, 0], obj := AObj.row false 1 [AV.ptr 1048579 [2, 0] 0 0] }), (1048578, { id := [1, 0], obj := AObj.row false 3 [AV.agg [AV.lit (Value.pointer (some { block := 4, off := 83 })), AV.ptr 1048577 [0, 0] 0 0, AV.lit (Value.int IntKind.u64 150)]] })]) ∧ true = true ∧ Wk (AV.lit (Value.int IntKind.i64 i1.kindOf)) (AV.lit (Value.int IntKind.i64 k)) ∧ SameH (hpL []) (hpL [])) := by kernel_rfl
end Go.Proofs.YtihjokkmkdhhpaaDoor
end
section
namespace Go.Proofs.YtihjokkmkdhhpaaDoor
open Go.AS
noncomputable section
theorem once29 : loopsOnce (code 29) = true := by kernel_rfl
theorem addLp29 {l : List Spl} (h : ∀ s ∈ l, ∀ i, s.pre i → B29 (s.args i) (s.heap i) (s.out i)) : (XB.addLp 29 0 (lpOf l)).Sound :=
  XB_ok.addLp (fnOk 29 (by kernel_rfl)) (show (fn 29).body = some (code 29) by kernel_rfl) once29 (Spl.ok rfl (show ([0, 1, 3, 6] : List Nat).Nodup by decide) h)
theorem XE_ok : XE.Sound := addLp29 fun s hs i _ => by obtain rfl := List.mem_singleton.1 hs; exact asE i
theorem XP1_ok : XP1.Sound := addLp29 fun s hs i hp => by obtain rfl := List.mem_singleton.1 hs; have h := asP i.1; rw [show i.1.placeV = _ from hp] at h; exact h
theorem XP0_ok : XP0.Sound := addLp29 fun s hs i hp => by obtain rfl := List.mem_singleton.1 hs; have h := asP i; rw [show i.placeV = _ from hp] at h; exact h
theorem XW1_ok : XW1.Sound := addLp29 fun s hs i hp => by obtain rfl := List.mem_singleton.1 hs; have h := asW i.1; rw [show i.1.whichV = _ from hp] at h; exact h
theorem XW0_ok : XW0.Sound := addLp29 fun s hs i hp => by obtain rfl := List.mem_singleton.1 hs; have h := asW i; rw [show i.whichV = _ from hp] at h; exact h
theorem wks_head {x y a b c : AV} (h : x = y) : Wks [x, a, b, c] [y, a, b, c] := h ▸ .refl _
abbrev F (f : Nat) (x r : AV) : Prop := FOk Tryd.prog X0.gl f [x] .nil ⟨r, .nil, []⟩
theorem g18b_ok (k : Int) : g18b (Orc.z.t) k := by
  rw [g18b_vc]
  repeat' first
    | exact ⟨Er.base k, ⟨rfl, wks_head (by first | rfl | exact he.symm), rfl⟩, by first | rfl | (refine ⟨?_, ?_, ?_⟩ <;> first | rfl | exact .refl _ | exact .rfl | exact .tup (.cons (.aggLit rfl (hash_cells _)) (.refl _))) | (refine ⟨?_, ?_, ?_, ?_, ?_⟩ <;> first | rfl | exact .refl _ | exact .rfl | exact .tup (.cons (.aggLit rfl (hash_cells _)) (.refl _)))⟩
    | exact rfl
    | refine And.intro ?_ ?_
theorem g18n_ok {e : Er} {t : Nat} {b : AV} (he : e.enc = tW t b) (h : e.placeV = (false, zN)) : g18n (Orc.z.t) t b := by
  rw [g18n_vc]
  repeat' first
    | exact ⟨e, ⟨h, wks_head (by first | rfl | exact he.symm), rfl⟩, by first | rfl | (refine ⟨?_, ?_, ?_⟩ <;> first | rfl | exact .refl _ | exact .rfl | exact .tup (.cons (.aggLit rfl (hash_cells _)) (.refl _))) | (refine ⟨?_, ?_, ?_, ?_, ?_⟩ <;> first | rfl | exact .refl _ | exact .rfl | exact .tup (.cons (.aggLit rfl (hash_cells _)) (.refl _)))⟩
    | exact rfl
    | refine And.intro ?_ ?_
theorem g18f_ok {e q : Er} {t : Nat} {b : AV} {n : Int} (he : e.enc = tW t b) (h : e.placeV = (true, .ref (.agg [.lit (.int .i64 n), q.enc]))) : g18f (Orc.z.f) t b n := by
  rw [g18f_vc]
  repeat' first
    | exact ⟨(e, n, q), ⟨h, wks_head (by first | rfl | exact he.symm), rfl⟩, by first | rfl | (refine ⟨?_, ?_, ?_⟩ <;> first | rfl | exact .refl _ | exact .rfl | exact .tup (.cons (.aggLit rfl (hash_cells _)) (.refl _))) | (refine ⟨?_, ?_, ?_, ?_, ?_⟩ <;> first | rfl | exact .refl _ | exact .rfl | exact .tup (.cons (.aggLit rfl (hash_cells _)) (.refl _)))⟩
    | exact rfl
    | refine And.intro ?_ ?_
theorem g24b_ok (k : Int) : g24b (Orc.z.f.f.f) k := by
  rw [g24b_vc]
  repeat' first
    | exact ⟨Er.base k, ⟨rfl, wks_head (by first | rfl | exact he.symm), rfl⟩, by first | rfl | (refine ⟨?_, ?_, ?_⟩ <;> first | rfl | exact .refl _ | exact .rfl | exact .tup (.cons (.aggLit rfl (hash_cells _)) (.refl _))) | (refine ⟨?_, ?_, ?_, ?_, ?_⟩ <;> first | rfl | exact .refl _ | exact .rfl | exact .tup (.cons (.aggLit rfl (hash_cells _)) (.refl _)))⟩
    | exact rfl
    | refine And.intro ?_ ?_
theorem g24n_ok {e : Er} {t : Nat} {b : AV} (he : e.enc = tW t b) (h : e.placeV = (false, zN)) : g24n (Orc.z.f.f.f) t b := by
  rw [g24n_vc]
  repeat' first
    | exact ⟨e, ⟨h, wks_head (by first | rfl | exact he.symm), rfl⟩, by first | rfl | (refine ⟨?_, ?_, ?_⟩ <;> first | rfl | exact .refl _ | exact .rfl | exact .tup (.cons (.aggLit rfl (hash_cells _)) (.refl _))) | (refine ⟨?_, ?_, ?_, ?_, ?_⟩ <;> first | rfl | exact .refl _ | exact .rfl | exact .tup (.cons (.aggLit rfl (hash_cells _)) (.refl _)))⟩
    | exact rfl
    | refine And.intro ?_ ?_
theorem g24f_ok {e q : Er} {t : Nat} {b : AV} {n : Int} (he : e.enc = tW t b) (h : e.placeV = (true, .ref (.agg [.lit (.int .i64 n), q.enc]))) : g24f (Orc.z.t.t.t) t b n := by
  rw [g24f_vc]
  repeat' first
    | exact ⟨(e, n, q), ⟨h, wks_head (by first | rfl | exact he.symm), rfl⟩, by first | rfl | (refine ⟨?_, ?_, ?_⟩ <;> first | rfl | exact .refl _ | exact .rfl | exact .tup (.cons (.aggLit rfl (hash_cells _)) (.refl _))) | (refine ⟨?_, ?_, ?_, ?_, ?_⟩ <;> first | rfl | exact .refl _ | exact .rfl | exact .tup (.cons (.aggLit rfl (hash_cells _)) (.refl _)))⟩
    | exact rfl
    | refine And.intro ?_ ?_
theorem g19b_ok (k : Int) : g19b (Orc.z.t) k := by
  rw [g19b_vc]
  repeat' first
    | exact ⟨Er.base k, ⟨rfl, wks_head (by first | rfl | exact he.symm), rfl⟩, by first | rfl | (refine ⟨?_, ?_, ?_⟩ <;> first | rfl | exact .refl _ | exact .rfl | exact .tup (.cons (.aggLit rfl (hash_cells _)) (.refl _))) | (refine ⟨?_, ?_, ?_, ?_, ?_⟩ <;> first | rfl | exact .refl _ | exact .rfl | exact .tup (.cons (.aggLit rfl (hash_cells _)) (.refl _)))⟩
    | exact rfl
    | refine And.intro ?_ ?_
theorem g19n_ok {e : Er} {t : Nat} {b : AV} (he : e.enc = tW t b) (h : e.whichV = (false, zN)) : g19n (Orc.z.t) t b := by
  rw [g19n_vc]
  repeat' first
    | exact ⟨e, ⟨h, wks_head (by first | rfl | exact he.symm), rfl⟩, by first | rfl | (refine ⟨?_, ?_, ?_⟩ <;> first | rfl | exact .refl _ | exact .rfl | exact .tup (.cons (.aggLit rfl (hash_cells _)) (.refl _))) | (refine ⟨?_, ?_, ?_, ?_, ?_⟩ <;> first | rfl | exact .refl _ | exact .rfl | exact .tup (.cons (.aggLit rfl (hash_cells _)) (.refl _)))⟩
    | exact rfl
    | refine And.intro ?_ ?_
theorem g19f_ok {e q : Er} {t : Nat} {b : AV} {p : Int} (he : e.enc = tW t b) (h : e.whichV = (true, .ref (.agg [.lit (.agg (hashV p)), q.enc]))) : g19f (Orc.z.f) t b p := by
  rw [g19f_vc]
  repeat' first
    | exact ⟨(e, p, q), ⟨h, wks_head (by first | rfl | exact he.symm), rfl⟩, by first | rfl | (refine ⟨?_, ?_, ?_⟩ <;> first | rfl | exact .refl _ | exact .rfl | exact .tup (.cons (.aggLit rfl (hash_cells _)) (.refl _))) | (refine ⟨?_, ?_, ?_, ?_, ?_⟩ <;> first | rfl | exact .refl _ | exact .rfl | exact .tup (.cons (.aggLit rfl (hash_cells _)) (.refl _)))⟩
    | exact rfl
    | refine And.intro ?_ ?_
theorem g21b_ok (k : Int) : g21b (Orc.z.t.f) k := by
  rw [g21b_vc]
  repeat' first
    | exact ⟨Er.base k, ⟨trivial, wks_head (by first | rfl | exact he.symm), rfl⟩, by first | rfl | (refine ⟨?_, ?_, ?_⟩ <;> first | rfl | exact .refl _ | exact .rfl | exact .tup (.cons (.aggLit rfl (hash_cells _)) (.refl _))) | (refine ⟨?_, ?_, ?_, ?_, ?_⟩ <;> first | rfl | exact .refl _ | exact .rfl | exact .tup (.cons (.aggLit rfl (hash_cells _)) (.refl _)))⟩
    | exact rfl
    | refine And.intro ?_ ?_
theorem g21n_ok {e : Er} {t : Nat} {b : AV} (he : e.enc = tW t b) : g21n (Orc.z.t.f) t b e.kindOf := by
  rw [g21n_vc]
  repeat' first
    | exact ⟨e, ⟨trivial, wks_head (by first | rfl | exact he.symm), rfl⟩, by first | rfl | (refine ⟨?_, ?_, ?_⟩ <;> first | rfl | exact .refl _ | exact .rfl | exact .tup (.cons (.aggLit rfl (hash_cells _)) (.refl _))) | (refine ⟨?_, ?_, ?_, ?_, ?_⟩ <;> first | rfl | exact .refl _ | exact .rfl | exact .tup (.cons (.aggLit rfl (hash_cells _)) (.refl _)))⟩
    | exact rfl
    | refine And.intro ?_ ?_
theorem g23b_ok (k : Int) : g23b (Orc.z.t.f) k := by
  rw [g23b_vc]
  repeat' first
    | exact ⟨Er.base k, ⟨trivial, wks_head (by first | rfl | exact he.symm), rfl⟩, by first | rfl | (refine ⟨?_, ?_, ?_⟩ <;> first | rfl | exact .refl _ | exact .rfl | exact .tup (.cons (.aggLit rfl (hash_cells _)) (.refl _))) | (refine ⟨?_, ?_, ?_, ?_, ?_⟩ <;> first | rfl | exact .refl _ | exact .rfl | exact .tup (.cons (.aggLit rfl (hash_cells _)) (.refl _)))⟩
    | exact rfl
    | refine And.intro ?_ ?_
theorem g23n_ok {e : Er} {t : Nat} {b : AV} (he : e.enc = tW t b) : g23n (Orc.z.t.f) t b e.kindOf := by
  rw [g23n_vc]
  repeat' first
    | exact ⟨e, ⟨trivial, wks_head (by first | rfl | exact he.symm), rfl⟩, by first | rfl | (refine ⟨?_, ?_, ?_⟩ <;> first | rfl | exact .refl _ | exact .rfl | exact .tup (.cons (.aggLit rfl (hash_cells _)) (.refl _))) | (refine ⟨?_, ?_, ?_, ?_, ?_⟩ <;> first | rfl | exact .refl _ | exact .rfl | exact .tup (.cons (.aggLit rfl (hash_cells _)) (.refl _)))⟩
    | exact rfl
    | refine And.intro ?_ ?_
set_option maxRecDepth 100000 in
theorem where0 (e : Er)  (h : e.placeV = (false, zN)) : F 18 e.enc (.tup [i0 0, b0 false]) :=
  fn_ok (X := XP0.ask [18]) (d := 8) (XP0_ok.ask [18]) (fnOk 18 (by kernel_rfl)) (show (fn 18).body = some (code 18) by kernel_rfl) (by kernel_rfl) (show gF XP0 18 _ e.enc _ from by
    cases e with
    | base k => exact g18b_ok k
    | step s e' => exact g18n_ok rfl h
    | place s e' => exact g18n_ok rfl h
    | which s e' => exact g18n_ok rfl h)
set_option maxRecDepth 100000 in
theorem where1 (e : Er) (n : Int) (q : Er) (h : e.placeV = (true, .ref (.agg [.lit (.int .i64 n), q.enc]))) : F 18 e.enc (.tup [i0 n, b0 true]) :=
  fn_ok (X := XP1.ask [18]) (d := 8) (XP1_ok.ask [18]) (fnOk 18 (by kernel_rfl)) (show (fn 18).body = some (code 18) by kernel_rfl) (by kernel_rfl) (show gF XP1 18 _ e.enc _ from by
    cases e with
    | base k => exact absurd h (by intro hh; cases hh)
    | step s e' => exact g18f_ok rfl h
    | place s e' => exact g18f_ok rfl h
    | which s e' => exact g18f_ok rfl h)
set_option maxRecDepth 100000 in
theorem handAt0 (e : Er)  (h : e.placeV = (false, zN)) : F 24 e.enc (i0 (-1)) :=
  fn_ok (X := XP0.ask [24]) (d := 8) (XP0_ok.ask [24]) (fnOk 24 (by kernel_rfl)) (show (fn 24).body = some (code 24) by kernel_rfl) (by kernel_rfl) (show gF XP0 24 _ e.enc _ from by
    cases e with
    | base k => exact g24b_ok k
    | step s e' => exact g24n_ok rfl h
    | place s e' => exact g24n_ok rfl h
    | which s e' => exact g24n_ok rfl h)
set_option maxRecDepth 100000 in
theorem handAt1 (e : Er) (n : Int) (q : Er) (h : e.placeV = (true, .ref (.agg [.lit (.int .i64 n), q.enc]))) : F 24 e.enc (i0 n) :=
  fn_ok (X := XP1.ask [24]) (d := 8) (XP1_ok.ask [24]) (fnOk 24 (by kernel_rfl)) (show (fn 24).body = some (code 24) by kernel_rfl) (by kernel_rfl) (show gF XP1 24 _ e.enc _ from by
    cases e with
    | base k => exact absurd h (by intro hh; cases hh)
    | step s e' => exact g24f_ok rfl h
    | place s e' => exact g24f_ok rfl h
    | which s e' => exact g24f_ok rfl h)
set_option maxRecDepth 100000 in
theorem whose0 (e : Er)  (h : e.whichV = (false, zN)) : F 19 e.enc (.tup [hz, b0 false]) :=
  fn_ok (X := XW0.ask [19]) (d := 8) (XW0_ok.ask [19]) (fnOk 19 (by kernel_rfl)) (show (fn 19).body = some (code 19) by kernel_rfl) (by kernel_rfl) (show gF XW0 19 _ e.enc _ from by
    cases e with
    | base k => exact g19b_ok k
    | step s e' => exact g19n_ok rfl h
    | place s e' => exact g19n_ok rfl h
    | which s e' => exact g19n_ok rfl h)
set_option maxRecDepth 100000 in
theorem whose1 (e : Er) (p : Int) (q : Er) (h : e.whichV = (true, .ref (.agg [.lit (.agg (hashV p)), q.enc]))) : F 19 e.enc (.tup [.lit (.agg (hashV p)), b0 true]) :=
  fn_ok (X := XW1.ask [19]) (d := 8) (XW1_ok.ask [19]) (fnOk 19 (by kernel_rfl)) (show (fn 19).body = some (code 19) by kernel_rfl) (by kernel_rfl) (show gF XW1 19 _ e.enc _ from by
    cases e with
    | base k => exact absurd h (by intro hh; cases hh)
    | step s e' => exact g19f_ok rfl h
    | place s e' => exact g19f_ok rfl h
    | which s e' => exact g19f_ok rfl h)
set_option maxRecDepth 100000 in
theorem kind (e : Er)   : F 21 e.enc (i0 e.kindOf) :=
  fn_ok (X := XE.ask [21]) (d := 8) (XE_ok.ask [21]) (fnOk 21 (by kernel_rfl)) (show (fn 21).body = some (code 21) by kernel_rfl) (by kernel_rfl) (show gF XE 21 _ e.enc _ from by
    cases e with
    | base k => exact g21b_ok k
    | step s e' => exact g21n_ok rfl
    | place s e' => exact g21n_ok rfl
    | which s e' => exact g21n_ok rfl)
set_option maxRecDepth 100000 in
theorem handKind (e : Er)   : F 23 e.enc (i0 e.kindOf) :=
  fn_ok (X := XE.ask [23]) (d := 8) (XE_ok.ask [23]) (fnOk 23 (by kernel_rfl)) (show (fn 23).body = some (code 23) by kernel_rfl) (by kernel_rfl) (show gF XE 23 _ e.enc _ from by
    cases e with
    | base k => exact g23b_ok k
    | step s e' => exact g23n_ok rfl
    | place s e' => exact g23n_ok rfl
    | which s e' => exact g23n_ok rfl)
end
end Go.Proofs.YtihjokkmkdhhpaaDoor
end
