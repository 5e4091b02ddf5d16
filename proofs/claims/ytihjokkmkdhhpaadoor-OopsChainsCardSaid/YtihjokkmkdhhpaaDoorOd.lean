/- errors.Is and the steps of an error in its wrappers: the goals. -/
import Derived.Test.YtihjokkmkdhhpaaDoorOc
import Derived.Test.YtihjokkmkdhhpaaDoorOa
section
namespace Go.Proofs.YtihjokkmkdhhpaaDoor
open Go.AS
noncomputable section
def isArgs (x : AV) (o : Int) : List AV := [x, tB o, b0 true]
def isOut (b : Bool) : Ex × Back := (.ret, ⟨.tup [b0 b], .nil, []⟩)
def lpI (l : List Spl) : Lp := ⟨[0, 1, 2], [], fun _ => [6], Spl.con l⟩
def lpIs (o : Int) (x : AV) (b : Bool) : Lp := lpI [⟨Unit, fun _ => True, fun _ => isArgs x o, fun _ => .nil, fun _ => isOut b⟩]
def rI (os : Orc) (L : Lp) (o : Int) (x : AV) (b : Bool) : Prop := runL (XB.ask [31]) 6 31 (fn 31).ntmps (loopAt (code 31) 0) L L os 0 [] (isArgs x o) .nil (isOut b)
def rI0 (os : Orc) (k o : Int) (c : Bool) : Prop := rI os (lpI []) o (tB k) c
def rIsb (os : Orc) (s : ByteArray) (k o : Int) (c : Bool) : Prop := rI os (lpIs o (tB k) c) o (hStep s (tB k)) c
def rIst (os : Orc) (s : ByteArray) (t : Nat) (b : AV) (o : Int) (c : Bool) : Prop := rI os (lpIs o (tW t b) c) o (hStep s (tW t b)) c
def rIpb (os : Orc) (n : Int) (k o : Int) (c : Bool) : Prop := rI os (lpIs o (tB k) c) o (hPlace n (tB k)) c
def rIpt (os : Orc) (n : Int) (t : Nat) (b : AV) (o : Int) (c : Bool) : Prop := rI os (lpIs o (tW t b) c) o (hPlace n (tW t b)) c
def rIwb (os : Orc) (p : Int) (k o : Int) (c : Bool) : Prop := rI os (lpIs o (tB k) c) o (hWhich p (tB k)) c
def rIwt (os : Orc) (p : Int) (t : Nat) (b : AV) (o : Int) (c : Bool) : Prop := rI os (lpIs o (tW t b) c) o (hWhich p (tW t b)) c
def spI : Spl := ⟨Er × Int, fun _ => True, fun i => isArgs i.1.enc i.2, fun _ => .nil, fun i => isOut (i.1.kindOf == i.2)⟩
def XI : WX := XB.addLp 31 0 (lpI [spI])
def gI (os : Orc) (x : AV) (o : Int) (c : Bool) : Prop := runF (XI.ask [22]) 8 22 (fn 22) (code 22) os 0 [] [x, tB o] .nil ⟨b0 c, .nil, []⟩
def g22b (os : Orc) (k o : Int) (c : Bool) : Prop := gI os (tB k) o c
def g22n (os : Orc) (t : Nat) (b : AV) (o : Int) (c : Bool) : Prop := gI os (tW t b) o c
abbrev sA (s : ByteArray) : AV := .lit (.string s)
def stHeap (ys : List AV) : Hp := hpL [(1048577, ⟨[0, 0], .row true 1 ys⟩)]
def stArgs (x : AV) (ys : List AV) : List AV := [x, .slc 1048577 [0, 0] 0 ys.length]
def stOut (zs : List AV) : Ex × Back := (.exit 0, ⟨.tup [.slc 1048577 [0, 0] 0 zs.length], stHeap zs, [1048577]⟩)
def lpS (l : List Spl) : Lp := ⟨[0, 3], [(3, 1)], fun _ => [3], Spl.con l⟩
def stOut1 (zs : List AV) : Ex × Back := (.exit 0, ⟨.tup [.slc 1048577 [0, 1] 0 zs.length], hpL [(1048577, ⟨[0, 1], .row true 1 zs⟩)], [1048577]⟩)
def lpSt (x : AV) (ys : List AV) (r : Ex × Back) : Lp := lpS [⟨Unit, fun _ => True, fun _ => stArgs x ys, fun _ => stHeap ys, fun _ => r⟩]
def rS0 (os : Orc) (ys : List AV) : Prop := runL (XB.ask [20]) 6 20 (fn 20).ntmps (loopAt (code 20) 0) (lpS []) (lpS []) os 0 [] (stArgs (.lit .nilIface) ys) (stHeap ys) (stOut ys)
def rS (os : Orc) (L : Lp) (x : AV) (ys zs : List AV) : Prop := runL (XB.ask [20]) 6 20 (fn 20).ntmps (loopAt (code 20) 0) L L os 0 [1048577] (stArgs x ys) (stHeap ys) (stOut1 zs)
def rSb (os : Orc) (k : Int) (ys : List AV) : Prop := rS os (lpSt (.lit .nilIface) ys (stOut ys)) (tB k) ys ys
def rSsb (os : Orc) (s : ByteArray) (k : Int) (ys zs : List AV) : Prop := rS os (lpSt (tB k) (ys ++ [sA s]) (stOut1 zs)) (hStep s (tB k)) ys zs
def rSst (os : Orc) (s : ByteArray) (t : Nat) (b : AV) (ys zs : List AV) : Prop := rS os (lpSt (tW t b) (ys ++ [sA s]) (stOut1 zs)) (hStep s (tW t b)) ys zs
def rSpb (os : Orc) (n : Int) (k : Int) (ys zs : List AV) : Prop := rS os (lpSt (tB k) ys (stOut1 zs)) (hPlace n (tB k)) ys zs
def rSpt (os : Orc) (n : Int) (t : Nat) (b : AV) (ys zs : List AV) : Prop := rS os (lpSt (tW t b) ys (stOut1 zs)) (hPlace n (tW t b)) ys zs
def rSwb (os : Orc) (p : Int) (k : Int) (ys zs : List AV) : Prop := rS os (lpSt (tB k) ys (stOut1 zs)) (hWhich p (tB k)) ys zs
def rSwt (os : Orc) (p : Int) (t : Nat) (b : AV) (ys zs : List AV) : Prop := rS os (lpSt (tW t b) ys (stOut1 zs)) (hWhich p (tW t b)) ys zs
def Er.names : Er → List AV
  | .base _ => []
  | .step s e => sA s :: e.names
  | .place _ e => e.names
  | .which _ e => e.names
def spS : Spl := ⟨Er, fun e => e.names.length ≤ 1000, fun e => stArgs e.enc [], fun _ => stHeap [], fun e => stOut1 e.names⟩
def XS : WX := XB.addLp 20 0 (lpS [spS])
def gS (os : Orc) (x : AV) (zs : List AV) : Prop := runF (XS.ask [20]) 8 20 (fn 20) (code 20) os 1 [] [x] .nil ⟨.lst false 1 zs, .nil, []⟩
def g20b (os : Orc) (k : Int) (zs : List AV) : Prop := gS os (tB k) zs
def g20n (os : Orc) (t : Nat) (b : AV) (zs : List AV) : Prop := gS os (tW t b) zs
end
end Go.Proofs.YtihjokkmkdhhpaaDoor
end
section
namespace Go.Proofs.YtihjokkmkdhhpaaDoor
open Go Go.AS
theorem rI0_vc (k : Int) (o : Int) (c : Bool) : rI0 ((Orc.z.s Orc.z.f.f.f.f.f.f).t.t.t) k o c = (true = true ∧ true = true ∧ true = true ∧ ((k == o) = true → Ex.ret = Ex.ret ∧ Wk (AV.tup [AV.lit (Value.bool true)]) (AV.tup [AV.lit (Value.bool c)]) ∧ SameH (hpL []) (hpL [])) ∧ ((k == o) = false → false = false ∧ false = false ∧ false = false ∧ false = false ∧ false = false ∧ false = false ∧ Ex.ret = Ex.ret ∧ Wk (AV.tup [AV.lit (Value.bool false)]) (AV.tup [AV.lit (Value.bool c)]) ∧ SameH (hpL []) (hpL []))) := by kernel_rfl
theorem rIsb_vc (s : ByteArray) (k : Int) (o : Int) (c : Bool) : rIsb (Orc.z.f.t.f.f.f.f.f.t.t.t) s k o c = (true = true ∧ true = true ∧ true = true ∧ false = false ∧ false = false ∧ false = false ∧ false = false ∧ false = false ∧ true = true ∧ false = false ∧ ∃ (_ : Unit), (True ∧ Wks [AV.iface 22 (AV.lit (Value.int IntKind.i64 k)), AV.iface 22 (AV.lit (Value.int IntKind.i64 o)), AV.lit (Value.bool true)] [AV.iface 22 (AV.lit (Value.int IntKind.i64 k)), AV.iface 22 (AV.lit (Value.int IntKind.i64 o)), AV.lit (Value.bool true)] ∧ hpL [] = hpL []) ∧ Ex.ret = Ex.ret ∧ Wk (AV.tup [AV.lit (Value.bool c)]) (AV.tup [AV.lit (Value.bool c)]) ∧ SameH (hpL []) (hpL [])) := by kernel_rfl
theorem rIst_vc (s : ByteArray) (t : Nat) (b : AV) (o : Int) (c : Bool) : rIst (Orc.z.f.t.f.f.f.f.f.t.t.t) s t b o c = (true = true ∧ true = true ∧ true = true ∧ false = false ∧ false = false ∧ false = false ∧ false = false ∧ false = false ∧ true = true ∧ false = false ∧ ∃ (_ : Unit), (True ∧ Wks [AV.iface t b.ref, AV.iface 22 (AV.lit (Value.int IntKind.i64 o)), AV.lit (Value.bool true)] [AV.iface t b.ref, AV.iface 22 (AV.lit (Value.int IntKind.i64 o)), AV.lit (Value.bool true)] ∧ hpL [] = hpL []) ∧ Ex.ret = Ex.ret ∧ Wk (AV.tup [AV.lit (Value.bool c)]) (AV.tup [AV.lit (Value.bool c)]) ∧ SameH (hpL []) (hpL [])) := by kernel_rfl
theorem rIpb_vc (n : Int) (k : Int) (o : Int) (c : Bool) : rIpb (Orc.z.f.t.f.f.f.f.f.t.t.t) n k o c = (true = true ∧ true = true ∧ true = true ∧ false = false ∧ false = false ∧ false = false ∧ false = false ∧ false = false ∧ true = true ∧ false = false ∧ ∃ (_ : Unit), (True ∧ Wks [AV.iface 22 (AV.lit (Value.int IntKind.i64 k)), AV.iface 22 (AV.lit (Value.int IntKind.i64 o)), AV.lit (Value.bool true)] [AV.iface 22 (AV.lit (Value.int IntKind.i64 k)), AV.iface 22 (AV.lit (Value.int IntKind.i64 o)), AV.lit (Value.bool true)] ∧ hpL [] = hpL []) ∧ Ex.ret = Ex.ret ∧ Wk (AV.tup [AV.lit (Value.bool c)]) (AV.tup [AV.lit (Value.bool c)]) ∧ SameH (hpL []) (hpL [])) := by kernel_rfl
theorem rIpt_vc (n : Int) (t : Nat) (b : AV) (o : Int) (c : Bool) : rIpt (Orc.z.f.t.f.f.f.f.f.t.t.t) n t b o c = (true = true ∧ true = true ∧ true = true ∧ false = false ∧ false = false ∧ false = false ∧ false = false ∧ false = false ∧ true = true ∧ false = false ∧ ∃ (_ : Unit), (True ∧ Wks [AV.iface t b.ref, AV.iface 22 (AV.lit (Value.int IntKind.i64 o)), AV.lit (Value.bool true)] [AV.iface t b.ref, AV.iface 22 (AV.lit (Value.int IntKind.i64 o)), AV.lit (Value.bool true)] ∧ hpL [] = hpL []) ∧ Ex.ret = Ex.ret ∧ Wk (AV.tup [AV.lit (Value.bool c)]) (AV.tup [AV.lit (Value.bool c)]) ∧ SameH (hpL []) (hpL [])) := by kernel_rfl
theorem rIwb_vc (p : Int) (k : Int) (o : Int) (c : Bool) : rIwb (Orc.z.f.t.f.f.f.f.f.t.t.t) p k o c = (true = true ∧ true = true ∧ true = true ∧ false = false ∧ false = false ∧ false = false ∧ false = false ∧ false = false ∧ true = true ∧ false = false ∧ ∃ (_ : Unit), (True ∧ Wks [AV.iface 22 (AV.lit (Value.int IntKind.i64 k)), AV.iface 22 (AV.lit (Value.int IntKind.i64 o)), AV.lit (Value.bool true)] [AV.iface 22 (AV.lit (Value.int IntKind.i64 k)), AV.iface 22 (AV.lit (Value.int IntKind.i64 o)), AV.lit (Value.bool true)] ∧ hpL [] = hpL []) ∧ Ex.ret = Ex.ret ∧ Wk (AV.tup [AV.lit (Value.bool c)]) (AV.tup [AV.lit (Value.bool c)]) ∧ SameH (hpL []) (hpL [])) := by kernel_rfl
theorem rIwt_vc (p : Int) (t : Nat) (b : AV) (o : Int) (c : Bool) : rIwt (Orc.z.f.t.f.f.f.f.f.t.t.t) p t b o c = (true = true ∧ true = true ∧ true = true ∧ false = false ∧ false = false ∧ false = false ∧ false = false ∧ false = false ∧ true = true ∧ false = false ∧ ∃ (_ : Unit), (True ∧ Wks [AV.iface t b.ref, AV.iface 22 (AV.lit (Value.int IntKind.i64 o)), AV.lit (Value.bool true)] [AV.iface t b.ref, AV.iface 22 (AV.lit (Value.int IntKind.i64 o)), AV.lit (Value.bool true)] ∧ hpL [] = hpL []) ∧ Ex.ret = Ex.ret ∧ Wk (AV.tup [AV.lit (Value.bool c)]) (AV.tup [AV.lit (Value.bool c)]) ∧ SameH (hpL []) (hpL [])) := by kernel_rfl
theorem g22b_vc (k : Int) (o : Int) (c : Bool) : g22b (Orc.z.f.f.f) k o c = (false = false ∧ false = false ∧ false = false ∧ ∃ (i1 : Er × Int), (True ∧ Wks [AV.iface 22 (AV.lit (Value.int IntKind.i64 k)), AV.iface 22 (AV.lit (Value.int IntKind.i64 o)), AV.lit (Value.bool true)] [AV.iface i1.fst.ty i1.fst.bx, AV.iface 22 (AV.lit (Value.int IntKind.i64 i1.snd)), AV.lit (Value.bool true)] ∧ hpL [] = hpL []) ∧ Wk (AV.lit (Value.bool (i1.fst.kindOf == i1.snd))) (AV.lit (Value.bool c)) ∧ SameH (hpL []) (hpL [])) := by kernel_rfl
theorem g22n_vc (t : Nat) (b : AV) (o : Int) (c : Bool) : g22n (Orc.z.f.f.f) t b o c = (false = false ∧ false = false ∧ false = false ∧ ∃ (i1 : Er × Int), (True ∧ Wks [AV.iface t b.ref, AV.iface 22 (AV.lit (Value.int IntKind.i64 o)), AV.lit (Value.bool true)] [AV.iface i1.fst.ty i1.fst.bx, AV.iface 22 (AV.lit (Value.int IntKind.i64 i1.snd)), AV.lit (Value.bool true)] ∧ hpL [] = hpL []) ∧ Wk (AV.lit (Value.bool (i1.fst.kindOf == i1.snd))) (AV.lit (Value.bool c)) ∧ SameH (hpL []) (hpL [])) := by kernel_rfl
theorem rS0_vc (ys : List AV) : rS0 (Orc.z.f) ys = (false = false ∧ Ex.exit 0 = Ex.exit 0 ∧ Wk (AV.tup [AV.slc 1048577 [0, 0] 0 ys.length]) (AV.tup [AV.slc 1048577 [0, 0] 0 ys.length]) ∧ SameH (hpL [(1048577, { id := [0, 0], obj := AObj.row true 1 ys })]) (hpL [(1048577, { id := [0, 0], obj := AObj.row true 1 ys })])) := by kernel_rfl
theorem rSb_vc (k : Int) (ys : List AV) : rSb (Orc.z.f.t) k ys = (true = true ∧ false = false ∧ ∃ (_ : Unit), (True ∧ Wks [AV.lit Value.nilIface, AV.slc 1048577 [0, 0] 0 ys.length] [AV.lit Value.nilIface, AV.slc 1048577 [0, 0] 0 ys.length] ∧ hpL [(1048577, { id := [0, 0], obj := AObj.row true 1 ys })] = hpL [(1048577, { id := [0, 0], obj := AObj.row true 1 ys })]) ∧ Ex.exit 0 = Ex.exit 0 ∧ Wk (AV.tup [AV.slc 1048577 [0, 1] 0 ys.length]) (AV.tup [AV.slc 1048577 [0, 1] 0 ys.length]) ∧ SameH (hpL [(1048577, { id := [0, 1], obj := AObj.row true 1 ys })]) (hpL [(1048577, { id := [0, 1], obj := AObj.row true 1 ys })])) := by kernel_rfl
theorem rSsb_vc (s : ByteArray) (k : Int) (ys : List AV) (zs : List AV) : rSsb (Orc.z.t.t) s k ys zs = (true = true ∧ true = true ∧ (true && (true && (0 + ys.length).ble ys.length) && (true && decide ((List.take ys.length (List.drop 0 ys) ++ [AV.lit (Value.string s)]).length * 16 ≤ 140737488355328 ∧ (List.take ys.length (List.drop 0 ys) ++ [AV.lit (Value.string s)]).length ≤ 1152921504606846976))) = true ∧ ∃ (_ : Unit), (True ∧ Wks [AV.iface 22 (AV.lit (Value.int IntKind.i64 k)), AV.slc 1048577 [0, 0] 0 (List.take ys.length (List.drop 0 ys) ++ [AV.lit (Value.string s)]).length] [AV.iface 22 (AV.lit (Value.int IntKind.i64 k)), AV.slc 1048577 [0, 0] 0 (ys ++ [AV.lit (Value.string s)]).length] ∧ hpL [(1048577, { id := [0, 0], obj := AObj.row true 1 (List.take ys.length (List.drop 0 ys) ++ [AV.lit (Value.string s)]) })] = hpL [(1048577, { id := [0, 0], obj := AObj.row true 1 (ys ++ [AV.lit (Value.string s)]) })]) ∧ Ex.exit 0 = Ex.exit 0 ∧ Wk (AV.tup [AV.slc 1048577 [0, 1] 0 zs.length]) (AV.tup [AV.slc 1048577 [0, 1] 0 zs.length]) ∧ SameH (hpL [(1048577, { id := [0, 1], obj := AObj.row true 1 zs })]) (hpL [(1048577, { id := [0, 1], obj := AObj.row true 1 zs })])) := by kernel_rfl
theorem rSst_vc (s : ByteArray) (t : Nat) (b : AV) (ys : List AV) (zs : List AV) : rSst (Orc.z.t.t) s t b ys zs = (true = true ∧ true = true ∧ (true && (true && (0 + ys.length).ble ys.length) && (true && decide ((List.take ys.length (List.drop 0 ys) ++ [AV.lit (Value.string s)]).length * 16 ≤ 140737488355328 ∧ (List.take ys.length (List.drop 0 ys) ++ [AV.lit (Value.string s)]).length ≤ 1152921504606846976))) = true ∧ ∃ (_ : Unit), (True ∧ Wks [AV.iface t b.ref, AV.slc 1048577 [0, 0] 0 (List.take ys.length (List.drop 0 ys) ++ [AV.lit (Value.string s)]).length] [AV.iface t b.ref, AV.slc 1048577 [0, 0] 0 (ys ++ [AV.lit (Value.string s)]).length] ∧ hpL [(1048577, { id := [0, 0], obj := AObj.row true 1 (List.take ys.length (List.drop 0 ys) ++ [AV.lit (Value.string s)]) })] = hpL [(1048577, { id := [0, 0], obj := AObj.row true 1 (ys ++ [AV.lit (Value.string s)]) })]) ∧ Ex.exit 0 = Ex.exit 0 ∧ Wk (AV.tup [AV.slc 1048577 [0, 1] 0 zs.length]) (AV.tup [AV.slc 1048577 [0, 1] 0 zs.length]) ∧ SameH (hpL [(1048577, { id := [0, 1], obj := AObj.row true 1 zs })]) (hpL [(1048577, { id := [0, 1], obj := AObj.row true 1 zs })])) := by kernel_rfl
theorem rSpb_vc (n : Int) (k : Int) (ys : List AV) (zs : List AV) : rSpb (Orc.z.f.t) n k ys zs = (true = true ∧ false = false ∧ ∃ (_ : Unit), (True ∧ Wks [AV.iface 22 (AV.lit (Value.int IntKind.i64 k)), AV.slc 1048577 [0, 0] 0 ys.length] [AV.iface 22 (AV.lit (Value.int IntKind.i64 k)), AV.slc 1048577 [0, 0] 0 ys.length] ∧ hpL [(1048577, { id := [0, 0], obj := AObj.row true 1 ys })] = hpL [(1048577, { id := [0, 0], obj := AObj.row true 1 ys })]) ∧ Ex.exit 0 = Ex.exit 0 ∧ Wk (AV.tup [AV.slc 1048577 [0, 1] 0 zs.length]) (AV.tup [AV.slc 1048577 [0, 1] 0 zs.length]) ∧ SameH (hpL [(1048577, { id := [0, 1], obj := AObj.row true 1 zs })]) (hpL [(1048577, { id := [0, 1], obj := AObj.row true 1 zs })])) := by kernel_rfl
theorem rSpt_vc (n : Int) (t : Nat) (b : AV) (ys : List AV) (zs : List AV) : rSpt (Orc.z.f.t) n t b ys zs = (true = true ∧ false = false ∧ ∃ (_ : Unit), (True ∧ Wks [AV.iface t b.ref, AV.slc 1048577 [0, 0] 0 ys.length] [AV.iface t b.ref, AV.slc 1048577 [0, 0] 0 ys.length] ∧ hpL [(1048577, { id := [0, 0], obj := AObj.row true 1 ys })] = hpL [(1048577, { id := [0, 0], obj := AObj.row true 1 ys })]) ∧ Ex.exit 0 = Ex.exit 0 ∧ Wk (AV.tup [AV.slc 1048577 [0, 1] 0 zs.length]) (AV.tup [AV.slc 1048577 [0, 1] 0 zs.length]) ∧ SameH (hpL [(1048577, { id := [0, 1], obj := AObj.row true 1 zs })]) (hpL [(1048577, { id := [0, 1], obj := AObj.row true 1 zs })])) := by kernel_rfl
theorem rSwb_vc (p : Int) (k : Int) (ys : List AV) (zs : List AV) : rSwb (Orc.z.f.t) p k ys zs = (true = true ∧ false = false ∧ ∃ (_ : Unit), (True ∧ Wks [AV.iface 22 (AV.lit (Value.int IntKind.i64 k)), AV.slc 1048577 [0, 0] 0 ys.length] [AV.iface 22 (AV.lit (Value.int IntKind.i64 k)), AV.slc 1048577 [0, 0] 0 ys.length] ∧ hpL [(1048577, { id := [0, 0], obj := AObj.row true 1 ys })] = hpL [(1048577, { id := [0, 0], obj := AObj.row true 1 ys })]) ∧ Ex.exit 0 = Ex.exit 0 ∧ Wk (AV.tup [AV.slc 1048577 [0, 1] 0 zs.length]) (AV.tup [AV.slc 1048577 [0, 1] 0 zs.length]) ∧ SameH (hpL [(1048577, { id := [0, 1], obj := AObj.row true 1 zs })]) (hpL [(1048577, { id := [0, 1], obj := AObj.row true 1 zs })])) := by kernel_rfl
theorem rSwt_vc (p : Int) (t : Nat) (b : AV) (ys : List AV) (zs : List AV) : rSwt (Orc.z.f.t) p t b ys zs = (true = true ∧ false = false ∧ ∃ (_ : Unit), (True ∧ Wks [AV.iface t b.ref, AV.slc 1048577 [0, 0] 0 ys.length] [AV.iface t b.ref, AV.slc 1048577 [0, 0] 0 ys.length] ∧ hpL [(1048577, { id := [0, 0], obj := AObj.row true 1 ys })] = hpL [(1048577, { id := [0, 0], obj := AObj.row true 1 ys })]) ∧ Ex.exit 0 = Ex.exit 0 ∧ Wk (AV.tup [AV.slc 1048577 [0, 1] 0 zs.length]) (AV.tup [AV.slc 1048577 [0, 1] 0 zs.length]) ∧ SameH (hpL [(1048577, { id := [0, 1], obj := AObj.row true 1 zs })]) (hpL [(1048577, { id := [0, 1], obj := AObj.row true 1 zs })])) := by kernel_rfl
theorem g20b_vc (k : Int) (zs : List AV) : g20b (Orc.z) k zs = (∃ (i1 : Er), (i1.names.length ≤ 1000 ∧ Wks [AV.iface 22 (AV.lit (Value.int IntKind.i64 k)), AV.slc 1048577 [0, 0] 0 0] [AV.iface i1.ty i1.bx, AV.slc 1048577 [0, 0] 0 0] ∧ hpL [(1048577, { id := [0, 0], obj := AObj.row true 1 [] })] = hpL [(1048577, { id := [0, 0], obj := AObj.row true 1 [] })]) ∧ 0 + i1.names.length ≤ i1.names.length ∧ Wk (AV.lst false 1 (List.take i1.names.length (List.drop 0 i1.names))) (AV.lst false 1 zs) ∧ SameH (hpL []) (hpL [])) := by kernel_rfl
theorem g20n_vc (t : Nat) (b : AV) (zs : List AV) : g20n (Orc.z) t b zs = (∃ (i1 : Er), (i1.names.length ≤ 1000 ∧ Wks [AV.iface t b.ref, AV.slc 1048577 [0, 0] 0 0] [AV.iface i1.ty i1.bx, AV.slc 1048577 [0, 0] 0 0] ∧ hpL [(1048577, { id := [0, 0], obj := AObj.row true 1 [] })] = hpL [(1048577, { id := [0, 0], obj := AObj.row true 1 [] })]) ∧ 0 + i1.names.length ≤ i1.names.length ∧ Wk (AV.lst false 1 (List.take i1.names.length (List.drop 0 i1.names))) (AV.lst false 1 zs) ∧ SameH (hpL []) (hpL [])) := by kernel_rfl
end Go.Proofs.YtihjokkmkdhhpaaDoor
end
section
namespace Go.Proofs.YtihjokkmkdhhpaaDoor
open Go.AS
noncomputable section
theorem wksH {x y : AV} {l : List AV} (h : x = y) : Wks (x :: l) (y :: l) := h ▸ .refl _
theorem rIsb_ok (s : ByteArray) (k : Int) (o : Int) (c : Bool) : rIsb (Orc.z.f.t.f.f.f.f.f.t.t.t) s k o c := by
  rw [rIsb_vc]
  repeat' first
    | exact ⟨(), ⟨trivial, .refl _, rfl⟩, rfl, .refl _, .rfl⟩
    | exact .rfl
    | exact .refl _
    | exact rfl
    | refine And.intro ?_ ?_
theorem rIst_ok (s : ByteArray) (t : Nat) (b : AV) (o : Int) (c : Bool) : rIst (Orc.z.f.t.f.f.f.f.f.t.t.t) s t b o c := by
  rw [rIst_vc]
  repeat' first
    | exact ⟨(), ⟨trivial, .refl _, rfl⟩, rfl, .refl _, .rfl⟩
    | exact .rfl
    | exact .refl _
    | exact rfl
    | refine And.intro ?_ ?_
theorem rIpb_ok (n : Int) (k : Int) (o : Int) (c : Bool) : rIpb (Orc.z.f.t.f.f.f.f.f.t.t.t) n k o c := by
  rw [rIpb_vc]
  repeat' first
    | exact ⟨(), ⟨trivial, .refl _, rfl⟩, rfl, .refl _, .rfl⟩
    | exact .rfl
    | exact .refl _
    | exact rfl
    | refine And.intro ?_ ?_
theorem rIpt_ok (n : Int) (t : Nat) (b : AV) (o : Int) (c : Bool) : rIpt (Orc.z.f.t.f.f.f.f.f.t.t.t) n t b o c := by
  rw [rIpt_vc]
  repeat' first
    | exact ⟨(), ⟨trivial, .refl _, rfl⟩, rfl, .refl _, .rfl⟩
    | exact .rfl
    | exact .refl _
    | exact rfl
    | refine And.intro ?_ ?_
theorem rIwb_ok (p : Int) (k : Int) (o : Int) (c : Bool) : rIwb (Orc.z.f.t.f.f.f.f.f.t.t.t) p k o c := by
  rw [rIwb_vc]
  repeat' first
    | exact ⟨(), ⟨trivial, .refl _, rfl⟩, rfl, .refl _, .rfl⟩
    | exact .rfl
    | exact .refl _
    | exact rfl
    | refine And.intro ?_ ?_
theorem rIwt_ok (p : Int) (t : Nat) (b : AV) (o : Int) (c : Bool) : rIwt (Orc.z.f.t.f.f.f.f.f.t.t.t) p t b o c := by
  rw [rIwt_vc]
  repeat' first
    | exact ⟨(), ⟨trivial, .refl _, rfl⟩, rfl, .refl _, .rfl⟩
    | exact .rfl
    | exact .refl _
    | exact rfl
    | refine And.intro ?_ ?_
theorem rS0_ok (ys : List AV) : rS0 (Orc.z.f) ys := by
  rw [rS0_vc]
  repeat' first
    | exact ⟨(), ⟨trivial, .refl _, rfl⟩, rfl, .refl _, .rfl⟩
    | exact .rfl
    | exact .refl _
    | exact rfl
    | refine And.intro ?_ ?_
theorem rSb_ok (k : Int) (ys : List AV) : rSb (Orc.z.f.t) k ys := by
  rw [rSb_vc]
  repeat' first
    | exact ⟨(), ⟨trivial, .refl _, rfl⟩, rfl, .refl _, .rfl⟩
    | exact .rfl
    | exact .refl _
    | exact rfl
    | refine And.intro ?_ ?_
theorem rSpb_ok (n : Int) (k : Int) (ys : List AV) (zs : List AV) : rSpb (Orc.z.f.t) n k ys zs := by
  rw [rSpb_vc]
  repeat' first
    | exact ⟨(), ⟨trivial, .refl _, rfl⟩, rfl, .refl _, .rfl⟩
    | exact .rfl
    | exact .refl _
    | exact rfl
    | refine And.intro ?_ ?_
theorem rSpt_ok (n : Int) (t : Nat) (b : AV) (ys : List AV) (zs : List AV) : rSpt (Orc.z.f.t) n t b ys zs := by
  rw [rSpt_vc]
  repeat' first
    | exact ⟨(), ⟨trivial, .refl _, rfl⟩, rfl, .refl _, .rfl⟩
    | exact .rfl
    | exact .refl _
    | exact rfl
    | refine And.intro ?_ ?_
theorem rSwb_ok (p : Int) (k : Int) (ys : List AV) (zs : List AV) : rSwb (Orc.z.f.t) p k ys zs := by
  rw [rSwb_vc]
  repeat' first
    | exact ⟨(), ⟨trivial, .refl _, rfl⟩, rfl, .refl _, .rfl⟩
    | exact .rfl
    | exact .refl _
    | exact rfl
    | refine And.intro ?_ ?_
theorem rSwt_ok (p : Int) (t : Nat) (b : AV) (ys : List AV) (zs : List AV) : rSwt (Orc.z.f.t) p t b ys zs := by
  rw [rSwt_vc]
  repeat' first
    | exact ⟨(), ⟨trivial, .refl _, rfl⟩, rfl, .refl _, .rfl⟩
    | exact .rfl
    | exact .refl _
    | exact rfl
    | refine And.intro ?_ ?_
theorem rSsb_ok (s : ByteArray) (k : Int) (ys : List AV) (zs : List AV) (hl : ys.length ≤ 1000) : rSsb (Orc.z.t.t) s k ys zs := by
  rw [rSsb_vc]
  have e : List.take ys.length (List.drop 0 ys) = ys := by rw [List.drop_zero, List.take_length]
  rw [e]
  exact ⟨rfl, rfl, by simp; omega, (), ⟨trivial, .refl _, rfl⟩, rfl, .refl _, .rfl⟩
theorem rSst_ok (s : ByteArray) (t : Nat) (b : AV) (ys : List AV) (zs : List AV) (hl : ys.length ≤ 1000) : rSst (Orc.z.t.t) s t b ys zs := by
  rw [rSst_vc]
  have e : List.take ys.length (List.drop 0 ys) = ys := by rw [List.drop_zero, List.take_length]
  rw [e]
  exact ⟨rfl, rfl, by simp; omega, (), ⟨trivial, .refl _, rfl⟩, rfl, .refl _, .rfl⟩
theorem rI0_ok (k o : Int) : rI0 ((Orc.z.s Orc.z.f.f.f.f.f.f).t.t.t) k o (k == o) := by
  rw [rI0_vc]
  refine ⟨rfl, rfl, rfl, fun h => ?_, fun h => ?_⟩
  · rw [h]; exact ⟨rfl, .refl _, .rfl⟩
  · rw [h]; exact ⟨rfl, rfl, rfl, rfl, rfl, rfl, rfl, .refl _, .rfl⟩
theorem g22b_ok (k o : Int) : g22b (Orc.z.f.f.f) k o (k == o) := by
  rw [g22b_vc]
  exact ⟨rfl, rfl, rfl, (Er.base k, o), ⟨trivial, .refl _, rfl⟩, .refl _, .rfl⟩
theorem g22n_ok {e : Er} {t : Nat} {b : AV} (he : e.enc = tW t b) (o : Int) : g22n (Orc.z.f.f.f) t b o (e.kindOf == o) := by
  rw [g22n_vc]
  exact ⟨rfl, rfl, rfl, (e, o), ⟨trivial, wksH (show tW t b = e.enc from he.symm), rfl⟩, .refl _, .rfl⟩
theorem g20b_ok (k : Int) : g20b (Orc.z) k [] := by
  rw [g20b_vc]
  exact ⟨Er.base k, ⟨Nat.zero_le _, .refl _, rfl⟩, Nat.le_refl _, .refl _, .rfl⟩
theorem g20n_ok {e : Er} {t : Nat} {b : AV} (he : e.enc = tW t b) (hl : e.names.length ≤ 1000) : g20n (Orc.z) t b e.names := by
  rw [g20n_vc]
  exact ⟨e, ⟨hl, wksH (show tW t b = e.enc from he.symm), rfl⟩, by omega, .of_eq (by rw [List.drop_zero, List.take_length]), .rfl⟩
abbrev B31 (xs : List AV) (σ : Hp) (r : Ex × Back) : Prop := BlkOk Tryd.prog X0.gl (fn 31).ntmps (loopAt (code 31) 0) [0, 1, 2] (fun _ => [6]) xs σ fun _ r' => r' = r
theorem loops31 : Code.loops (fun i y => ∀ L, (XB.ask [31]).lp 31 i = some L → LpOk (XB.ask [31]).px.P (XB.ask [31]).px.gl (fn 31).ntmps y L) none (loopAt (code 31) 0) := loops_true (fun _ _ _ hL => by cases hL) _ _
set_option maxRecDepth 100000 in
theorem roundI0 {o : Int} {x : AV} {b : Bool} {os : Orc} (h : rI os (lpI []) o x b) : B31 (isArgs x o) .nil (isOut b) :=
  lp_ok (X := XB.ask [31]) (d := 6) (f := 31) (L := lpI []) (XB_ok.ask [31]) loops31 (fun _ _ _ a ha => by cases ha) h
set_option maxRecDepth 100000 in
theorem roundI {o : Int} {x tl : AV} {b : Bool} {os : Orc} (ih : B31 (isArgs tl o) .nil (isOut b)) (h : rI os (lpIs o tl b) o x b) : B31 (isArgs x o) .nil (isOut b) :=
  lp_ok (X := XB.ask [31]) (d := 6) (f := 31) (L := lpIs o tl b) (XB_ok.ask [31]) loops31
    (Spl.ok rfl (show ([0, 1, 2] : List Nat).Nodup by decide) fun s hs i _ => by obtain rfl := List.mem_singleton.1 hs; exact ih) h
abbrev B20 (xs : List AV) (σ : Hp) (r : Ex × Back) : Prop := BlkOk Tryd.prog X0.gl (fn 20).ntmps (loopAt (code 20) 0) [0, 3] (fun _ => [3]) xs σ fun _ r' => r' = r
theorem loops20 : Code.loops (fun i y => ∀ L, (XB.ask [20]).lp 20 i = some L → LpOk (XB.ask [20]).px.P (XB.ask [20]).px.gl (fn 20).ntmps y L) none (loopAt (code 20) 0) := loops_true (fun _ _ _ hL => by cases hL) _ _
set_option maxRecDepth 100000 in
theorem roundS0 {ys : List AV} {os : Orc} (h : rS0 os ys) : B20 (stArgs (.lit .nilIface) ys) (stHeap ys) (stOut ys) :=
  lp_ok (X := XB.ask [20]) (d := 6) (f := 20) (L := lpS []) (XB_ok.ask [20]) loops20 (fun _ _ _ a ha => by cases ha) h
set_option maxRecDepth 100000 in
theorem roundS {x tl : AV} {ys ys' zs : List AV} {r : Ex × Back} {os : Orc} (ih : B20 (stArgs tl ys') (stHeap ys') r) (h : rS os (lpSt tl ys' r) x ys zs) : B20 (stArgs x ys) (stHeap ys) (stOut1 zs) :=
  lp_ok (X := XB.ask [20]) (d := 6) (f := 20) (L := lpSt tl ys' r) (XB_ok.ask [20]) loops20
    (Spl.ok rfl (show ([0, 3] : List Nat).Nodup by decide) fun s hs i _ => by obtain rfl := List.mem_singleton.1 hs; exact ih) h
set_option maxRecDepth 100000 in
theorem asI : ∀ (e : Er) (o : Int), B31 (isArgs e.enc o) .nil (isOut (e.kindOf == o))
  | .base k, o => roundI0 (rI0_ok k o)
  | .step s e, o => by
    have ih := asI e o
    cases e with
    | base k => exact roundI ih (rIsb_ok s _ _ _)
    | step s' e' => exact roundI ih (rIst_ok s _ _ _ _)
    | place s' e' => exact roundI ih (rIst_ok s _ _ _ _)
    | which s' e' => exact roundI ih (rIst_ok s _ _ _ _)
  | .place s e, o => by
    have ih := asI e o
    cases e with
    | base k => exact roundI ih (rIpb_ok s _ _ _)
    | step s' e' => exact roundI ih (rIpt_ok s _ _ _ _)
    | place s' e' => exact roundI ih (rIpt_ok s _ _ _ _)
    | which s' e' => exact roundI ih (rIpt_ok s _ _ _ _)
  | .which s e, o => by
    have ih := asI e o
    cases e with
    | base k => exact roundI ih (rIwb_ok s _ _ _)
    | step s' e' => exact roundI ih (rIwt_ok s _ _ _ _)
    | place s' e' => exact roundI ih (rIwt_ok s _ _ _ _)
    | which s' e' => exact roundI ih (rIwt_ok s _ _ _ _)
set_option maxRecDepth 100000 in
theorem asS : ∀ (e : Er) (ys : List AV), ys.length + e.names.length ≤ 1000 → B20 (stArgs e.enc ys) (stHeap ys) (stOut1 (ys ++ e.names))
  | .base k, ys, hl => by
    rw [show ys ++ (Er.base k).names = ys from List.append_nil ys]
    exact roundS (roundS0 (rS0_ok ys)) (rSb_ok k ys)
  | .step s e, ys, hl => by
    have ih := asS e (ys ++ [sA s]) (by simp only [Er.names, List.length_cons, List.length_append, List.length_nil] at hl ⊢; omega)
    rw [List.append_assoc] at ih
    cases e with
    | base k => exact roundS ih (rSsb_ok s _ _ _ (by simp only [Er.names, List.length_cons] at hl; omega))
    | step s' e' => exact roundS ih (rSst_ok s _ _ _ _ (by simp only [Er.names, List.length_cons] at hl; omega))
    | place s' e' => exact roundS ih (rSst_ok s _ _ _ _ (by simp only [Er.names, List.length_cons] at hl; omega))
    | which s' e' => exact roundS ih (rSst_ok s _ _ _ _ (by simp only [Er.names, List.length_cons] at hl; omega))
  | .place s e, ys, hl => by
    have ih := asS e ys hl
    cases e with
    | base k => exact roundS ih (rSpb_ok s _ _ _)
    | step s' e' => exact roundS ih (rSpt_ok s _ _ _ _)
    | place s' e' => exact roundS ih (rSpt_ok s _ _ _ _)
    | which s' e' => exact roundS ih (rSpt_ok s _ _ _ _)
  | .which s e, ys, hl => by
    have ih := asS e ys hl
    cases e with
    | base k => exact roundS ih (rSwb_ok s _ _ _)
    | step s' e' => exact roundS ih (rSwt_ok s _ _ _ _)
    | place s' e' => exact roundS ih (rSwt_ok s _ _ _ _)
    | which s' e' => exact roundS ih (rSwt_ok s _ _ _ _)
theorem XI_ok : XI.Sound := XB_ok.addLp (fnOk 31 (by kernel_rfl)) (show (fn 31).body = some (code 31) by kernel_rfl) (by kernel_rfl) (Spl.ok rfl (show ([0, 1, 2] : List Nat).Nodup by decide) fun s hs i _ => by obtain rfl := List.mem_singleton.1 hs; exact asI i.1 i.2)
theorem XS_ok : XS.Sound := XB_ok.addLp (fnOk 20 (by kernel_rfl)) (show (fn 20).body = some (code 20) by kernel_rfl) (by kernel_rfl) (Spl.ok rfl (show ([0, 3] : List Nat).Nodup by decide) fun s hs i hp => by obtain rfl := List.mem_singleton.1 hs; exact asS i [] (by have : i.names.length ≤ 1000 := hp; simpa using this))
set_option maxRecDepth 100000 in
theorem isK (e : Er) (o : Int) : FOk Tryd.prog X0.gl 22 [e.enc, tB o] .nil ⟨b0 (e.kindOf == o), .nil, []⟩ :=
  fn_ok (X := XI.ask [22]) (d := 8) (XI_ok.ask [22]) (fnOk 22 (by kernel_rfl)) (show (fn 22).body = some (code 22) by kernel_rfl) (by kernel_rfl) (show gI _ e.enc o _ from by
    cases e with
    | base k => exact g22b_ok k o
    | step s e' => exact g22n_ok rfl o
    | place s e' => exact g22n_ok rfl o
    | which s e' => exact g22n_ok rfl o)
set_option maxRecDepth 100000 in
theorem steps (e : Er) (hl : e.names.length ≤ 1000) : F 20 e.enc (.lst false 1 e.names) :=
  fn_ok (X := XS.ask [20]) (d := 8) (XS_ok.ask [20]) (fnOk 20 (by kernel_rfl)) (show (fn 20).body = some (code 20) by kernel_rfl) (by kernel_rfl) (show gS _ e.enc _ from by
    cases e with
    | base k => exact g20b_ok k
    | step s e' => exact g20n_ok rfl hl
    | place s e' => exact g20n_ok rfl hl
    | which s e' => exact g20n_ok rfl hl)
end
end Go.Proofs.YtihjokkmkdhhpaaDoor
end
section
namespace Go.Proofs.YtihjokkmkdhhpaaDoor
open Go.AS
noncomputable section
/-- How many bits a byte has. -/
def len8 : ByteArray := ⟨⟨[0, 1, 2, 2, 3, 3, 3, 3, 4, 4, 4, 4, 4, 4, 4, 4, 5, 5, 5, 5, 5, 5, 5, 5, 5, 5, 5, 5, 5, 5, 5, 5, 6, 6, 6, 6, 6, 6, 6, 6, 6, 6, 6, 6, 6, 6, 6, 6, 6, 6, 6, 6, 6, 6, 6, 6, 6, 6, 6, 6, 6, 6, 6, 6, 7, 7, 7, 7, 7, 7, 7, 7, 7, 7, 7, 7, 7, 7, 7, 7, 7, 7, 7, 7, 7, 7, 7, 7, 7, 7, 7, 7, 7, 7, 7, 7, 7, 7, 7, 7, 7, 7, 7, 7, 7, 7, 7, 7, 7, 7, 7, 7, 7, 7, 7, 7, 7, 7, 7, 7, 7, 7, 7, 7, 7, 7, 7, 7, 8, 8, 8, 8, 8, 8, 8, 8, 8, 8, 8, 8, 8, 8, 8, 8, 8, 8, 8, 8, 8, 8, 8, 8, 8, 8, 8, 8, 8, 8, 8, 8, 8, 8, 8, 8, 8, 8, 8, 8, 8, 8, 8, 8, 8, 8, 8, 8, 8, 8, 8, 8, 8, 8, 8, 8, 8, 8, 8, 8, 8, 8, 8, 8, 8, 8, 8, 8, 8, 8, 8, 8, 8, 8, 8, 8, 8, 8, 8, 8, 8, 8, 8, 8, 8, 8, 8, 8, 8, 8, 8, 8, 8, 8, 8, 8, 8, 8, 8, 8, 8, 8, 8, 8, 8, 8, 8, 8, 8, 8, 8, 8, 8, 8, 8, 8, 8, 8, 8, 8, 8, 8, 8, 8, 8, 8, 8, 8]⟩⟩
/-- The digits of the numbers below a hundred, two by two. -/
def smalls : ByteArray := ⟨⟨[48, 48, 48, 49, 48, 50, 48, 51, 48, 52, 48, 53, 48, 54, 48, 55, 48, 56, 48, 57, 49, 48, 49, 49, 49, 50, 49, 51, 49, 52, 49, 53, 49, 54, 49, 55, 49, 56, 49, 57, 50, 48, 50, 49, 50, 50, 50, 51, 50, 52, 50, 53, 50, 54, 50, 55, 50, 56, 50, 57, 51, 48, 51, 49, 51, 50, 51, 51, 51, 52, 51, 53, 51, 54, 51, 55, 51, 56, 51, 57, 52, 48, 52, 49, 52, 50, 52, 51, 52, 52, 52, 53, 52, 54, 52, 55, 52, 56, 52, 57, 53, 48, 53, 49, 53, 50, 53, 51, 53, 52, 53, 53, 53, 54, 53, 55, 53, 56, 53, 57, 54, 48, 54, 49, 54, 50, 54, 51, 54, 52, 54, 53, 54, 54, 54, 55, 54, 56, 54, 57, 55, 48, 55, 49, 55, 50, 55, 51, 55, 52, 55, 53, 55, 54, 55, 55, 55, 56, 55, 57, 56, 48, 56, 49, 56, 50, 56, 51, 56, 52, 56, 53, 56, 54, 56, 55, 56, 56, 56, 57, 57, 48, 57, 49, 57, 50, 57, 51, 57, 52, 57, 53, 57, 54, 57, 55, 57, 56, 57, 57]⟩⟩
def digits : ByteArray := ⟨⟨[48, 49, 50, 51, 52, 53, 54, 55, 56, 57, 97, 98, 99, 100, 101, 102, 103, 104, 105, 106, 107, 108, 109, 110, 111, 112, 113, 114, 115, 116, 117, 118, 119, 120, 121, 122]⟩⟩
def XC (c : Nat → Int) : WX := WX.base (XT c)
theorem XC_ok (c : Nat → Int) : (XC c).Sound := .base (soundT c)
abbrev u6 (n : Int) : AV := .lit (.int .u64 n)
abbrev iV (n : Int) : AV := .lit (.int .i64 n)
abbrev sV (s : ByteArray) : AV := .lit (.string s)
def gC (X : WX) (f : Nat) (os : Orc) (x r : AV) : Prop := runF (X.ask [55, 56, 57, 58, 59, 60, 62, 63, 64]) 8 f (fn f) (code f) os 0 [] [x] .nil ⟨r, .nil, []⟩
def g63 (os : Orc) (c : Nat → Int) (u m : Int) : Prop := gC (XC c) 63 os (u6 u) (iV m)
def sp63 (u m : Int) : Sp := .pure Unit (fun _ => True) (fun _ => [u6 u]) (fun _ => iV m)
def g597 (os : Orc) (c : Nat → Int) (u r : Int) : Prop := gC ((XC c).add 63 (Sp.con [sp63 u 7])) 59 os (u6 u) (iV r)
def g598 (os : Orc) (c : Nat → Int) (u r : Int) : Prop := gC ((XC c).add 63 (Sp.con [sp63 u 8])) 59 os (u6 u) (iV r)
def g599 (os : Orc) (c : Nat → Int) (u r : Int) : Prop := gC ((XC c).add 63 (Sp.con [sp63 u 9])) 59 os (u6 u) (iV r)
def g59t (os : Orc) (c : Nat → Int) (u r : Int) : Prop := gC ((XC c).add 63 (Sp.con [sp63 u 10])) 59 os (u6 u) (iV r)
def g552 (os : Orc) (c : Nat → Int) (n : Int) (s : ByteArray) : Prop := gC ((XC c).add 59 (Sp.con [sp63 n 2])) 55 os (iV n) (sV s)
def g553 (os : Orc) (c : Nat → Int) (n : Int) (s : ByteArray) : Prop := gC ((XC c).add 59 (Sp.con [sp63 n 3])) 55 os (iV n) (sV s)
def g554 (os : Orc) (c : Nat → Int) (n : Int) (s : ByteArray) : Prop := gC ((XC c).add 59 (Sp.con [sp63 n 4])) 55 os (iV n) (sV s)
def g55a (os : Orc) (c : Nat → Int) (n : Int) (s : ByteArray) : Prop := gC (XC c) 55 os (iV n) (sV s)
end
end Go.Proofs.YtihjokkmkdhhpaaDoor
end
section
namespace Go.Proofs.YtihjokkmkdhhpaaDoor
open Go Go.AS
theorem g63_vc (c : Nat → Int) (u : Int) (m : Int) : g63 (Orc.f (Orc.f (Orc.s Orc.z Orc.z))) c u m = (decide (u ≥ 4294967296) = false ∧ decide (u ≥ 65536) = false ∧ (decide (u ≥ 256) = true → true = true ∧ true = true ∧ true = true ∧ decide (0 ≤ IntKind.wrap IntKind.u8 (Int.fdiv u 256) ∧ IntKind.wrap IntKind.u8 (Int.fdiv u 256) < 256) = true ∧ inR IntKind.i64 ↑(byteAt len8 (Int.toNat (IntKind.wrap IntKind.u8 (Int.fdiv u 256)))) = true ∧ inR IntKind.i64 (8 + ↑(byteAt len8 (Int.toNat (IntKind.wrap IntKind.u8 (Int.fdiv u 256))))) = true ∧ Wk (AV.lit (Value.int IntKind.i64 (8 + ↑(byteAt len8 (Int.toNat (IntKind.wrap IntKind.u8 (Int.fdiv u 256))))))) (AV.lit (Value.int IntKind.i64 m)) ∧ SameH (hpL []) (hpL [])) ∧ (decide (u ≥ 256) = false → true = true ∧ decide (0 ≤ IntKind.wrap IntKind.u8 u ∧ IntKind.wrap IntKind.u8 u < 256) = true ∧ inR IntKind.i64 ↑(byteAt len8 (Int.toNat (IntKind.wrap IntKind.u8 u))) = true ∧ inR IntKind.i64 (0 + ↑(byteAt len8 (Int.toNat (IntKind.wrap IntKind.u8 u)))) = true ∧ Wk (AV.lit (Value.int IntKind.i64 (0 + ↑(byteAt len8 (Int.toNat (IntKind.wrap IntKind.u8 u)))))) (AV.lit (Value.int IntKind.i64 m)) ∧ SameH (hpL []) (hpL []))) := by kernel_rfl
theorem g597_vc (c : Nat → Int) (u : Int) (r : Int) : g597 (Orc.s Orc.z Orc.z) c u r = (∃ (_ : Unit), (True ∧ Wks [AV.lit (Value.int IntKind.u64 u)] [AV.lit (Value.int IntKind.u64 u)] ∧ hpL [] = hpL []) ∧ true = true ∧ true = true ∧ (decide (u ≥ c 2) = true → true = true ∧ Wk (AV.lit (Value.int IntKind.i64 3)) (AV.lit (Value.int IntKind.i64 r)) ∧ SameH (hpL []) (hpL [])) ∧ (decide (u ≥ c 2) = false → true = true ∧ Wk (AV.lit (Value.int IntKind.i64 2)) (AV.lit (Value.int IntKind.i64 r)) ∧ SameH (hpL []) (hpL []))) := by kernel_rfl
theorem g598_vc (c : Nat → Int) (u : Int) (r : Int) : g598 (Orc.s Orc.z Orc.z) c u r = (∃ (_ : Unit), (True ∧ Wks [AV.lit (Value.int IntKind.u64 u)] [AV.lit (Value.int IntKind.u64 u)] ∧ hpL [] = hpL []) ∧ true = true ∧ true = true ∧ (decide (u ≥ c 2) = true → true = true ∧ Wk (AV.lit (Value.int IntKind.i64 3)) (AV.lit (Value.int IntKind.i64 r)) ∧ SameH (hpL []) (hpL [])) ∧ (decide (u ≥ c 2) = false → true = true ∧ Wk (AV.lit (Value.int IntKind.i64 2)) (AV.lit (Value.int IntKind.i64 r)) ∧ SameH (hpL []) (hpL []))) := by kernel_rfl
theorem g599_vc (c : Nat → Int) (u : Int) (r : Int) : g599 (Orc.s Orc.z Orc.z) c u r = (∃ (_ : Unit), (True ∧ Wks [AV.lit (Value.int IntKind.u64 u)] [AV.lit (Value.int IntKind.u64 u)] ∧ hpL [] = hpL []) ∧ true = true ∧ true = true ∧ (decide (u ≥ c 2) = true → true = true ∧ Wk (AV.lit (Value.int IntKind.i64 3)) (AV.lit (Value.int IntKind.i64 r)) ∧ SameH (hpL []) (hpL [])) ∧ (decide (u ≥ c 2) = false → true = true ∧ Wk (AV.lit (Value.int IntKind.i64 2)) (AV.lit (Value.int IntKind.i64 r)) ∧ SameH (hpL []) (hpL []))) := by kernel_rfl
theorem g59t_vc (c : Nat → Int) (u : Int) (r : Int) : g59t (Orc.s Orc.z Orc.z) c u r = (∃ (_ : Unit), (True ∧ Wks [AV.lit (Value.int IntKind.u64 u)] [AV.lit (Value.int IntKind.u64 u)] ∧ hpL [] = hpL []) ∧ true = true ∧ true = true ∧ (decide (u ≥ c 3) = true → true = true ∧ Wk (AV.lit (Value.int IntKind.i64 4)) (AV.lit (Value.int IntKind.i64 r)) ∧ SameH (hpL []) (hpL [])) ∧ (decide (u ≥ c 3) = false → true = true ∧ Wk (AV.lit (Value.int IntKind.i64 3)) (AV.lit (Value.int IntKind.i64 r)) ∧ SameH (hpL []) (hpL []))) := by kernel_rfl
theorem g55a_vc (c : Nat → Int) (n : Int) (s : ByteArray) : g55a (Orc.t (Orc.t (Orc.t (Orc.t (Orc.s Orc.z Orc.z))))) c n s = (true = true ∧ decide (0 ≤ n) = true ∧ true = true ∧ decide (n < 100) = true ∧ (decide (n < 10) = true → inR IntKind.i64 (n + 1) = true ∧ decide (0 ≤ Option.getD (some n) 0 ∧ Option.getD (some n) 0 ≤ Option.getD (some (n + 1)) 36 ∧ Option.getD (some (n + 1)) 36 ≤ 36 ∧ false = false) = true ∧ Wk (AV.lit (Value.string (ByteArray.extract digits (Int.toNat (Option.getD (some n) 0)) (Int.toNat (Option.getD (some (n + 1)) 36))))) (AV.lit (Value.string s)) ∧ SameH (hpL []) (hpL [])) ∧ (decide (n < 10) = false → inR IntKind.i64 (n * 2) = true ∧ inR IntKind.i64 (n * 2) = true ∧ inR IntKind.i64 (n * 2 + 2) = true ∧ decide (0 ≤ Option.getD (some (n * 2)) 0 ∧ Option.getD (some (n * 2)) 0 ≤ Option.getD (some (n * 2 + 2)) 200 ∧ Option.getD (some (n * 2 + 2)) 200 ≤ 200 ∧ false = false) = true ∧ Wk (AV.lit (Value.string (ByteArray.extract smalls (Int.toNat (Option.getD (some (n * 2)) 0)) (Int.toNat (Option.getD (some (n * 2 + 2)) 200))))) (AV.lit (Value.string s)) ∧ SameH (hpL []) (hpL []))) := by kernel_rfl
theorem g552_vc (c : Nat → Int) (n : Int) (s : ByteArray) : g552 (Orc.t (Orc.t (Orc.t (Orc.f (Orc.f (Orc.f (Orc.f (Orc.t (Orc.f (Orc.f Orc.z)))))))))) c n s = (true = true ∧ decide (0 ≤ n) = true ∧ true = true ∧ decide (n < 100) = false ∧ true = true ∧ decide (n < 0) = false ∧ ∃ (_ : Unit), (True ∧ Wks [AV.lit (Value.int IntKind.u64 (IntKind.wrap IntKind.u64 n))] [AV.lit (Value.int IntKind.u64 n)] ∧ hpL [] = hpL []) ∧ true = true ∧ false = false ∧ true = true ∧ false = false ∧ true = true ∧ true = true ∧ true = true ∧ (true && true) = true ∧ true = true ∧ true = true ∧ true = true ∧ decide (0 ≤ IntKind.wrap IntKind.u32 (IntKind.wrap IntKind.u32 (Int.tmod (IntKind.wrap IntKind.u32 (IntKind.wrap IntKind.u64 n)) 100 * 2) + 1) ∧ IntKind.wrap IntKind.u32 (IntKind.wrap IntKind.u32 (Int.tmod (IntKind.wrap IntKind.u32 (IntKind.wrap IntKind.u64 n)) 100 * 2) + 1) < 200) = true ∧ decide (0 ≤ IntKind.wrap IntKind.u32 (Int.tmod (IntKind.wrap IntKind.u32 (IntKind.wrap IntKind.u64 n)) 100 * 2) ∧ IntKind.wrap IntKind.u32 (Int.tmod (IntKind.wrap IntKind.u32 (IntKind.wrap IntKind.u64 n)) 100 * 2) < 200) = true ∧ true = true ∧ false = false ∧ decide (n < 0) = false ∧ true = true ∧ true = true ∧ Wk (AV.lit (Value.string { data := { toList := [UInt8.ofNat (Int.toNat ↑(byteAt smalls (Int.toNat (IntKind.wrap IntKind.u32 (Int.tmod (IntKind.wrap IntKind.u32 (IntKind.wrap IntKind.u64 n)) 100 * 2))))), UInt8.ofNat (Int.toNat ↑(byteAt smalls (Int.toNat (IntKind.wrap IntKind.u32 (IntKind.wrap IntKind.u32 (Int.tmod (IntKind.wrap IntKind.u32 (IntKind.wrap IntKind.u64 n)) 100 * 2) + 1)))))] } })) (AV.lit (Value.string s)) ∧ SameH (hpL []) (hpL [])) := by kernel_rfl
theorem g553_vc (c : Nat → Int) (n : Int) (s : ByteArray) : g553 (Orc.t (Orc.t (Orc.t (Orc.f (Orc.f (Orc.f (Orc.f (Orc.t (Orc.t (Orc.f Orc.z)))))))))) c n s = (true = true ∧ decide (0 ≤ n) = true ∧ true = true ∧ decide (n < 100) = false ∧ true = true ∧ decide (n < 0) = false ∧ ∃ (_ : Unit), (True ∧ Wks [AV.lit (Value.int IntKind.u64 (IntKind.wrap IntKind.u64 n))] [AV.lit (Value.int IntKind.u64 n)] ∧ hpL [] = hpL []) ∧ true = true ∧ false = false ∧ true = true ∧ false = false ∧ true = true ∧ true = true ∧ true = true ∧ (true && true) = true ∧ true = true ∧ true = true ∧ true = true ∧ decide (0 ≤ IntKind.wrap IntKind.u32 (IntKind.wrap IntKind.u32 (Int.tmod (IntKind.wrap IntKind.u32 (IntKind.wrap IntKind.u64 n)) 100 * 2) + 1) ∧ IntKind.wrap IntKind.u32 (IntKind.wrap IntKind.u32 (Int.tmod (IntKind.wrap IntKind.u32 (IntKind.wrap IntKind.u64 n)) 100 * 2) + 1) < 200) = true ∧ decide (0 ≤ IntKind.wrap IntKind.u32 (Int.tmod (IntKind.wrap IntKind.u32 (IntKind.wrap IntKind.u64 n)) 100 * 2) ∧ IntKind.wrap IntKind.u32 (Int.tmod (IntKind.wrap IntKind.u32 (IntKind.wrap IntKind.u64 n)) 100 * 2) < 200) = true ∧ true = true ∧ true = true ∧ true = true ∧ true = true ∧ decide (n < 0) = false ∧ true = true ∧ true = true ∧ Wk (AV.lit (Value.string { data := { toList := [UInt8.ofNat (Int.toNat (IntKind.wrap IntKind.u8 (IntKind.wrap IntKind.u32 (48 + IntKind.wrap IntKind.u32 (Int.tdiv (IntKind.wrap IntKind.u32 (IntKind.wrap IntKind.u64 n)) 100))))), UInt8.ofNat (Int.toNat ↑(byteAt smalls (Int.toNat (IntKind.wrap IntKind.u32 (Int.tmod (IntKind.wrap IntKind.u32 (IntKind.wrap IntKind.u64 n)) 100 * 2))))), UInt8.ofNat (Int.toNat ↑(byteAt smalls (Int.toNat (IntKind.wrap IntKind.u32 (IntKind.wrap IntKind.u32 (Int.tmod (IntKind.wrap IntKind.u32 (IntKind.wrap IntKind.u64 n)) 100 * 2) + 1)))))] } })) (AV.lit (Value.string s)) ∧ SameH (hpL []) (hpL [])) := by kernel_rfl
theorem g554_vc (c : Nat → Int) (n : Int) (s : ByteArray) : g554 (Orc.t (Orc.t (Orc.t (Orc.f (Orc.f (Orc.f (Orc.t (Orc.f (Orc.f (Orc.f Orc.z)))))))))) c n s = (true = true ∧ decide (0 ≤ n) = true ∧ true = true ∧ decide (n < 100) = false ∧ true = true ∧ decide (n < 0) = false ∧ ∃ (_ : Unit), (True ∧ Wks [AV.lit (Value.int IntKind.u64 (IntKind.wrap IntKind.u64 n))] [AV.lit (Value.int IntKind.u64 n)] ∧ hpL [] = hpL []) ∧ true = true ∧ false = false ∧ true = true ∧ true = true ∧ true = true ∧ (true && true) = true ∧ (true && true) = true ∧ true = true ∧ true = true ∧ true = true ∧ true = true ∧ true = true ∧ true = true ∧ decide (0 ≤ IntKind.wrap IntKind.u32 (IntKind.wrap IntKind.u32 (Int.tmod (Int.tmod (IntKind.wrap IntKind.u32 (IntKind.wrap IntKind.u64 n)) 10000) 100 * 2) + 1) ∧ IntKind.wrap IntKind.u32 (IntKind.wrap IntKind.u32 (Int.tmod (Int.tmod (IntKind.wrap IntKind.u32 (IntKind.wrap IntKind.u64 n)) 10000) 100 * 2) + 1) < 200) = true ∧ decide (0 ≤ IntKind.wrap IntKind.u32 (Int.tmod (Int.tmod (IntKind.wrap IntKind.u32 (IntKind.wrap IntKind.u64 n)) 10000) 100 * 2) ∧ IntKind.wrap IntKind.u32 (Int.tmod (Int.tmod (IntKind.wrap IntKind.u32 (IntKind.wrap IntKind.u64 n)) 10000) 100 * 2) < 200) = true ∧ true = true ∧ true = true ∧ true = true ∧ decide (0 ≤ IntKind.wrap IntKind.u32 (IntKind.wrap IntKind.u32 (IntKind.wrap IntKind.u32 (Int.tdiv (Int.tmod (IntKind.wrap IntKind.u32 (IntKind.wrap IntKind.u64 n)) 10000) 100) * 2) + 1) ∧ IntKind.wrap IntKind.u32 (IntKind.wrap IntKind.u32 (IntKind.wrap IntKind.u32 (Int.tdiv (Int.tmod (IntKind.wrap IntKind.u32 (IntKind.wrap IntKind.u64 n)) 10000) 100) * 2) + 1) < 200) = true ∧ decide (0 ≤ IntKind.wrap IntKind.u32 (IntKind.wrap IntKind.u32 (Int.tdiv (Int.tmod (IntKind.wrap IntKind.u32 (IntKind.wrap IntKind.u64 n)) 10000) 100) * 2) ∧ IntKind.wrap IntKind.u32 (IntKind.wrap IntKind.u32 (Int.tdiv (Int.tmod (IntKind.wrap IntKind.u32 (IntKind.wrap IntKind.u64 n)) 10000) 100) * 2) < 200) = true ∧ true = true ∧ false = false ∧ false = false ∧ decide (n < 0) = false ∧ true = true ∧ true = true ∧ Wk (AV.lit (Value.string { data := { toList := [UInt8.ofNat (Int.toNat ↑(byteAt smalls (Int.toNat (IntKind.wrap IntKind.u32 (IntKind.wrap IntKind.u32 (Int.tdiv (Int.tmod (IntKind.wrap IntKind.u32 (IntKind.wrap IntKind.u64 n)) 10000) 100) * 2))))), UInt8.ofNat (Int.toNat ↑(byteAt smalls (Int.toNat (IntKind.wrap IntKind.u32 (IntKind.wrap IntKind.u32 (IntKind.wrap IntKind.u32 (Int.tdiv (Int.tmod (IntKind.wrap IntKind.u32 (IntKind.wrap IntKind.u64 n)) 10000) 100) * 2) + 1))))), UInt8.ofNat (Int.toNat ↑(byteAt smalls (Int.toNat (IntKind.wrap IntKind.u32 (Int.tmod (Int.tmod (IntKind.wrap IntKind.u32 (IntKind.wrap IntKind.u64 n)) 10000) 100 * 2))))), UInt8.ofNat (Int.toNat ↑(byteAt smalls (Int.toNat (IntKind.wrap IntKind.u32 (IntKind.wrap IntKind.u32 (Int.tmod (Int.tmod (IntKind.wrap IntKind.u32 (IntKind.wrap IntKind.u64 n)) 10000) 100 * 2) + 1)))))] } })) (AV.lit (Value.string s)) ∧ SameH (hpL []) (hpL [])) := by kernel_rfl
end Go.Proofs.YtihjokkmkdhhpaaDoor
end
