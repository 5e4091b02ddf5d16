/- Parts of the proof of ParseDeep. -/
import Derived.Test.YtpofhijgccocpaaGreatDoorGb
import Derived.Test.YtpofhijgccocpaaGreatDoorGa
import Derived.Lib.ItoaNum
import Derived.Test.YtpofhijgccocpaaGreatDoorAWnil
import Derived.Test.YtpofhijgccocpaaGreatDoorAWnil2
import Derived.Test.YtpofhijgccocpaaGreatDoorASvar
section
namespace Go.Proofs.YtpofhijgccocpaaGreatDoor
open Go.AS Go.TP
noncomputable section
def gRaUN (os:Orc)(ts:List AV)(k d:Int)(xs:List AV)(bad' pl':Int):Prop :=
 runF (XQn ((XB.add fXIs (Sp.con [spI 5 true (xHp 0 ts k d xs 0 0)])).add fXDown (Sp.con [spD false (xHp 0 ts k d xs 0 0) (xHp 0 ts k d xs bad' pl')])) fXRang [17,19,50,52,91,93]) 14 fXRang (fn fXRang) (code fXRang) os 0 [] [xArg] (xHp 0 ts k d xs 0 0) ⟨i0 0,xHp 0 ts k d xs bad' pl',[1048577,1048578]⟩
def gRaUY (os:Orc)(ts:List AV)(k d:Int)(xs:List AV)(k1 k2 d2:Int)(xs2:List AV)(bad2 pl2 v a:Int):Prop :=
 runF (XQn ((((XB.add fXIs (Sp.con [spI 5 true (xHp 0 ts k d xs 0 0)])).add fXDown (Sp.con [spD true (xHp 0 ts k d xs 0 0) (xHp 0 ts k1 (d+1) xs 0 0)])).add fXAtom (Sp.con [spV v (xHp 0 ts k1 (d+1) xs 0 0) (xHp 1 ts k2 d2 xs2 bad2 pl2)])).add fXAdd (Sp.con [spA (rgV 6 a 0 ByteArray.empty [i0 v]) xs2.length (xHp 0 ts k2 (d2-1) xs2 bad2 pl2) (xHp 1 ts k2 (d2-1) (xs2++[(rgV 6 a 0 ByteArray.empty [i0 v])]) bad2 pl2)])) fXRang [17,19,50,52,91,93]) 14 fXRang (fn fXRang) (code fXRang) os 0 [1048577] [xArg] (xHp 0 ts k d xs 0 0) ⟨i0 xs2.length,xHp 1 ts k2 (d2-1) (xs2++[(rgV 6 a 0 ByteArray.empty [i0 v])]) bad2 pl2,[1048577,1048578]⟩
def gRaA (os:Orc)(ts:List AV)(k d:Int)(xs:List AV)(ka da:Int)(xsa:List AV)(bada pla va:Int):Prop :=
 runF (XQn ((XB.add fXIs (Sp.con [spI 5 false (xHp 0 ts k d xs 0 0),spI 5 false (xHp 0 ts ka da xsa bada pla),spI 6 false (xHp 0 ts ka da xsa bada pla)])).add fXAtom (Sp.con [spV va (xHp 0 ts k d xs 0 0) (xHp 1 ts ka da xsa bada pla)])) fXRang [17,19,50,52,91,93]) 14 fXRang (fn fXRang) (code fXRang) os 0 [1048577] [xArg] (xHp 0 ts k d xs 0 0) ⟨i0 va,xHp 1 ts ka da xsa bada pla,[1048577,1048578]⟩
def gRaDN (os:Orc)(ts:List AV)(k d:Int)(xs:List AV)(ka da:Int)(xsa:List AV)(va:Int)(bad' pl':Int):Prop :=
 runF (XQn (((XB.add fXIs (Sp.con [spI 5 false (xHp 0 ts k d xs 0 0),spI 5 true (xHp 0 ts ka da xsa 0 0)])).add fXAtom (Sp.con [spV va (xHp 0 ts k d xs 0 0) (xHp 1 ts ka da xsa 0 0)])).add fXDown (Sp.con [spD false (xHp 0 ts ka da xsa 0 0) (xHp 0 ts ka da xsa bad' pl')])) fXRang [17,19,50,52,91,93]) 14 fXRang (fn fXRang) (code fXRang) os 0 [1048577] [xArg] (xHp 0 ts k d xs 0 0) ⟨i0 0,xHp 1 ts ka da xsa bad' pl',[1048577,1048578]⟩
def gRaDD (os:Orc)(ts:List AV)(k d:Int)(xs:List AV)(ka da:Int)(xsa:List AV)(va:Int)(k1 a:Int):Prop :=
 runF (XQn ((((XB.add fXIs (Sp.con [spI 5 false (xHp 0 ts k d xs 0 0),spI 5 true (xHp 0 ts ka da xsa 0 0),spI 2 false (xHp 0 ts k1 (da+1) xsa 0 0),spI 1 false (xHp 0 ts k1 (da+1) xsa 0 0)])).add fXAtom (Sp.con [spV va (xHp 0 ts k d xs 0 0) (xHp 1 ts ka da xsa 0 0)])).add fXDown (Sp.con [spD true (xHp 0 ts ka da xsa 0 0) (xHp 0 ts k1 (da+1) xsa 0 0)])).add fXAdd (Sp.con [spA (rgV 7 a 0 ByteArray.empty [i0 va]) xsa.length (xHp 0 ts k1 (da+1-1) xsa 0 0) (xHp 1 ts k1 (da+1-1) (xsa++[(rgV 7 a 0 ByteArray.empty [i0 va])]) 0 0)])) fXRang [17,19,50,52,91,93]) 14 fXRang (fn fXRang) (code fXRang) os 0 [1048577] [xArg] (xHp 0 ts k d xs 0 0) ⟨i0 xsa.length,xHp 1 ts k1 (da+1-1) (xsa++[(rgV 7 a 0 ByteArray.empty [i0 va])]) 0 0,[1048577,1048578]⟩
def gRaDO (os:Orc)(ts:List AV)(k d:Int)(xs:List AV)(ka da:Int)(xsa:List AV)(va:Int)(k1 k2 d2:Int)(xs2:List AV)(bad2 pl2 v a:Int):Prop :=
 runF (XQn ((((XB.add fXIs (Sp.con [spI 5 false (xHp 0 ts k d xs 0 0),spI 5 true (xHp 0 ts ka da xsa 0 0),spI 2 true (xHp 0 ts k1 (da+1) xsa 0 0)])).add fXAtom (Sp.con [spV va (xHp 0 ts k d xs 0 0) (xHp 1 ts ka da xsa 0 0),spV v (xHp 0 ts k1 (da+1) xsa 0 0) (xHp 1 ts k2 d2 xs2 bad2 pl2)])).add fXDown (Sp.con [spD true (xHp 0 ts ka da xsa 0 0) (xHp 0 ts k1 (da+1) xsa 0 0)])).add fXAdd (Sp.con [spA (rgV 8 a 0 ByteArray.empty [i0 va,i0 v]) xs2.length (xHp 0 ts k2 (d2-1) xs2 bad2 pl2) (xHp 1 ts k2 (d2-1) (xs2++[(rgV 8 a 0 ByteArray.empty [i0 va,i0 v])]) bad2 pl2)])) fXRang [17,19,50,52,91,93]) 14 fXRang (fn fXRang) (code fXRang) os 0 [1048577] [xArg] (xHp 0 ts k d xs 0 0) ⟨i0 xs2.length,xHp 1 ts k2 (d2-1) (xs2++[(rgV 8 a 0 ByteArray.empty [i0 va,i0 v])]) bad2 pl2,[1048577,1048578]⟩
def gRaDW (os:Orc)(ts:List AV)(k d:Int)(xs:List AV)(ka da:Int)(xsa:List AV)(va:Int)(k1 k2 d2:Int)(xs2:List AV)(bad2 pl2 v a:Int):Prop :=
 runF (XQn ((((XB.add fXIs (Sp.con [spI 5 false (xHp 0 ts k d xs 0 0),spI 5 true (xHp 0 ts ka da xsa 0 0),spI 2 false (xHp 0 ts k1 (da+1) xsa 0 0),spI 1 true (xHp 0 ts k1 (da+1) xsa 0 0)])).add fXAtom (Sp.con [spV va (xHp 0 ts k d xs 0 0) (xHp 1 ts ka da xsa 0 0),spV v (xHp 0 ts k1 (da+1) xsa 0 0) (xHp 1 ts k2 d2 xs2 bad2 pl2)])).add fXDown (Sp.con [spD true (xHp 0 ts ka da xsa 0 0) (xHp 0 ts k1 (da+1) xsa 0 0)])).add fXAdd (Sp.con [spA (rgV 8 a 0 ByteArray.empty [i0 va,i0 v]) xs2.length (xHp 0 ts k2 (d2-1) xs2 bad2 pl2) (xHp 1 ts k2 (d2-1) (xs2++[(rgV 8 a 0 ByteArray.empty [i0 va,i0 v])]) bad2 pl2)])) fXRang [17,19,50,52,91,93]) 14 fXRang (fn fXRang) (code fXRang) os 0 [1048577] [xArg] (xHp 0 ts k d xs 0 0) ⟨i0 xs2.length,xHp 1 ts k2 (d2-1) (xs2++[(rgV 8 a 0 ByteArray.empty [i0 va,i0 v])]) bad2 pl2,[1048577,1048578]⟩
def gRaO (os:Orc)(ts:List AV)(k d:Int)(xs:List AV)(ka da:Int)(xsa:List AV)(va:Int)(k2 d2:Int)(xs2:List AV)(bad2 pl2 v a:Int):Prop :=
 runF (XQn (((XB.add fXIs (Sp.con [spI 5 false (xHp 0 ts k d xs 0 0),spI 5 false (xHp 0 ts ka da xsa 0 0),spI 6 true (xHp 0 ts ka da xsa 0 0)])).add fXAtom (Sp.con [spV va (xHp 0 ts k d xs 0 0) (xHp 1 ts ka da xsa 0 0),spV v (xHp 0 ts (ka+1) da xsa 0 0) (xHp 1 ts k2 d2 xs2 bad2 pl2)])).add fXAdd (Sp.con [spA (rgV 9 a 0 ByteArray.empty [i0 va,i0 v]) xs2.length (xHp 0 ts k2 d2 xs2 bad2 pl2) (xHp 1 ts k2 d2 (xs2++[(rgV 9 a 0 ByteArray.empty [i0 va,i0 v])]) bad2 pl2)])) fXRang [17,19,50,52,91,93]) 14 fXRang (fn fXRang) (code fXRang) os 0 [1048577] [xArg] (xHp 0 ts k d xs 0 0) ⟨i0 xs2.length,xHp 1 ts k2 d2 (xs2++[(rgV 9 a 0 ByteArray.empty [i0 va,i0 v])]) bad2 pl2,[1048577,1048578]⟩
end
end Go.Proofs.YtpofhijgccocpaaGreatDoor
end
section
namespace Go.Proofs.YtpofhijgccocpaaGreatDoor
open Go Go.AS Go.TP
noncomputable abbrev qVK60 (ts:List AV)(k:Int)(d:Int)(xs:List AV):=[AV.agg [AV.lst false 3 ts,i0 k,i0 d,AV.slc 1048577 [0,0] 0 (List.length xs),i0 (0:Int),i0 (0:Int)]]
noncomputable abbrev qVK61 (ts:List AV)(ka:Int)(da:Int)(xsa:List AV):=[AV.agg [AV.lst false 3 ts,i0 ka,i0 da,AV.slc 1048577 [0,0] 0 (List.length xsa),i0 (0:Int),i0 (0:Int)]]
noncomputable abbrev qVK62:=[AV.ptr 1048578 [1,0] 0 0,i0 (5:Int)]
theorem gRaUN_vc (ts:List AV)(k d:Int)(xs:List AV)(bad' pl':Int):gRaUN (Orc.t (Orc.t Orc.z)) ts k d xs bad' pl'=(let z1:=[AV.agg [AV.lst false 3 ts,i0 k,i0 d,AV.slc 1048577 [0,0] 0 (List.length xs),i0 bad',i0 pl']]; let z2:=eR 1048577 [0,0] 5 xs; let z3:=(qVK60 ts k d xs); let z4:=(xHp 0 ts k d xs (0:Int) (0:Int)); U1 (qVK62) [z2,(1048578,{ id:=[1,0],obj:=AObj.row false 6 z3 })] (Yt ((decide ((0:Int)≤k∧k<(↑(List.length ts):Int))&&(Nat.beq 3 3&&(isShp (Cx.B (cxV (XQn (WX.add (WX.add XB fXIs (Sp.con [spI (5:Int) true z4])) fXDown (Sp.con [spD false z4 (xHp 0 ts k d xs bad' pl')])) fXRang [17,19,50,52,91,93]) 14 fXRang)) shN 124 (List.getD ts (Int.toNat k) (AV.lit (Value.tuple { toList:=[] })))&&(true||false))))=true∧U1 [AV.ptr 1048578 [1,0] 0 0] [z2,(1048578,{ id:=[1,0],obj:=AObj.row false 6 z3 })] (Yt (Wk (i0 (0:Int)) (i0 (0:Int))∧SameH (hpL [z2,(1048578,{ id:=[1,0],obj:=AObj.row false 6 z1 })]) (hpL [z2,(1048578,{ id:=[1,0],obj:=AObj.row false 6 z1 })])))))):=by kernel_rfl
theorem gRaUY_vc (ts:List AV)(k d:Int)(xs:List AV)(k1 k2 d2:Int)(xs2:List AV)(bad2 pl2:Int)(v a:Int):gRaUY (Orc.t (Orc.f Orc.z)) ts k d xs k1 k2 d2 xs2 bad2 pl2 v a=(let z1:=AV.agg [i0 (6:Int),i0 a,i0 (0:Int),s0 ByteArray.empty,AV.lst false 1 [i0 v]]; let z2:=[AV.agg [AV.lst false 3 ts,i0 k2,i0 (d2-(1:Int)),AV.slc 1048577 [0,1] 0 (List.length (xs2++[z1])),i0 bad2,i0 pl2]]; let z3:=[AV.agg [AV.lst false 3 ts,i0 k1,i0 (d+(1:Int)),AV.slc 1048577 [0,0] 0 (List.length xs),i0 (0:Int),i0 (0:Int)]]; let z4:=[AV.agg [AV.lst false 3 ts,i0 k2,i0 (d2-(1:Int)),AV.slc 1048577 [0,0] 0 (List.length xs2),i0 bad2,i0 pl2]]; let z5:=AV.ptr 1048578 [1,0] 0 0; let z6:=eR 1048577 [0,0] 5 xs; let z7:=(xHp 0 ts k1 (d+(1:Int)) xs (0:Int) (0:Int)); let z8:=(↑(List.length xs2):Int); let z9:=(qVK60 ts k d xs); let z10:=(xHp 0 ts k d xs (0:Int) (0:Int)); U1 (qVK62) [z6,(1048578,{ id:=[1,0],obj:=AObj.row false 6 z9 })] (Yt ((decide ((0:Int)≤k∧k<(↑(List.length ts):Int))&&(Nat.beq 3 3&&(isShp (Cx.B (cxV (XQn (WX.add (WX.add (WX.add (WX.add XB fXIs (Sp.con [spI (5:Int) true z10])) fXDown (Sp.con [spD true z10 z7])) fXAtom (Sp.con [spV v z7 (xHp 1 ts k2 d2 xs2 bad2 pl2)])) fXAdd (Sp.con [spA (rgV (6:Int) a (0:Int) ByteArray.empty [i0 v]) z8 (xHp 0 ts k2 (d2-(1:Int)) xs2 bad2 pl2) (xHp 1 ts k2 (d2-(1:Int)) (xs2++[rgV (6:Int) a (0:Int) ByteArray.empty [i0 v]]) bad2 pl2)])) fXRang [17,19,50,52,91,93]) 14 fXRang)) shN 124 (List.getD ts (Int.toNat k) (AV.lit (Value.tuple { toList:=[] })))&&(true||false))))=true∧U1 [z5] [z6,(1048578,{ id:=[1,0],obj:=AObj.row false 6 z9 })] (Nf (U1 [z5] [z6,(1048578,{ id:=[1,0],obj:=AObj.row false 6 z3 })] (inR IntKind.i64 (d2-(1:Int))=true∧∃ (_:Unit),(True∧Wks [z5,AV.agg [i0 (6:Int),i0 (intA (nthA 1 (List.getD ts (Int.toNat k) (AV.lit (Value.tuple { toList:=[] }))))),i0 (0:Int),s0 ⟨⟨[]⟩⟩,AV.lst true 1 [i0 v]]] [z5,z1]∧hpL [eR 1048577 [0,0] 5 xs2,(1048578,{ id:=[1,0],obj:=AObj.row false 6 z4 })]=hpL [eR 1048577 [0,0] 5 xs2,(1048578,{ id:=[1,0],obj:=AObj.row false 6 z4 })])∧Wk (i0 z8) (i0 z8)∧SameH (hpL [eR 1048577 [0,1] 5 (xs2++[z1]),(1048578,{ id:=[1,0],obj:=AObj.row false 6 z2 })]) (hpL [eR 1048577 [0,1] 5 (xs2++[z1]),(1048578,{ id:=[1,0],obj:=AObj.row false 6 z2 })]))))))):=by kernel_rfl
theorem gRaA_vc (ts:List AV)(k d:Int)(xs:List AV)(ka da:Int)(xsa:List AV)(bada pla va:Int):gRaA (Orc.alt 0 (Orc.f (Orc.alt 1 (Orc.f (Orc.alt 2 (Orc.f Orc.z)))))) ts k d xs ka da xsa bada pla va=(let z1:=[AV.agg [AV.lst false 3 ts,i0 ka,i0 da,AV.slc 1048577 [0,0] 0 (List.length xsa),i0 bada,i0 pla]]; let z2:=[AV.agg [AV.lst false 3 ts,i0 ka,i0 da,AV.slc 1048577 [0,1] 0 (List.length xsa),i0 bada,i0 pla]]; let z3:=AV.ptr 1048578 [1,0] 0 0; let z4:=eR 1048577 [0,0] 5 xsa; let z5:=eR 1048577 [0,0] 5 xs; let z6:=(qVK60 ts k d xs); U1 (qVK62) [z5,(1048578,{ id:=[1,0],obj:=AObj.row false 6 z6 })] (Nf (U1 [z3] [z5,(1048578,{ id:=[1,0],obj:=AObj.row false 6 z6 })] (U1 (qVK62) [z4,(1048578,{ id:=[1,0],obj:=AObj.row false 6 z1 })] (Nf (U1 [z3,i0 (6:Int)] [z4,(1048578,{ id:=[1,0],obj:=AObj.row false 6 z1 })] (Nf (Wk (i0 va) (i0 va)∧SameH (hpL [eR 1048577 [0,1] 5 xsa,(1048578,{ id:=[1,0],obj:=AObj.row false 6 z2 })]) (hpL [eR 1048577 [0,1] 5 xsa,(1048578,{ id:=[1,0],obj:=AObj.row false 6 z2 })]))))))))):=by kernel_rfl
theorem gRaDN_vc (ts:List AV)(k d:Int)(xs:List AV)(ka da:Int)(xsa:List AV)(va bad' pl':Int):gRaDN (Orc.alt 0 (Orc.f (Orc.alt 1 (Orc.t (Orc.t Orc.z))))) ts k d xs ka da xsa va bad' pl'=(let z1:=[AV.agg [AV.lst false 3 ts,i0 ka,i0 da,AV.slc 1048577 [0,1] 0 (List.length xsa),i0 bad',i0 pl']]; let z2:=[AV.ptr 1048578 [1,0] 0 0]; let z3:=eR 1048577 [0,0] 5 xsa; let z4:=eR 1048577 [0,0] 5 xs; let z5:=(qVK61 ts ka da xsa); let z6:=(qVK60 ts k d xs); let z7:=(xHp 0 ts ka da xsa (0:Int) (0:Int)); let z8:=(xHp 0 ts k d xs (0:Int) (0:Int)); U1 (qVK62) [z4,(1048578,{ id:=[1,0],obj:=AObj.row false 6 z6 })] (Nf (U1 z2 [z4,(1048578,{ id:=[1,0],obj:=AObj.row false 6 z6 })] (U1 (qVK62) [z3,(1048578,{ id:=[1,0],obj:=AObj.row false 6 z5 })] (Yt ((decide ((0:Int)≤ka∧ka<(↑(List.length ts):Int))&&(Nat.beq 3 3&&(isShp (Cx.B (cxV (XQn (WX.add (WX.add (WX.add XB fXIs (Sp.con [spI (5:Int) false z8,spI (5:Int) true z7])) fXAtom (Sp.con [spV va z8 (xHp 1 ts ka da xsa (0:Int) (0:Int))])) fXDown (Sp.con [spD false z7 (xHp 0 ts ka da xsa bad' pl')])) fXRang [17,19,50,52,91,93]) 14 fXRang)) shN 124 (List.getD ts (Int.toNat ka) (AV.lit (Value.tuple { toList:=[] })))&&(true||false))))=true∧U1 z2 [z3,(1048578,{ id:=[1,0],obj:=AObj.row false 6 z5 })] (Yt (Wk (i0 (0:Int)) (i0 (0:Int))∧SameH (hpL [eR 1048577 [0,1] 5 xsa,(1048578,{ id:=[1,0],obj:=AObj.row false 6 z1 })]) (hpL [eR 1048577 [0,1] 5 xsa,(1048578,{ id:=[1,0],obj:=AObj.row false 6 z1 })]))))))))):=by kernel_rfl
theorem gRaDD_vc (ts:List AV)(k d:Int)(xs:List AV)(ka da:Int)(xsa:List AV)(va k1 a:Int):gRaDD (Orc.alt 0 (Orc.f (Orc.alt 1 (Orc.t (Orc.f (Orc.alt 2 (Orc.f (Orc.f (Orc.alt 3 (Orc.f Orc.z)))))))))) ts k d xs ka da xsa va k1 a=(let z1:=[AV.agg [AV.lst false 3 ts,i0 k1,i0 (da+(1:Int)),AV.slc 1048577 [0,0] 0 (List.length xsa),i0 (0:Int),i0 (0:Int)]]; let z2:=AV.agg [i0 (7:Int),i0 a,i0 (0:Int),s0 ByteArray.empty,AV.lst false 1 [i0 va]]; let z3:=AV.ptr 1048578 [1,0] 0 0; let z4:=eR 1048577 [0,0] 5 xsa; let z5:=[AV.agg [AV.lst false 3 ts,i0 k1,i0 (da+(1:Int)-(1:Int)),AV.slc 1048577 [0,1] 0 (List.length (xsa++[z2])),i0 (0:Int),i0 (0:Int)]]; let z6:=[AV.agg [AV.lst false 3 ts,i0 k1,i0 (da+(1:Int)-(1:Int)),AV.slc 1048577 [0,0] 0 (List.length xsa),i0 (0:Int),i0 (0:Int)]]; let z7:=(xHp 0 ts k1 (da+(1:Int)) xsa (0:Int) (0:Int)); let z8:=eR 1048577 [0,0] 5 xs; let z9:=(qVK61 ts ka da xsa); let z10:=(da+(1:Int)-(1:Int)); let z11:=(↑(List.length xsa):Int); let z12:=(qVK60 ts k d xs); let z13:=(xHp 0 ts ka da xsa (0:Int) (0:Int)); let z14:=(xHp 0 ts k d xs (0:Int) (0:Int)); U1 (qVK62) [z8,(1048578,{ id:=[1,0],obj:=AObj.row false 6 z12 })] (Nf (U1 [z3] [z8,(1048578,{ id:=[1,0],obj:=AObj.row false 6 z12 })] (U1 (qVK62) [z4,(1048578,{ id:=[1,0],obj:=AObj.row false 6 z9 })] (Yt ((decide ((0:Int)≤ka∧ka<(↑(List.length ts):Int))&&(Nat.beq 3 3&&(isShp (Cx.B (cxV (XQn (WX.add (WX.add (WX.add (WX.add XB fXIs (Sp.con [spI (5:Int) false z14,spI (5:Int) true z13,spI (2:Int) false z7,spI (1:Int) false z7])) fXAtom (Sp.con [spV va z14 (xHp 1 ts ka da xsa (0:Int) (0:Int))])) fXDown (Sp.con [spD true z13 z7])) fXAdd (Sp.con [spA (rgV (7:Int) a (0:Int) ByteArray.empty [i0 va]) z11 (xHp 0 ts k1 z10 xsa (0:Int) (0:Int)) (xHp 1 ts k1 z10 (xsa++[rgV (7:Int) a (0:Int) ByteArray.empty [i0 va]]) (0:Int) (0:Int))])) fXRang [17,19,50,52,91,93]) 14 fXRang)) shN 124 (List.getD ts (Int.toNat ka) (AV.lit (Value.tuple { toList:=[] })))&&(true||false))))=true∧U1 [z3] [z4,(1048578,{ id:=[1,0],obj:=AObj.row false 6 z9 })] (Nf (U1 [z3,i0 (2:Int)] [z4,(1048578,{ id:=[1,0],obj:=AObj.row false 6 z1 })] (Nf (Nf (U1 [z3,i0 (1:Int)] [z4,(1048578,{ id:=[1,0],obj:=AObj.row false 6 z1 })] (Nf (inR IntKind.i64 z10=true∧∃ (_:Unit),(True∧Wks [z3,AV.agg [i0 (7:Int),i0 (intA (nthA 1 (List.getD ts (Int.toNat ka) (AV.lit (Value.tuple { toList:=[] }))))),i0 (0:Int),s0 ⟨⟨[]⟩⟩,AV.lst true 1 [i0 va]]] [z3,z2]∧hpL [z4,(1048578,{ id:=[1,0],obj:=AObj.row false 6 z6 })]=hpL [z4,(1048578,{ id:=[1,0],obj:=AObj.row false 6 z6 })])∧Wk (i0 z11) (i0 z11)∧SameH (hpL [eR 1048577 [0,1] 5 (xsa++[z2]),(1048578,{ id:=[1,0],obj:=AObj.row false 6 z5 })]) (hpL [eR 1048577 [0,1] 5 (xsa++[z2]),(1048578,{ id:=[1,0],obj:=AObj.row false 6 z5 })])))))))))))))):=by kernel_rfl
theorem gRaDO_vc (ts:List AV)(k d:Int)(xs:List AV)(ka da:Int)(xsa:List AV)(va k1:Int)(k2 d2:Int)(xs2:List AV)(bad2 pl2:Int)(v a:Int):gRaDO (Orc.alt 0 (Orc.f (Orc.alt 0 (Orc.alt 1 (Orc.t (Orc.f (Orc.alt 2 (Orc.t (Orc.t (Orc.t (Orc.alt 1 Orc.z))))))))))) ts k d xs ka da xsa va k1 k2 d2 xs2 bad2 pl2 v a=(let z1:=[AV.agg [AV.lst false 3 ts,i0 k1,i0 (da+(1:Int)),AV.slc 1048577 [0,0] 0 (List.length xsa),i0 (0:Int),i0 (0:Int)]]; let z2:=AV.agg [i0 (8:Int),i0 a,i0 (0:Int),s0 ByteArray.empty,AV.lst false 1 [i0 va,i0 v]]; let z3:=[AV.agg [AV.lst false 3 ts,i0 ka,i0 da,AV.slc 1048577 [0,0] 0 (List.length xsa),i0 (0:Int),i0 (0:Int)]]; let z4:=[AV.agg [AV.lst false 3 ts,i0 k,i0 d,AV.slc 1048577 [0,0] 0 (List.length xs),i0 (0:Int),i0 (0:Int)]]; let z5:=AV.ptr 1048578 [1,0] 0 0; let z6:=eR 1048577 [0,0] 5 xsa; let z7:=[AV.agg [AV.lst false 3 ts,i0 k2,i0 (d2-(1:Int)),AV.slc 1048577 [0,1] 0 (List.length (xs2++[z2])),i0 bad2,i0 pl2]]; let z8:=[AV.agg [AV.lst false 3 ts,i0 k2,i0 (d2-(1:Int)),AV.slc 1048577 [0,0] 0 (List.length xs2),i0 bad2,i0 pl2]]; let z9:=(xHp 0 ts k1 (da+(1:Int)) xsa (0:Int) (0:Int)); let z10:=eR 1048577 [0,0] 5 xs; let z11:=(↑(List.length xs2):Int); let z12:=[z5,i0 (5:Int)]; let z13:=(xHp 0 ts ka da xsa (0:Int) (0:Int)); let z14:=(xHp 0 ts k d xs (0:Int) (0:Int)); U1 z12 [z10,(1048578,{ id:=[1,0],obj:=AObj.row false 6 z4 })] (Nf (U1 [z5] [z10,(1048578,{ id:=[1,0],obj:=AObj.row false 6 z4 })] (U1 z12 [z6,(1048578,{ id:=[1,0],obj:=AObj.row false 6 z3 })] (Yt ((decide ((0:Int)≤ka∧ka<(↑(List.length ts):Int))&&(Nat.beq 3 3&&(isShp (Cx.B (cxV (XQn (WX.add (WX.add (WX.add (WX.add XB fXIs (Sp.con [spI (5:Int) false z14,spI (5:Int) true z13,spI (2:Int) true z9])) fXAtom (Sp.con [spV va z14 (xHp 1 ts ka da xsa (0:Int) (0:Int)),spV v z9 (xHp 1 ts k2 d2 xs2 bad2 pl2)])) fXDown (Sp.con [spD true z13 z9])) fXAdd (Sp.con [spA (rgV (8:Int) a (0:Int) ByteArray.empty [i0 va,i0 v]) z11 (xHp 0 ts k2 (d2-(1:Int)) xs2 bad2 pl2) (xHp 1 ts k2 (d2-(1:Int)) (xs2++[rgV (8:Int) a (0:Int) ByteArray.empty [i0 va,i0 v]]) bad2 pl2)])) fXRang [17,19,50,52,91,93]) 14 fXRang)) shN 124 (List.getD ts (Int.toNat ka) (AV.lit (Value.tuple { toList:=[] })))&&(true||false))))=true∧U1 [z5] [z6,(1048578,{ id:=[1,0],obj:=AObj.row false 6 z3 })] (Nf (U1 [z5,i0 (2:Int)] [z6,(1048578,{ id:=[1,0],obj:=AObj.row false 6 z1 })] (Yt (Yt (Yt (U1 [z5] [z6,(1048578,{ id:=[1,0],obj:=AObj.row false 6 z1 })] (inR IntKind.i64 (d2-(1:Int))=true∧∃ (_:Unit),(True∧Wks [z5,AV.agg [i0 (8:Int),i0 (intA (nthA 1 (List.getD ts (Int.toNat ka) (AV.lit (Value.tuple { toList:=[] }))))),i0 (0:Int),s0 ⟨⟨[]⟩⟩,AV.lst true 1 [i0 va,i0 v]]] [z5,z2]∧hpL [eR 1048577 [0,0] 5 xs2,(1048578,{ id:=[1,0],obj:=AObj.row false 6 z8 })]=hpL [eR 1048577 [0,0] 5 xs2,(1048578,{ id:=[1,0],obj:=AObj.row false 6 z8 })])∧Wk (i0 z11) (i0 z11)∧SameH (hpL [eR 1048577 [0,1] 5 (xs2++[z2]),(1048578,{ id:=[1,0],obj:=AObj.row false 6 z7 })]) (hpL [eR 1048577 [0,1] 5 (xs2++[z2]),(1048578,{ id:=[1,0],obj:=AObj.row false 6 z7 })])))))))))))))):=by kernel_rfl
theorem gRaDW_vc (ts:List AV)(k d:Int)(xs:List AV)(ka da:Int)(xsa:List AV)(va k1:Int)(k2 d2:Int)(xs2:List AV)(bad2 pl2:Int)(v a:Int):gRaDW (Orc.alt 0 (Orc.f (Orc.alt 0 (Orc.alt 1 (Orc.t (Orc.f (Orc.alt 2 (Orc.f (Orc.f (Orc.alt 3 (Orc.t (Orc.alt 1 Orc.z)))))))))))) ts k d xs ka da xsa va k1 k2 d2 xs2 bad2 pl2 v a=(let z1:=[AV.agg [AV.lst false 3 ts,i0 k1,i0 (da+(1:Int)),AV.slc 1048577 [0,0] 0 (List.length xsa),i0 (0:Int),i0 (0:Int)]]; let z2:=AV.agg [i0 (8:Int),i0 a,i0 (0:Int),s0 ByteArray.empty,AV.lst false 1 [i0 va,i0 v]]; let z3:=[AV.agg [AV.lst false 3 ts,i0 ka,i0 da,AV.slc 1048577 [0,0] 0 (List.length xsa),i0 (0:Int),i0 (0:Int)]]; let z4:=[AV.agg [AV.lst false 3 ts,i0 k,i0 d,AV.slc 1048577 [0,0] 0 (List.length xs),i0 (0:Int),i0 (0:Int)]]; let z5:=AV.ptr 1048578 [1,0] 0 0; let z6:=eR 1048577 [0,0] 5 xsa; let z7:=(xHp 0 ts k1 (da+(1:Int)) xsa (0:Int) (0:Int)); let z8:=[AV.agg [AV.lst false 3 ts,i0 k2,i0 (d2-(1:Int)),AV.slc 1048577 [0,1] 0 (List.length (xs2++[z2])),i0 bad2,i0 pl2]]; let z9:=[AV.agg [AV.lst false 3 ts,i0 k2,i0 (d2-(1:Int)),AV.slc 1048577 [0,0] 0 (List.length xs2),i0 bad2,i0 pl2]]; let z10:=eR 1048577 [0,0] 5 xs; let z11:=(↑(List.length xs2):Int); let z12:=[z5,i0 (5:Int)]; let z13:=(xHp 0 ts ka da xsa (0:Int) (0:Int)); let z14:=(xHp 0 ts k d xs (0:Int) (0:Int)); U1 z12 [z10,(1048578,{ id:=[1,0],obj:=AObj.row false 6 z4 })] (Nf (U1 [z5] [z10,(1048578,{ id:=[1,0],obj:=AObj.row false 6 z4 })] (U1 z12 [z6,(1048578,{ id:=[1,0],obj:=AObj.row false 6 z3 })] (Yt ((decide ((0:Int)≤ka∧ka<(↑(List.length ts):Int))&&(Nat.beq 3 3&&(isShp (Cx.B (cxV (XQn (WX.add (WX.add (WX.add (WX.add XB fXIs (Sp.con [spI (5:Int) false z14,spI (5:Int) true z13,spI (2:Int) false z7,spI (1:Int) true z7])) fXAtom (Sp.con [spV va z14 (xHp 1 ts ka da xsa (0:Int) (0:Int)),spV v z7 (xHp 1 ts k2 d2 xs2 bad2 pl2)])) fXDown (Sp.con [spD true z13 z7])) fXAdd (Sp.con [spA (rgV (8:Int) a (0:Int) ByteArray.empty [i0 va,i0 v]) z11 (xHp 0 ts k2 (d2-(1:Int)) xs2 bad2 pl2) (xHp 1 ts k2 (d2-(1:Int)) (xs2++[rgV (8:Int) a (0:Int) ByteArray.empty [i0 va,i0 v]]) bad2 pl2)])) fXRang [17,19,50,52,91,93]) 14 fXRang)) shN 124 (List.getD ts (Int.toNat ka) (AV.lit (Value.tuple { toList:=[] })))&&(true||false))))=true∧U1 [z5] [z6,(1048578,{ id:=[1,0],obj:=AObj.row false 6 z3 })] (Nf (U1 [z5,i0 (2:Int)] [z6,(1048578,{ id:=[1,0],obj:=AObj.row false 6 z1 })] (Nf (Nf (U1 [z5,i0 (1:Int)] [z6,(1048578,{ id:=[1,0],obj:=AObj.row false 6 z1 })] (Yt (U1 [z5] [z6,(1048578,{ id:=[1,0],obj:=AObj.row false 6 z1 })] (inR IntKind.i64 (d2-(1:Int))=true∧∃ (_:Unit),(True∧Wks [z5,AV.agg [i0 (8:Int),i0 (intA (nthA 1 (List.getD ts (Int.toNat ka) (AV.lit (Value.tuple { toList:=[] }))))),i0 (0:Int),s0 ⟨⟨[]⟩⟩,AV.lst true 1 [i0 va,i0 v]]] [z5,z2]∧hpL [eR 1048577 [0,0] 5 xs2,(1048578,{ id:=[1,0],obj:=AObj.row false 6 z9 })]=hpL [eR 1048577 [0,0] 5 xs2,(1048578,{ id:=[1,0],obj:=AObj.row false 6 z9 })])∧Wk (i0 z11) (i0 z11)∧SameH (hpL [eR 1048577 [0,1] 5 (xs2++[z2]),(1048578,{ id:=[1,0],obj:=AObj.row false 6 z8 })]) (hpL [eR 1048577 [0,1] 5 (xs2++[z2]),(1048578,{ id:=[1,0],obj:=AObj.row false 6 z8 })]))))))))))))))):=by kernel_rfl
theorem gRaO_vc (ts:List AV)(k d:Int)(xs:List AV)(ka da:Int)(xsa:List AV)(va k2 d2:Int)(xs2:List AV)(bad2 pl2:Int)(v a:Int):gRaO (Orc.alt 0 (Orc.f (Orc.alt 0 (Orc.alt 1 (Orc.f (Orc.alt 2 (Orc.t (Orc.alt 1 Orc.z)))))))) ts k d xs ka da xsa va k2 d2 xs2 bad2 pl2 v a=(let z1:=AV.agg [i0 (9:Int),i0 a,i0 (0:Int),s0 ByteArray.empty,AV.lst false 1 [i0 va,i0 v]]; let z2:=AV.ptr 1048578 [1,0] 0 0; let z3:=[AV.agg [AV.lst false 3 ts,i0 (ka+(1:Int)),i0 da,AV.slc 1048577 [0,0] 0 (List.length xsa),i0 (0:Int),i0 (0:Int)]]; let z4:=[AV.agg [AV.lst false 3 ts,i0 k2,i0 d2,AV.slc 1048577 [0,1] 0 (List.length (xs2++[z1])),i0 bad2,i0 pl2]]; let z5:=[AV.agg [AV.lst false 3 ts,i0 k2,i0 d2,AV.slc 1048577 [0,0] 0 (List.length xs2),i0 bad2,i0 pl2]]; let z6:=eR 1048577 [0,0] 5 xsa; let z7:=eR 1048577 [0,0] 5 xs; let z8:=(qVK61 ts ka da xsa); let z9:=(↑(List.length xs2):Int); let z10:=(qVK60 ts k d xs); let z11:=(xHp 0 ts ka da xsa (0:Int) (0:Int)); let z12:=(xHp 0 ts k d xs (0:Int) (0:Int)); U1 (qVK62) [z7,(1048578,{ id:=[1,0],obj:=AObj.row false 6 z10 })] (Nf (U1 [z2] [z7,(1048578,{ id:=[1,0],obj:=AObj.row false 6 z10 })] (U1 (qVK62) [z6,(1048578,{ id:=[1,0],obj:=AObj.row false 6 z8 })] (Nf (U1 [z2,i0 (6:Int)] [z6,(1048578,{ id:=[1,0],obj:=AObj.row false 6 z8 })] (Yt ((decide ((0:Int)≤ka∧ka<(↑(List.length ts):Int))&&(Nat.beq 3 3&&(isShp (Cx.B (cxV (XQn (WX.add (WX.add (WX.add XB fXIs (Sp.con [spI (5:Int) false z12,spI (5:Int) false z11,spI (6:Int) true z11])) fXAtom (Sp.con [spV va z12 (xHp 1 ts ka da xsa (0:Int) (0:Int)),spV v (xHp 0 ts (ka+(1:Int)) da xsa (0:Int) (0:Int)) (xHp 1 ts k2 d2 xs2 bad2 pl2)])) fXAdd (Sp.con [spA (rgV (9:Int) a (0:Int) ByteArray.empty [i0 va,i0 v]) z9 (xHp 0 ts k2 d2 xs2 bad2 pl2) (xHp 1 ts k2 d2 (xs2++[rgV (9:Int) a (0:Int) ByteArray.empty [i0 va,i0 v]]) bad2 pl2)])) fXRang [17,19,50,52,91,93]) 14 fXRang)) shN 124 (List.getD ts (Int.toNat ka) (AV.lit (Value.tuple { toList:=[] })))&&(true||false))))=true∧inR IntKind.i64 (ka+(1:Int))=true∧U1 [z2] [z6,(1048578,{ id:=[1,0],obj:=AObj.row false 6 z3 })] (∃ (_:Unit),(True∧Wks [z2,AV.agg [i0 (9:Int),i0 (intA (nthA 1 (List.getD ts (Int.toNat ka) (AV.lit (Value.tuple { toList:=[] }))))),i0 (0:Int),s0 ⟨⟨[]⟩⟩,AV.lst true 1 [i0 va,i0 v]]] [z2,z1]∧hpL [eR 1048577 [0,0] 5 xs2,(1048578,{ id:=[1,0],obj:=AObj.row false 6 z5 })]=hpL [eR 1048577 [0,0] 5 xs2,(1048578,{ id:=[1,0],obj:=AObj.row false 6 z5 })])∧Wk (i0 z9) (i0 z9)∧SameH (hpL [eR 1048577 [0,1] 5 (xs2++[z1]),(1048578,{ id:=[1,0],obj:=AObj.row false 6 z4 })]) (hpL [eR 1048577 [0,1] 5 (xs2++[z1]),(1048578,{ id:=[1,0],obj:=AObj.row false 6 z4 })])))))))))):=by kernel_rfl
end Go.Proofs.YtpofhijgccocpaaGreatDoor
end
section
namespace Go.Proofs.YtpofhijgccocpaaGreatDoor
open Go Go.AS Go.TP
theorem gPaR_vc (ts:List AV)(k d:Int)(xs:List AV)(k' d':Int)(xs':List AV)(bad' pl' v:Int):gPaR (Orc.t Orc.z) ts k d xs k' d' xs' bad' pl' v=(let z1:=[AV.agg [AV.lst false 3 ts,i0 k,i0 d,AV.slc 1048577 [0,0] 0 (List.length xs),i0 (0:Int),i0 (0:Int)]]; let z2:=[AV.agg [AV.lst false 3 ts,i0 k',i0 d',AV.slc 1048577 [0,1] 0 (List.length xs'),i0 bad',i0 pl']]; let z3:=AV.ptr 1048578 [1,0] 0 0; let z4:=eR 1048577 [0,0] 5 xs; U1 [z3,i0 (10:Int)] [z4,(1048578,{ id:=[1,0],obj:=AObj.row false 6 z1 })] (Yt (U1 [z3] [z4,(1048578,{ id:=[1,0],obj:=AObj.row false 6 z1 })] (Wk (i0 v) (i0 v)∧SameH (hpL [eR 1048577 [0,1] 5 xs',(1048578,{ id:=[1,0],obj:=AObj.row false 6 z2 })]) (hpL [eR 1048577 [0,1] 5 xs',(1048578,{ id:=[1,0],obj:=AObj.row false 6 z2 })]))))):=by kernel_rfl
theorem gPaN_vc (ts:List AV)(k d:Int)(xs:List AV)(bad' pl':Int):gPaN (Orc.f (Orc.t Orc.z)) ts k d xs bad' pl'=(let z1:=[AV.agg [AV.lst false 3 ts,i0 k,i0 d,AV.slc 1048577 [0,0] 0 (List.length xs),i0 (0:Int),i0 (0:Int)]]; let z2:=[AV.agg [AV.lst false 3 ts,i0 k,i0 d,AV.slc 1048577 [0,0] 0 (List.length xs),i0 bad',i0 pl']]; let z3:=eR 1048577 [0,0] 5 xs; let z4:=AV.ptr 1048578 [1,0] 0 0; let z5:=(xHp 0 ts k d xs (0:Int) (0:Int)); U1 [z4,i0 (10:Int)] [z3,(1048578,{ id:=[1,0],obj:=AObj.row false 6 z1 })] (Nf ((decide ((0:Int)≤k∧k<(↑(List.length ts):Int))&&(Nat.beq 3 3&&(isShp (Cx.B (cxV (XQn (WX.add (WX.add XB fXIs (Sp.con [spI (10:Int) true z5])) fXDown (Sp.con [spD false z5 (xHp 0 ts k d xs bad' pl')])) fXPart [17,19]) 14 fXPart)) shN 124 (List.getD ts (Int.toNat k) (AV.lit (Value.tuple { toList:=[] })))&&(true||false))))=true∧U1 [z4] [z3,(1048578,{ id:=[1,0],obj:=AObj.row false 6 z1 })] (Yt (Wk (i0 (0:Int)) (i0 (0:Int))∧SameH (hpL [z3,(1048578,{ id:=[1,0],obj:=AObj.row false 6 z2 })]) (hpL [z3,(1048578,{ id:=[1,0],obj:=AObj.row false 6 z2 })])))))):=by kernel_rfl
theorem gPaY_vc (ts:List AV)(k d:Int)(xs:List AV)(k1 k2 d2:Int)(xs2:List AV)(bad2 pl2:Int)(v a:Int):gPaY (Orc.f (Orc.f Orc.z)) ts k d xs k1 k2 d2 xs2 bad2 pl2 v a=(let z1:=AV.agg [i0 (5:Int),i0 a,i0 (0:Int),s0 ByteArray.empty,AV.lst false 1 [i0 v]]; let z2:=[AV.agg [AV.lst false 3 ts,i0 k,i0 d,AV.slc 1048577 [0,0] 0 (List.length xs),i0 (0:Int),i0 (0:Int)]]; let z3:=AV.ptr 1048578 [1,0] 0 0; let z4:=[AV.agg [AV.lst false 3 ts,i0 k2,i0 (d2-(1:Int)),AV.slc 1048577 [0,1] 0 (List.length (xs2++[z1])),i0 bad2,i0 pl2]]; let z5:=[AV.agg [AV.lst false 3 ts,i0 k1,i0 (d+(1:Int)),AV.slc 1048577 [0,0] 0 (List.length xs),i0 (0:Int),i0 (0:Int)]]; let z6:=[AV.agg [AV.lst false 3 ts,i0 k2,i0 (d2-(1:Int)),AV.slc 1048577 [0,0] 0 (List.length xs2),i0 bad2,i0 pl2]]; let z7:=eR 1048577 [0,0] 5 xs; let z8:=(xHp 0 ts k1 (d+(1:Int)) xs (0:Int) (0:Int)); let z9:=(↑(List.length xs2):Int); let z10:=(xHp 0 ts k d xs (0:Int) (0:Int)); U1 [z3,i0 (10:Int)] [z7,(1048578,{ id:=[1,0],obj:=AObj.row false 6 z2 })] (Nf ((decide ((0:Int)≤k∧k<(↑(List.length ts):Int))&&(Nat.beq 3 3&&(isShp (Cx.B (cxV (XQn (WX.add (WX.add (WX.add (WX.add XB fXIs (Sp.con [spI (10:Int) true z10])) fXDown (Sp.con [spD true z10 z8])) fXPart (Sp.con [spV v z8 (xHp 1 ts k2 d2 xs2 bad2 pl2)])) fXAdd (Sp.con [spA (rgV (5:Int) a (0:Int) ByteArray.empty [i0 v]) z9 (xHp 0 ts k2 (d2-(1:Int)) xs2 bad2 pl2) (xHp 1 ts k2 (d2-(1:Int)) (xs2++[rgV (5:Int) a (0:Int) ByteArray.empty [i0 v]]) bad2 pl2)])) fXPart [17,19]) 14 fXPart)) shN 124 (List.getD ts (Int.toNat k) (AV.lit (Value.tuple { toList:=[] })))&&(true||false))))=true∧U1 [z3] [z7,(1048578,{ id:=[1,0],obj:=AObj.row false 6 z2 })] (Nf (U1 [z3] [z7,(1048578,{ id:=[1,0],obj:=AObj.row false 6 z5 })] (inR IntKind.i64 (d2-(1:Int))=true∧∃ (_:Unit),(True∧Wks [z3,AV.agg [i0 (5:Int),i0 (intA (nthA 1 (List.getD ts (Int.toNat k) (AV.lit (Value.tuple { toList:=[] }))))),i0 (0:Int),s0 ⟨⟨[]⟩⟩,AV.lst true 1 [i0 v]]] [z3,z1]∧hpL [eR 1048577 [0,0] 5 xs2,(1048578,{ id:=[1,0],obj:=AObj.row false 6 z6 })]=hpL [eR 1048577 [0,0] 5 xs2,(1048578,{ id:=[1,0],obj:=AObj.row false 6 z6 })])∧Wk (i0 z9) (i0 z9)∧SameH (hpL [eR 1048577 [0,1] 5 (xs2++[z1]),(1048578,{ id:=[1,0],obj:=AObj.row false 6 z4 })]) (hpL [eR 1048577 [0,1] 5 (xs2++[z1]),(1048578,{ id:=[1,0],obj:=AObj.row false 6 z4 })]))))))):=by kernel_rfl
end Go.Proofs.YtpofhijgccocpaaGreatDoor
end
section
namespace Go.Proofs.YtpofhijgccocpaaGreatDoor
open Go.AS Go.TP
noncomputable section
theorem XInv.of_RI {n:Nat}{all:List Tk}{s t:RS}(h:XInv all s)(hd:s.deep≤24)(g:RI n 0 s t):XInv all t:=by
 have l:=g.len
 have l2:=h.lo
 have d0:=g.d0
 have d1:=g.d1
 have h0:=h.d0
 exact ⟨g.suf.trans h.suf,g.ok,g.bad,by omega,by omega,h.la,by omega⟩
theorem xS_none {all:List Tk}{s:RS}(hb:s.bad=none)(c:Nat):xS c all s=xHp c (all.map encT) ((all.length:Int)-s.ts.length) s.deep (s.out.map xE) 0 0:=by
 unfold xS badE badP; rw [hb]
theorem xRen {f:Nat}{all:List Tk}{t:RS}{ys:List AV}{σ:Hp}{v:Int}{ws:List Nat}(h:FOk Tryz.prog gl0 f (xArg::ys) σ ⟨i0 v,xS 0 all t,ws⟩)(hw:∀ k,k∈ws→k=1048577∨k=1048578) :
  FOk Tryz.prog gl0 f (xArg::ys) σ ⟨i0 v,xS 1 all t,[1048577,1048578]⟩:=by
 have hg:∀ (c k:Nat),aget (xS c all t) k=if k=1048577 then some ⟨[0,c], .row true 5 (t.out.map xE)⟩ else if k=1048578 then some ⟨[1,0], .row false 6 [.agg ([.lst false 3 (all.map encT),i0 ((all.length:Int)-t.ts.length),i0 t.deep] ++ .slc 1048577 [0,c] 0 (t.out.map xE).length::[i0 (badE t),i0 (badP t)])]⟩ else none:=by
  intro c k
  unfold xS xHp
  simp only [hpL]
  rw [aget_aset,aget_aset,aget_nil]; rfl
 refine FOk.ren (l:=1048577) (lp:=1048578) (r:=⟨i0 v,xS 0 all t,ws⟩) (i:=[0,0]) (i':=[0,1]) (ip:=[1,0]) rfl ((hg 0 _).trans (if_pos rfl)) ((hg 0 _).trans ((if_neg (by decide)).trans (if_pos rfl))) ?_ rfl rfl ⟨[0],rfl⟩ (by decide) (by decide) (hg 1) ?_ ?_ ?_ h
 · intro k e hk
   have hk:=(hg 0 k).symm.trans hk
   split at hk
   · exact .inl ‹_›
   · split at hk
     · exact .inr ‹_›
     · cases hk
 · intro k hk
   rcases hw k hk with rfl | rfl <;> decide
 · decide
 · decide
abbrev fLv:Lv→Nat
 | .expr=>fXExpr
 | .term=>fXTerm
 | .part=>fXPart
 | .ranged=>fXRang
 | .atom=>fXAtom
def LvOk (all:List Tk)(f:Nat)(lv:Lv)(s:RS):Prop:=FOk Tryz.prog gl0 (fLv lv) [xArg] (xS 0 all s) ⟨i0 (RP f lv s).1,xS 1 all (RP f lv s).2,[1048577,1048578]⟩
abbrev IH (all:List Tk)(f:Nat):Prop:=∀ (lv:Lv)(s:RS),XInv all s→s.bad=none→s.deep≤24→5*s.ts.length+offL lv≤f→LvOk all f lv s
theorem shpPa (k a:Int)(x:ByteArray):isShp (Cx.B (cxV XB 14 fXPart)) shN 124 (.agg [i0 k,i0 a,s0 x])=true:=by kernel_rfl
attribute [local irreducible] runF in
set_option maxRecDepth 100000 in
theorem xPart_ok {f:Nat}{all:List Tk}(ih:IH all f){s:RS}(h:XInv all s)(hb:s.bad=none)(hd:s.deep≤24)(hf:5*s.ts.length+3≤f+1):LvOk all (f+1) .part s:=by
 unfold LvOk
 obtain ⟨t1,t2,t3⟩:=x_tok h (AV.lit (Value.tuple ⟨[]⟩))
 have hI:=xIs_ok h 10
 rw [xS_none hb] at hI ⊢
 rw [RP]
 cases hi:isR 10 s with
 | false =>
  rw [hi] at hI
  have hr:LvOk all f .ranged s:=ih .ranged s h hb hd (by show _+2≤_; omega)
  unfold LvOk at hr
  rw [xS_none hb] at hr
  simp only [Bool.false_eq_true,if_false]
  have q:gPaR _ _ _ _ _ _ _ _ _ _ _:=(gPaR_vc (all.map encT) ((all.length:Int)-s.ts.length) s.deep (s.out.map xE) ((all.length:Int)-(RP f .ranged s).2.ts.length) (RP f .ranged s).2.deep ((RP f .ranged s).2.out.map xE) (badE (RP f .ranged s).2) (badP (RP f .ranged s).2) (RP f .ranged s).1).mpr
   ⟨(),⟨trivial, .refl _,rfl⟩,rfl,(),⟨trivial, .refl _,rfl⟩, .refl _, .rfl⟩
  have hX:=((XB_ok.add (con1 hI)).add (con1 (f:=fXRang) hr))
  exact fn_ok (d:=14) ((hX.ask askX).askAt fXPart [17,19]) (f:=fXPart) (fn:=fn fXPart) (code:=code fXPart) (fnOk fXPart (by kernel_rfl)) (by kernel_rfl) (by kernel_rfl) q
 | true =>
  rw [hi] at hI
  have hk:(headT s.ts).kind≠11:=by rw [(isR_kind hi).2]; decide
  have hD:=xDown_ok h hk
  simp only [if_true]
  have tok:∀ B:Tb,B=Cx.B (cxV XB 14 fXPart)→(decide ((0:Int)≤(all.length:Int)-s.ts.length∧(all.length:Int)-s.ts.length<((all.map encT).length:Int))&&(Nat.beq 3 3&&(isShp B shN 124 ((all.map encT).getD ((all.length:Int)-s.ts.length).toNat (AV.lit (Value.tuple ⟨[]⟩)))&&(true||false))))=true:=by
   intro B hB
   subst hB
   rw [t1,decide_eq_true ⟨t2,t3⟩]
   show (true&&(true&&(isShp _ shN 124 (.agg [i0 _,i0 _,s0 _])&&(true||false))))=true
   rw [shpPa]; rfl
  by_cases h24:24≤s.deep
  · have e:downR s=(false,failR 16 s):=if_pos h24
    rw [e] at hD ⊢
    simp only [Bool.false_eq_true,if_false]
    rw [xS_none hb] at hD
    have hD':=hD
    rw [xS_fail] at hD'
    have q:gPaN _ _ _ _ _ _ _:=(gPaN_vc (all.map encT) ((all.length:Int)-s.ts.length) s.deep (s.out.map xE) (badE (failR 16 s)) (badP (failR 16 s))).mpr
      ⟨(),⟨trivial, .refl _,rfl⟩,rfl,tok _ rfl,(),⟨trivial, .refl _,rfl⟩,rfl, .refl _, .rfl⟩
    have hX:=((XB_ok.add (con1 hI)).add (con1 (f:=fXDown) hD'))
    have g:=fn_ok (d:=14) ((hX.ask askX).askAt fXPart [17,19]) (f:=fXPart) (fn:=fn fXPart) (code:=code fXPart) (fnOk fXPart (by kernel_rfl)) (by kernel_rfl) (by kernel_rfl) q
    refine xRen (t:=failR 16 s) (v:=0) (ws:=[1048577,1048578]) ?_ (by intro k hk; simpa using hk)
    rw [xS_fail]
    exact g
  · have e:downR s=(true,{ s with deep:=s.deep+1,ts:=takeT s.ts }):=if_neg h24
    rw [e] at hD ⊢
    simp only [if_true]
    have g0:RI 0 0 s s := .refl h.ok h.bad
    have gu:=g0.down hk
    generalize hu:({ s with deep:=s.deep+1,ts:=takeT s.ts }:RS)=u at hD gu ⊢
    have ub:u.bad=none:=by rw [←hu]; exact hb
    have ul:u.ts.length+1=s.ts.length:=by rw [←hu]; exact takeT_len1 h.ok hk
    have ud:u.deep=s.deep+1:=by rw [←hu]
    have uo:u.out=s.out:=by rw [←hu]
    have uI:XInv all u:=by
      have:=h.lo
      have:=h.d0
      exact ⟨gu.suf.trans h.suf,gu.ok,gu.bad,by omega,by omega,h.la,by rw [uo]; omega⟩
    have hp:LvOk all f .part u:=ih .part u uI ub (by omega) (by show _+3≤_; omega)
    have gp:=RP_RI f .part u uI.ok uI.bad
    have gz:RI 1 0 s (upR (RP f .part u).2):=RI.up (k:=0) (gu.trans ub gp)
    unfold LvOk at hp
    rw [xS_none ub] at hp hD
    rw [xS_none hb] at hD
    generalize RP f .part u=q at hp gp gz ⊢
    have zI:XInv all (upR q.2):=h.of_RI hd gz
    have hA:=xAdd_ok zI ⟨5,(headT s.ts).at_,0,ByteArray.empty,[q.1]⟩
    have dq:inR .i64 (q.2.deep-1)=true:=by
      have:=zI.d0; have:=zI.d1
      exact inR_i64 (by show _≤(upR q.2).deep; omega) (by show (upR q.2).deep<_; omega)
    have lm:(q.2.out.map xE).length=q.2.out.length:=List.length_map ..
    have hA' : FOk Tryz.prog gl0 fXAdd (xArg :: [rgV 5 (headT s.ts).at_ 0 ByteArray.empty [i0 (q.1 : Int)]]) (xHp 0 (all.map encT) ((all.length : Int) - q.2.ts.length) (q.2.deep - 1) (q.2.out.map xE) (badE q.2) (badP q.2))
        ⟨i0 ((q.2.out.map xE).length:Int),xHp 1 (all.map encT) ((all.length:Int)-q.2.ts.length) (q.2.deep-1) (q.2.out.map xE++[rgV 5 (headT s.ts).at_ 0 ByteArray.empty [i0 (q.1:Int)]]) (badE q.2) (badP q.2),[1048577,1048578]⟩:=by
      rw [lm]
      have hA2:FOk Tryz.prog gl0 fXAdd (xArg::[rgV 5 (headT s.ts).at_ 0 ByteArray.empty [i0 (q.1:Int)]]) (xHp 0 (all.map encT) ((all.length:Int)-q.2.ts.length) (q.2.deep-1) (q.2.out.map xE) (badE q.2) (badP q.2))
        ⟨i0 (q.2.out.length:Int),xHp 1 (all.map encT) ((all.length:Int)-q.2.ts.length) (q.2.deep-1) ((q.2.out++[(⟨5,(headT s.ts).at_,0,ByteArray.empty,[q.1]⟩:RN)]).map xE) (badE q.2) (badP q.2),[1048577,1048578]⟩:=hA
      rw [List.map_append] at hA2
      exact hA2
    have hD2:FOk Tryz.prog gl0 fXDown [xArg] (xHp 0 (all.map encT) ((all.length:Int)-s.ts.length) s.deep (s.out.map xE) 0 0) ⟨b0 true,xHp 0 (all.map encT) ((all.length:Int)-u.ts.length) (s.deep+1) (s.out.map xE) 0 0,[1048578]⟩:=by
      rw [ud,uo] at hD; exact hD
    have hP2:FOk Tryz.prog gl0 fXPart [xArg] (xHp 0 (all.map encT) ((all.length:Int)-u.ts.length) (s.deep+1) (s.out.map xE) 0 0) ⟨i0 (q.1:Int),xHp 1 (all.map encT) ((all.length:Int)-q.2.ts.length) q.2.deep (q.2.out.map xE) (badE q.2) (badP q.2),[1048577,1048578]⟩:=by
      rw [ud,uo] at hp; exact hp
    have hX:=(((XB_ok.add (con1 hI)).add (con1 (f:=fXDown) hD2)).add (con1 (f:=fXPart) hP2)).add (con1 (f:=fXAdd) hA')
    have z:gPaY _ _ _ _ _ _ _ _ _ _ _ _ _:=(gPaY_vc (all.map encT) ((all.length:Int)-s.ts.length) s.deep (s.out.map xE) ((all.length:Int)-u.ts.length) ((all.length:Int)-q.2.ts.length) q.2.deep (q.2.out.map xE) (badE q.2) (badP q.2) q.1 (headT s.ts).at_).mpr (by
      refine ⟨(),⟨trivial, .refl _,rfl⟩,rfl,tok _ rfl,(),⟨trivial, .refl _,rfl⟩,rfl,(),⟨trivial, .refl _,rfl⟩,dq,(),⟨trivial,?_,rfl⟩, .refl _, .rfl⟩
      rw [t1]
      exact .cons (.refl _) (.cons (.agg (.cons (.refl _) (.cons (.refl _) (.cons (.refl _) (.cons (.refl _) (.cons .lst .nil)))))) .nil))
    have g:=fn_ok (d:=14) ((hX.ask askX).askAt fXPart [17,19]) (f:=fXPart) (fn:=fn fXPart) (code:=code fXPart) (fnOk fXPart (by kernel_rfl)) (by kernel_rfl) (by kernel_rfl) z
    show FOk _ _ _ _ _ ⟨i0 (q.2.out.length:Int),xHp 1 _ ((all.length:Int)-q.2.ts.length) (q.2.deep-1) ((q.2.out++[(⟨5,(headT s.ts).at_,0,ByteArray.empty,[q.1]⟩:RN)]).map xE) (badE q.2) (badP q.2),_⟩
    rw [List.map_append,←lm]
    exact g
end
end Go.Proofs.YtpofhijgccocpaaGreatDoor
end
section
namespace Go.Proofs.YtpofhijgccocpaaGreatDoor
open Go.AS Go.TP
noncomputable section
theorem conC {f:Nat}{ys:List AV}{σ:Hp}{r:Back}{l:List Sp}(h:FOk Tryz.prog gl0 f (xArg::ys) σ r)(k:ConOk Tryz.prog gl0 f (Sp.con l)):ConOk Tryz.prog gl0 f (Sp.con (spX ys σ r::l)):=by
 intro xs' σ' a ha i hp
 rcases List.mem_cons.1 ha with rfl | ha
 · exact con1 h xs' σ' _ (List.mem_singleton.2 rfl) i hp
 · exact k xs' σ' a ha i hp
abbrev xQ (c:Nat)(all:List Tk)(t:RS)(k d:Int):Hp:=xHp c (all.map encT) k d (t.out.map xE) (badE t) (badP t)
abbrev plc (all:List Tk)(t:RS):Int:=(all.length:Int)-t.ts.length
theorem x_tokB {all:List Tk}{s:RS}(h:XInv all s):∀ B:Tb,B=Cx.B (cxV XB 14 fXPart)→(decide ((0:Int)≤plc all s∧plc all s<((all.map encT).length:Int))&&(Nat.beq 3 3&&(isShp B shN 124 ((all.map encT).getD (plc all s).toNat (AV.lit (Value.tuple ⟨[]⟩)))&&(true||false))))=true:=by
 obtain ⟨t1,t2,t3⟩:=x_tok h (AV.lit (Value.tuple ⟨[]⟩))
 intro B hB
 subst hB
 rw [t1,decide_eq_true ⟨t2,t3⟩]
 show (true&&(true&&(isShp _ shN 124 (.agg [i0 _,i0 _,s0 _])&&(true||false))))=true
 rw [shpPa]; rfl
theorem x_addB {all:List Tk}{z:RS}(h:XInv all z)(k a:Int)(ps:List Nat) :
  FOk Tryz.prog gl0 fXAdd (xArg::[rgV k a 0 ByteArray.empty (ps.map fun j:Nat=>i0 (j:Int))]) (xQ 0 all z (plc all z) z.deep)
   ⟨i0 ((z.out.map xE).length:Int),xHp 1 (all.map encT) (plc all z) z.deep (z.out.map xE++[rgV k a 0 ByteArray.empty (ps.map fun j:Nat=>i0 (j:Int))]) (badE z) (badP z),[1048577,1048578]⟩:=by
 have lm:(z.out.map xE).length=z.out.length:=List.length_map ..
 rw [lm]
 have hA2:FOk Tryz.prog gl0 fXAdd (xArg::[rgV k a 0 ByteArray.empty (ps.map fun j:Nat=>i0 (j:Int))]) (xQ 0 all z (plc all z) z.deep)
   ⟨i0 (z.out.length:Int),xHp 1 (all.map encT) (plc all z) z.deep ((z.out++[(⟨k,a,0,ByteArray.empty,ps⟩:RN)]).map xE) (badE z) (badP z),[1048577,1048578]⟩:=xAdd_ok h ⟨k,a,0,ByteArray.empty,ps⟩
 rw [List.map_append] at hA2
 exact hA2
theorem x_last {f:Nat}{all:List Tk}{σ:Hp}(z:RS)(k a:Int)(ps:List Nat)
  (h:FOk Tryz.prog gl0 f [xArg] σ ⟨i0 ((z.out.map xE).length:Int),xHp 1 (all.map encT) (plc all z) z.deep (z.out.map xE++[rgV k a 0 ByteArray.empty (ps.map fun j:Nat=>i0 (j:Int))]) (badE z) (badP z),[1048577,1048578]⟩) :
  FOk Tryz.prog gl0 f [xArg] σ ⟨i0 ((addR ⟨k,a,0,ByteArray.empty,ps⟩ z).1:Int),xS 1 all (addR ⟨k,a,0,ByteArray.empty,ps⟩ z).2,[1048577,1048578]⟩:=by
 show FOk _ _ _ _ _ ⟨i0 (z.out.length:Int),xHp 1 _ (plc all z) z.deep ((z.out++[(⟨k,a,0,ByteArray.empty,ps⟩:RN)]).map xE) (badE z) (badP z),_⟩
 have lm:(z.out.map xE).length=z.out.length:=List.length_map ..
 rw [List.map_append,←lm]
 exact h
theorem x_down {all:List Tk}{s:RS}(h:XInv all s)(hb:s.bad=none)(hk:(headT s.ts).kind≠11)(h24:¬24≤s.deep) :
  ∃ u,downR s=(true,u)∧RI 1 1 s u∧XInv all u∧u.bad=none∧u.deep=s.deep+1∧u.deep≤24∧u.ts.length+1=s.ts.length∧u.out=s.out ∧
   FOk Tryz.prog gl0 fXDown [xArg] (xHp 0 (all.map encT) (plc all s) s.deep (s.out.map xE) 0 0) ⟨b0 true,xHp 0 (all.map encT) (plc all u) (s.deep+1) (s.out.map xE) 0 0,[1048578]⟩:=by
 have hD:=xDown_ok h hk
 have e:downR s=(true,{ s with deep:=s.deep+1,ts:=takeT s.ts }):=if_neg h24
 rw [e,xS_none hb] at hD
 have g0:RI 0 0 s s := .refl h.ok h.bad
 have gu:=g0.down hk
 have:=h.lo
 have:=h.d0
 have ul:=takeT_len1 h.ok hk
 have hD2:=hD
 rw [show xS 0 all (true,({ s with deep:=s.deep+1,ts:=takeT s.ts }:RS)).2=_ from xS_none (s:={ s with deep:=s.deep+1,ts:=takeT s.ts }) hb 0] at hD2
 exact ⟨_,e,gu,⟨gu.suf.trans h.suf,gu.ok,gu.bad,by show 0≤s.deep+1; omega,by show s.deep+1≤26; omega,h.la,by show s.out.length+(takeT s.ts).length≤_; omega⟩,hb,rfl,by show s.deep+1≤24; omega,ul,rfl,hD2⟩
theorem x_downN {all:List Tk}{s:RS}(h:XInv all s)(hb:s.bad=none)(hk:(headT s.ts).kind≠11)(h24:24≤s.deep) :
  downR s=(false,failR 16 s)∧FOk Tryz.prog gl0 fXDown [xArg] (xHp 0 (all.map encT) (plc all s) s.deep (s.out.map xE) 0 0) ⟨b0 false,xHp 0 (all.map encT) (plc all s) s.deep (s.out.map xE) (badE (failR 16 s)) (badP (failR 16 s)),[1048578]⟩:=by
 have e:downR s=(false,failR 16 s):=if_pos h24
 have hD:=xDown_ok h hk
 rw [e,xS_none hb] at hD
 rw [show xS 0 all (false,failR 16 s).2=_ from xS_fail 0 all 16 s] at hD
 exact ⟨e,hD⟩
theorem x_isB {all:List Tk}{s:RS}(h:XInv all s){c:Int}{b:Bool}(hi:isR c s=b):FOk Tryz.prog gl0 fXIs [xArg,i0 c] (xQ 0 all s (plc all s) s.deep) ⟨b0 b,xQ 0 all s (plc all s) s.deep,[]⟩:=by
 have:=xIs_ok h c
 rw [hi] at this; exact this
theorem bad0 {s:RS}(hb:s.bad=none):badE s=0∧badP s=0:=by unfold badE badP; rw [hb]; exact ⟨rfl,rfl⟩
theorem x_isN {all:List Tk}{s:RS}(h:XInv all s)(hb:s.bad=none){c:Int}{b:Bool}(hi:isR c s=b):FOk Tryz.prog gl0 fXIs [xArg,i0 c] (xHp 0 (all.map encT) (plc all s) s.deep (s.out.map xE) 0 0) ⟨b0 b,xHp 0 (all.map encT) (plc all s) s.deep (s.out.map xE) 0 0,[]⟩:=by
 have:=x_isB h hi
 unfold xQ at this
 rw [(bad0 hb).1,(bad0 hb).2] at this; exact this
theorem x_lv {f:Nat}{all:List Tk}{lv:Lv}{s:RS}(hb:s.bad=none)(h:LvOk all f lv s):FOk Tryz.prog gl0 (fLv lv) [xArg] (xHp 0 (all.map encT) (plc all s) s.deep (s.out.map xE) 0 0) ⟨i0 (RP f lv s).1,xQ 1 all (RP f lv s).2 (plc all (RP f lv s).2) (RP f lv s).2.deep,[1048577,1048578]⟩:=by
 unfold LvOk at h
 rw [xS_none hb] at h; exact h
theorem deepI {all:List Tk}{t:RS}(h:XInv all (upR t)):inR .i64 (t.deep-1)=true:=by
 have d0:0≤t.deep-1:=h.d0
 have d1:t.deep-1≤26:=h.d1
 exact inR_i64 (by omega) (by omega)
theorem wk_node (all:List Tk){s:RS}(h:XInv all s)(k:Int)(ps:List AV):Wks [xArg, .agg [i0 k,i0 (intA (nthA 1 ((all.map encT).getD (plc all s).toNat (AV.lit (Value.tuple ⟨[]⟩))))),i0 0,s0 ⟨⟨[]⟩⟩, .lst true 1 ps]] [xArg,rgV k (headT s.ts).at_ 0 ByteArray.empty ps]:=by
 obtain ⟨t1,_,_⟩:=x_tok h (AV.lit (Value.tuple ⟨[]⟩))
 rw [show (all.map encT).getD (plc all s).toNat (AV.lit (Value.tuple ⟨[]⟩))=_ from t1]
 exact .cons (.refl _) (.cons (.agg (.cons (.refl _) (.cons (.refl _) (.cons (.refl _) (.cons (.refl _) (.cons .lst .nil)))))) .nil)
end
end Go.Proofs.YtpofhijgccocpaaGreatDoor
end
section
namespace Go.Proofs.YtpofhijgccocpaaGreatDoor
open Go.AS Go.TP
noncomputable section
attribute [local irreducible] runF in
set_option maxRecDepth 100000 in
theorem xRang_ok {f:Nat}{all:List Tk}(ih:IH all f){s:RS}(h:XInv all s)(hb:s.bad=none)(hd:s.deep≤24)(hf:5*s.ts.length+2≤f+1):LvOk all (f+1) .ranged s:=by
 unfold LvOk
 rw [xS_none hb,RP]
 have fin:∀ {X:WX}(hX:X.Sound)(hp:X.px=X0){os:Orc}{fc:List Nat}{r:Back},runF (XQn X fXRang [17,19,50,52,91,93]) 14 fXRang (fn fXRang) (code fXRang) os 0 fc [xArg] (xHp 0 (all.map encT) (plc all s) s.deep (s.out.map xE) 0 0) r →
   FOk Tryz.prog gl0 fXRang [xArg] (xHp 0 (all.map encT) (plc all s) s.deep (s.out.map xE) 0 0) r:=by
  intro X hX hp os fc r g
  have hP:X.px.P=Tryz.prog:=by rw [hp]; rfl
  have hg:X.px.gl=gl0:=by rw [hp]; rfl
  have:=fn_ok (X:=XQn X fXRang [17,19,50,52,91,93]) (d:=14) ((hX.ask askX).askAt fXRang _) (f:=fXRang) (fn:=fn fXRang) (code:=code fXRang) (by show X.px.P.funcs[fXRang]?=_; rw [hP]; exact fnOk fXRang (by kernel_rfl)) (by kernel_rfl) (by kernel_rfl) g
  rw [←hg,←hP]; exact this
 cases hi:isR 5 s with
 | true =>
  have hk:(headT s.ts).kind≠11:=by rw [(isR_kind hi).2]; decide
  simp only [if_true]
  by_cases h24:24≤s.deep
  · obtain ⟨e,hD⟩:=x_downN h hb hk h24
    rw [e]
    simp only [Bool.false_eq_true,if_false]
    have q:gRaUN _ _ _ _ _ _ _:=(gRaUN_vc (all.map encT) (plc all s) s.deep (s.out.map xE) (badE (failR 16 s)) (badP (failR 16 s))).mpr
      ⟨(),⟨trivial, .refl _,rfl⟩,rfl,x_tokB h _ rfl,(),⟨trivial, .refl _,rfl⟩,rfl, .refl _, .rfl⟩
    have g:=fin ((XB_ok.add (con1 (x_isN h hb hi))).add (con1 (f:=fXDown) hD)) rfl q
    refine xRen (t:=failR 16 s) (v:=0) (ws:=[1048577,1048578]) ?_ (by intro k hk; simpa using hk)
    rw [xS_fail]
    exact g
  · obtain ⟨u,e,gu,uI,ub,ud,ud24,ul,uo,hD⟩:=x_down h hb hk h24
    rw [e]
    simp only [if_true]
    have ha:=x_lv ub (ih .atom u uI ub ud24 (by show _+1≤_; omega))
    have gz:RI 1 0 s (upR (RP f .atom u).2):=RI.up (k:=0) (gu.trans ub (RP_RI f .atom u uI.ok uI.bad))
    rw [ud,uo] at ha
    generalize RP f .atom u=q at ha gz ⊢
    have zI:XInv all (upR q.2):=h.of_RI hd gz
    have z:gRaUY _ _ _ _ _ _ _ _ _ _ _ _ _:=(gRaUY_vc (all.map encT) (plc all s) s.deep (s.out.map xE) (plc all u) (plc all q.2) q.2.deep (q.2.out.map xE) (badE q.2) (badP q.2) q.1 (headT s.ts).at_).mpr
      ⟨(),⟨trivial, .refl _,rfl⟩,rfl,x_tokB h _ rfl,(),⟨trivial, .refl _,rfl⟩,rfl,(),⟨trivial, .refl _,rfl⟩,deepI zI,(),⟨trivial,wk_node all h 6 _,rfl⟩, .refl _, .rfl⟩
    exact x_last (upR q.2) 6 _ [q.1] (fin ((((XB_ok.add (con1 (x_isN h hb hi))).add (con1 (f:=fXDown) hD)).add (con1 (f:=fXAtom) ha)).add (con1 (x_addB zI 6 (headT s.ts).at_ [q.1]))) rfl z)
 | false =>
  simp only [Bool.false_eq_true,if_false]
  have ha:=x_lv hb (ih .atom s h hb hd (by show _+1≤_; omega))
  have ga:=RP_RI f .atom s h.ok h.bad
  generalize hA:RP f .atom s=A at ha ga ⊢
  have AI:XInv all A.2:=h.of_RI hd ga
  have al:A.2.ts.length≤s.ts.length:=ga.suf.length_le
  have hS:=x_isN h hb hi
  cases h5:isR 5 A.2 with
  | false =>
   simp only [Bool.false_eq_true,if_false]
   cases h6:isR 6 A.2 with
   | false =>
    simp only [Bool.false_eq_true,if_false]
    have q:gRaA _ _ _ _ _ _ _ _ _ _ _:=(gRaA_vc (all.map encT) (plc all s) s.deep (s.out.map xE) (plc all A.2) A.2.deep (A.2.out.map xE) (badE A.2) (badP A.2) A.1).mpr
     ⟨(),⟨trivial, .refl _,rfl⟩,rfl,(),⟨trivial, .refl _,rfl⟩,(),⟨trivial, .refl _,rfl⟩,rfl,(),⟨trivial, .refl _,rfl⟩,rfl, .refl _, .rfl⟩
    exact fin ((XB_ok.add (conC hS (conC (x_isB AI h5) (con1 (x_isB AI h6))))).add (con1 (f:=fXAtom) ha)) rfl q
   | true =>
    simp only [if_true]
    have Ab:=(isR_kind h6).1
    have hk:(headT A.2.ts).kind≠11:=by rw [(isR_kind h6).2]; decide
    have gt:=ga.take hk
    have TI:XInv all (takeR A.2):=h.of_RI hd gt
    have Ad:A.2.deep≤24:=by have:=ga.dn Ab; omega
    have tl:(takeR A.2).ts.length+1=A.2.ts.length:=takeT_len1 AI.ok hk
    have hq:=x_lv (s:=takeR A.2) Ab (ih .atom (takeR A.2) TI Ab Ad (by show _+1≤_; omega))
    have gz:RI 1 0 s (RP f .atom (takeR A.2)).2:=gt.trans Ab (RP_RI f .atom _ TI.ok TI.bad)
    rw [show plc all (takeR A.2)=plc all A.2+1 from x_next AI hk] at hq
    generalize RP f .atom (takeR A.2)=q at hq gz ⊢
    have zI:XInv all q.2:=h.of_RI hd gz
    unfold xQ at ha
    rw [(bad0 Ab).1,(bad0 Ab).2] at ha
    have z:gRaO _ _ _ _ _ _ _ _ _ _ _ _ _ _ _ _:=(gRaO_vc (all.map encT) (plc all s) s.deep (s.out.map xE) (plc all A.2) A.2.deep (A.2.out.map xE) A.1 (plc all q.2) q.2.deep (q.2.out.map xE) (badE q.2) (badP q.2) q.1 (headT A.2.ts).at_).mpr
     ⟨(),⟨trivial, .refl _,rfl⟩,rfl,(),⟨trivial, .refl _,rfl⟩,(),⟨trivial, .refl _,rfl⟩,rfl,(),⟨trivial, .refl _,rfl⟩,rfl,x_tokB AI _ rfl,x_in AI,(),⟨trivial, .refl _,rfl⟩,(),⟨trivial,wk_node all AI 9 _,rfl⟩, .refl _, .rfl⟩
    exact x_last q.2 9 _ [A.1,q.1] (fin (((XB_ok.add (conC hS (conC (x_isN AI Ab h5) (con1 (x_isN AI Ab h6))))).add (conC (f:=fXAtom) ha (con1 (f:=fXAtom) hq))).add (con1 (x_addB zI 9 (headT A.2.ts).at_ [A.1,q.1]))) rfl z)
  | true =>
   simp only [if_true]
   have Ab:=(isR_kind h5).1
   have hk:(headT A.2.ts).kind≠11:=by rw [(isR_kind h5).2]; decide
   have Ad:A.2.deep≤24:=by have:=ga.dn Ab; omega
   unfold xQ at ha
   rw [(bad0 Ab).1,(bad0 Ab).2] at ha
   have hI:=x_isN AI Ab h5
   by_cases h24:24≤A.2.deep
   · obtain ⟨e,hD⟩:=x_downN AI Ab hk h24
     rw [e]
     simp only [Bool.false_eq_true,if_false]
     have q:gRaDN _ _ _ _ _ _ _ _ _ _ _:=(gRaDN_vc (all.map encT) (plc all s) s.deep (s.out.map xE) (plc all A.2) A.2.deep (A.2.out.map xE) A.1 (badE (failR 16 A.2)) (badP (failR 16 A.2))).mpr
       ⟨(),⟨trivial, .refl _,rfl⟩,rfl,(),⟨trivial, .refl _,rfl⟩,(),⟨trivial, .refl _,rfl⟩,rfl,x_tokB AI _ rfl,(),⟨trivial, .refl _,rfl⟩,rfl, .refl _, .rfl⟩
     have g:=fin (((XB_ok.add (conC hS (con1 hI))).add (con1 (f:=fXAtom) ha)).add (con1 (f:=fXDown) hD)) rfl q
     show FOk _ _ _ _ _ ⟨i0 0,xS 1 all (failR 16 A.2),_⟩
     rw [xS_fail]
     exact g
   · obtain ⟨u,e,gu,uI,ub,ud,ud24,ul,uo,hD⟩:=x_down AI Ab hk h24
     rw [e]
     simp only [if_true]
     have gsu:RI 1 1 s u:=ga.trans Ab gu
     have hu2:=fun b=>x_isN uI ub (c:=2) (b:=b)
     have hu1:=fun b=>x_isN uI ub (c:=1) (b:=b)
     rw [ud,uo] at hu2 hu1
     by_cases hor:(isR 2 u||isR 1 u)=true
     · simp only [hor,if_true]
       have hq:=x_lv ub (ih .atom u uI ub ud24 (by show _+1≤_; omega))
       have gz:RI 1 0 s (upR (RP f .atom u).2):=RI.up (k:=0) (gsu.trans ub (RP_RI f .atom u uI.ok uI.bad))
       rw [ud,uo] at hq
       generalize RP f .atom u=q at hq gz ⊢
       have zI:XInv all (upR q.2):=h.of_RI hd gz
       have hadd:=con1 (x_addB zI 8 (headT A.2.ts).at_ [A.1,q.1])
       cases h2:isR 2 u with
       | true =>
         have z:gRaDO _ _ _ _ _ _ _ _ _ _ _ _ _ _ _ _ _:=(gRaDO_vc (all.map encT) (plc all s) s.deep (s.out.map xE) (plc all A.2) A.2.deep (A.2.out.map xE) A.1 (plc all u) (plc all q.2) q.2.deep (q.2.out.map xE) (badE q.2) (badP q.2) q.1 (headT A.2.ts).at_).mpr
           ⟨(),⟨trivial, .refl _,rfl⟩,rfl,(),⟨trivial, .refl _,rfl⟩,(),⟨trivial, .refl _,rfl⟩,rfl,x_tokB AI _ rfl,(),⟨trivial, .refl _,rfl⟩,rfl,(),⟨trivial, .refl _,rfl⟩,rfl,rfl,rfl,(),⟨trivial, .refl _,rfl⟩,deepI zI,(),⟨trivial,wk_node all AI 8 _,rfl⟩, .refl _, .rfl⟩
         exact x_last (upR q.2) 8 _ [A.1,q.1] (fin ((((XB_ok.add (conC hS (conC hI (con1 (hu2 true h2))))).add (conC (f:=fXAtom) ha (con1 (f:=fXAtom) hq))).add (con1 (f:=fXDown) hD)).add hadd) rfl z)
       | false =>
         have h1:isR 1 u=true:=by rw [h2] at hor; exact hor
         have z:gRaDW _ _ _ _ _ _ _ _ _ _ _ _ _ _ _ _ _:=(gRaDW_vc (all.map encT) (plc all s) s.deep (s.out.map xE) (plc all A.2) A.2.deep (A.2.out.map xE) A.1 (plc all u) (plc all q.2) q.2.deep (q.2.out.map xE) (badE q.2) (badP q.2) q.1 (headT A.2.ts).at_).mpr
           ⟨(),⟨trivial, .refl _,rfl⟩,rfl,(),⟨trivial, .refl _,rfl⟩,(),⟨trivial, .refl _,rfl⟩,rfl,x_tokB AI _ rfl,(),⟨trivial, .refl _,rfl⟩,rfl,(),⟨trivial, .refl _,rfl⟩,rfl,rfl,(),⟨trivial, .refl _,rfl⟩,rfl,(),⟨trivial, .refl _,rfl⟩,deepI zI,(),⟨trivial,wk_node all AI 8 _,rfl⟩, .refl _, .rfl⟩
         exact x_last (upR q.2) 8 _ [A.1,q.1] (fin ((((XB_ok.add (conC hS (conC hI (conC (hu2 false h2) (con1 (hu1 true h1)))))).add (conC (f:=fXAtom) ha (con1 (f:=fXAtom) hq))).add (con1 (f:=fXDown) hD)).add hadd) rfl z)
     · simp only [hor,if_false]
       have h2:isR 2 u=false:=by cases g:isR 2 u with | false=>rfl | true=>rw [g] at hor; exact absurd rfl hor
       have h1:isR 1 u=false:=by rw [h2] at hor; cases g:isR 1 u with | false=>rfl | true=>rw [g] at hor; exact absurd rfl hor
       have zI:XInv all (upR u):=h.of_RI hd (RI.up (k:=0) gsu)
       have hadd:=x_addB zI 7 (headT A.2.ts).at_ [A.1]
       have eb:=bad0 ub
       have hadd2 : FOk Tryz.prog gl0 fXAdd (xArg :: [rgV 7 (headT A.2.ts).at_ 0 ByteArray.empty [i0 (A.1 : Int)]]) (xHp 0 (all.map encT) (plc all u) (A.2.deep + 1 - 1) (A.2.out.map xE) 0 0)
           ⟨i0 ((A.2.out.map xE).length:Int),xHp 1 (all.map encT) (plc all u) (A.2.deep+1-1) (A.2.out.map xE++[rgV 7 (headT A.2.ts).at_ 0 ByteArray.empty [i0 (A.1:Int)]]) 0 0,[1048577,1048578]⟩:=by
         have hadd':FOk Tryz.prog gl0 fXAdd (xArg::[rgV 7 (headT A.2.ts).at_ 0 ByteArray.empty [i0 (A.1:Int)]]) (xHp 0 (all.map encT) (plc all u) (u.deep-1) (u.out.map xE) (badE u) (badP u))
           ⟨i0 ((u.out.map xE).length:Int),xHp 1 (all.map encT) (plc all u) (u.deep-1) (u.out.map xE++[rgV 7 (headT A.2.ts).at_ 0 ByteArray.empty [i0 (A.1:Int)]]) (badE u) (badP u),[1048577,1048578]⟩:=hadd
         rw [eb.1,eb.2,uo,ud] at hadd'
         exact hadd'
       have z:gRaDD _ _ _ _ _ _ _ _ _ _ _:=(gRaDD_vc (all.map encT) (plc all s) s.deep (s.out.map xE) (plc all A.2) A.2.deep (A.2.out.map xE) A.1 (plc all u) (headT A.2.ts).at_).mpr
         ⟨(),⟨trivial, .refl _,rfl⟩,rfl,(),⟨trivial, .refl _,rfl⟩,(),⟨trivial, .refl _,rfl⟩,rfl,x_tokB AI _ rfl,(),⟨trivial, .refl _,rfl⟩,rfl,(),⟨trivial, .refl _,rfl⟩,rfl,rfl,(),⟨trivial, .refl _,rfl⟩,rfl,by have:=deepI zI; rw [ud] at this; exact this,(),⟨trivial,wk_node all AI 7 _,rfl⟩, .refl _, .rfl⟩
       have g:=fin ((((XB_ok.add (conC hS (conC hI (conC (hu2 false h2) (con1 (hu1 false h1)))))).add (con1 (f:=fXAtom) ha)).add (con1 (f:=fXDown) hD)).add (con1 hadd2)) rfl z
       refine x_last (upR u) 7 _ [A.1] ?_
       show FOk _ _ _ _ _ ⟨i0 ((u.out.map xE).length:Int),xHp 1 _ (plc all u) (u.deep-1) (u.out.map xE++[rgV 7 _ 0 ByteArray.empty [i0 (A.1:Int)]]) (badE u) (badP u),_⟩
       rw [eb.1,eb.2,uo,ud]
       exact g
end
end Go.Proofs.YtpofhijgccocpaaGreatDoor
end
section
namespace Go.Proofs.YtpofhijgccocpaaGreatDoor
open Go.AS Go.TP
noncomputable section
def gArgs (os:Orc)(w:ByteArray)(r:AV):Prop:=gF XB [fXArgs] fXArgs os [s0 w] r
end
end Go.Proofs.YtpofhijgccocpaaGreatDoor
end
section
namespace Go.Proofs.YtpofhijgccocpaaGreatDoor
open Go Go.AS Go.TP
def ogArgs:Orc:=Orc.s (Orc.t Orc.z) (Orc.s (Orc.t Orc.z) (Orc.s Orc.z (Orc.s (Orc.t Orc.z) (Orc.s (Orc.t Orc.z) (Orc.s (Orc.t Orc.z) (Orc.s (Orc.t Orc.z) (Orc.s (Orc.t Orc.z) (Orc.s Orc.z (Orc.s (Orc.t Orc.z) (Orc.s (Orc.t Orc.z) (Orc.s Orc.z Orc.z)))))))))))
theorem gArgs_vc (w:ByteArray)(r:AV):gArgs ogArgs w r=(let z1:=(AV.tup [i0 (1:Int),b0 false]); let z2:=(AV.tup [i0 (0:Int),b0 false]); let z3:=(AV.tup [i0 (1:Int),b0 true]); let z4:=(ByteArray.toList w==ByteArray.toList wChildren); let z5:=(ByteArray.toList w==ByteArray.toList wParents); let z6:=(ByteArray.toList w==ByteArray.toList wMaster); let z7:=(ByteArray.toList w==ByteArray.toList wHeads); let z8:=(ByteArray.toList w==ByteArray.toList wRoots); let z9:=(ByteArray.toList w==ByteArray.toList wFirst); let z10:=(ByteArray.toList w==ByteArray.toList wLimit); let z11:=(ByteArray.toList w==ByteArray.toList wNone); let z12:=(ByteArray.toList w==ByteArray.toList wDesc); let z13:=(ByteArray.toList w==ByteArray.toList wLast); let z14:=(ByteArray.toList w==ByteArray.toList wAll); let z15:=(ByteArray.toList w==ByteArray.toList wAnc); (z14=true→Yt (Wk z2 r∧SameH (hpL []) (hpL [])))∧(z14=false→(z11=true→Yt (Wk z2 r∧SameH (hpL []) (hpL [])))∧(z11=false→(z6=true→Wk z2 r∧SameH (hpL []) (hpL []))∧(z6=false→(z5=true→Yt (Wk z1 r∧SameH (hpL []) (hpL [])))∧(z5=false→(z4=true→Yt (Wk z1 r∧SameH (hpL []) (hpL [])))∧(z4=false→(z15=true→Yt (Wk z1 r∧SameH (hpL []) (hpL [])))∧(z15=false→(z12=true→Yt (Wk z1 r∧SameH (hpL []) (hpL [])))∧(z12=false→(z7=true→Yt (Wk z1 r∧SameH (hpL []) (hpL [])))∧(z7=false→(z8=true→Wk z1 r∧SameH (hpL []) (hpL []))∧(z8=false→(z9=true→Yt (Wk z3 r∧SameH (hpL []) (hpL [])))∧(z9=false→(z13=true→Yt (Wk z3 r∧SameH (hpL []) (hpL [])))∧(z13=false→(z10=true→Wk z3 r∧SameH (hpL []) (hpL []))∧(z10=false→Wk (AV.tup [i0 (-1:Int),b0 false]) r∧SameH (hpL []) (hpL [])))))))))))))):=by kernel_rfl
end Go.Proofs.YtpofhijgccocpaaGreatDoor
end
section
namespace Go.Proofs.YtpofhijgccocpaaGreatDoor
open Go.AS Go.TP
noncomputable section
def argsV (w:ByteArray):AV:=if w=wAll∨w=wNone∨w=wMaster then .tup [i0 0,b0 false] else if w=wParents∨w=wChildren∨w=wAnc∨w=wDesc∨w=wHeads∨w=wRoots then .tup [i0 1,b0 false] else if w=wFirst∨w=wLast∨w=wLimit then .tup [i0 1,b0 true] else .tup [i0 (-1),b0 false]
theorem argsV_eq (w:ByteArray):argsV w=if w=wAll∨w=wNone∨w=wMaster then .tup [i0 0,b0 false] else if w=wParents∨w=wChildren∨w=wAnc∨w=wDesc∨w=wHeads∨w=wRoots then .tup [i0 1,b0 false] else if w=wFirst∨w=wLast∨w=wLimit then .tup [i0 1,b0 true] else .tup [i0 (-1),b0 false]:=rfl
theorem gArgs_ok (w:ByteArray):gArgs ogArgs w (argsV w):=by
 rw [gArgs_vc,argsV_eq,strEq' w wAll,strEq' w wNone,strEq' w wMaster,strEq' w wParents,strEq' w wChildren,strEq' w wAnc,strEq' w wDesc,strEq' w wHeads,strEq' w wRoots,strEq' w wFirst,strEq' w wLast,strEq' w wLimit]
 refine ⟨fun p => ?_,fun n0 => ?_⟩
 · have p:=of_decide_eq_true p; rw [if_pos (.inl p)]; exact ⟨rfl, .refl _, .rfl⟩
 replace n0:=of_decide_eq_false n0
 refine ⟨fun p => ?_,fun n1 => ?_⟩
 · have p:=of_decide_eq_true p; rw [if_pos (.inr (.inl p))]; exact ⟨rfl, .refl _, .rfl⟩
 replace n1:=of_decide_eq_false n1
 refine ⟨fun p => ?_,fun n2 => ?_⟩
 · have p:=of_decide_eq_true p; rw [if_pos (.inr (.inr p))]; exact ⟨.refl _, .rfl⟩
 replace n2:=of_decide_eq_false n2
 refine ⟨fun p => ?_,fun n3 => ?_⟩
 · have p:=of_decide_eq_true p; rw [if_neg (fun q=>q.elim n0 (fun q=>q.elim n1 n2))]; rw [if_pos (.inl p)]; exact ⟨rfl, .refl _, .rfl⟩
 replace n3:=of_decide_eq_false n3
 refine ⟨fun p => ?_,fun n4 => ?_⟩
 · have p:=of_decide_eq_true p; rw [if_neg (fun q=>q.elim n0 (fun q=>q.elim n1 n2))]; rw [if_pos (.inr (.inl p))]; exact ⟨rfl, .refl _, .rfl⟩
 replace n4:=of_decide_eq_false n4
 refine ⟨fun p => ?_,fun n5 => ?_⟩
 · have p:=of_decide_eq_true p; rw [if_neg (fun q=>q.elim n0 (fun q=>q.elim n1 n2))]; rw [if_pos (.inr (.inr (.inl p)))]; exact ⟨rfl, .refl _, .rfl⟩
 replace n5:=of_decide_eq_false n5
 refine ⟨fun p => ?_,fun n6 => ?_⟩
 · have p:=of_decide_eq_true p; rw [if_neg (fun q=>q.elim n0 (fun q=>q.elim n1 n2))]; rw [if_pos (.inr (.inr (.inr (.inl p))))]; exact ⟨rfl, .refl _, .rfl⟩
 replace n6:=of_decide_eq_false n6
 refine ⟨fun p => ?_,fun n7 => ?_⟩
 · have p:=of_decide_eq_true p; rw [if_neg (fun q=>q.elim n0 (fun q=>q.elim n1 n2))]; rw [if_pos (.inr (.inr (.inr (.inr (.inl p)))))]; exact ⟨rfl, .refl _, .rfl⟩
 replace n7:=of_decide_eq_false n7
 refine ⟨fun p => ?_,fun n8 => ?_⟩
 · have p:=of_decide_eq_true p; rw [if_neg (fun q=>q.elim n0 (fun q=>q.elim n1 n2))]; rw [if_pos (.inr (.inr (.inr (.inr (.inr p)))))]; exact ⟨.refl _, .rfl⟩
 replace n8:=of_decide_eq_false n8
 refine ⟨fun p => ?_,fun n9 => ?_⟩
 · have p:=of_decide_eq_true p; rw [if_neg (fun q=>q.elim n0 (fun q=>q.elim n1 n2))]; rw [if_neg (fun q=>q.elim n3 (fun q=>q.elim n4 (fun q=>q.elim n5 (fun q=>q.elim n6 (fun q=>q.elim n7 n8)))))]; rw [if_pos (.inl p)]; exact ⟨rfl, .refl _, .rfl⟩
 replace n9:=of_decide_eq_false n9
 refine ⟨fun p => ?_,fun n10 => ?_⟩
 · have p:=of_decide_eq_true p; rw [if_neg (fun q=>q.elim n0 (fun q=>q.elim n1 n2))]; rw [if_neg (fun q=>q.elim n3 (fun q=>q.elim n4 (fun q=>q.elim n5 (fun q=>q.elim n6 (fun q=>q.elim n7 n8)))))]; rw [if_pos (.inr (.inl p))]; exact ⟨rfl, .refl _, .rfl⟩
 replace n10:=of_decide_eq_false n10
 refine ⟨fun p => ?_,fun n11 => ?_⟩
 · have p:=of_decide_eq_true p; rw [if_neg (fun q=>q.elim n0 (fun q=>q.elim n1 n2))]; rw [if_neg (fun q=>q.elim n3 (fun q=>q.elim n4 (fun q=>q.elim n5 (fun q=>q.elim n6 (fun q=>q.elim n7 n8)))))]; rw [if_pos (.inr (.inr p))]; exact ⟨.refl _, .rfl⟩
 replace n11:=of_decide_eq_false n11
 rw [if_neg (fun q=>q.elim n0 (fun q=>q.elim n1 n2))]; rw [if_neg (fun q=>q.elim n3 (fun q=>q.elim n4 (fun q=>q.elim n5 (fun q=>q.elim n6 (fun q=>q.elim n7 n8)))))]; rw [if_neg (fun q=>q.elim n9 (fun q=>q.elim n10 n11))]; exact ⟨.refl _, .rfl⟩
set_option maxRecDepth 100000 in
theorem args_ok (w:ByteArray):F fXArgs [s0 w] (argsV w):=F_ok XB_ok rfl (by kernel_rfl) (by kernel_rfl) (by kernel_rfl) (gArgs_ok w)
end
end Go.Proofs.YtpofhijgccocpaaGreatDoor
end
section
namespace Go.TP
open Go.AS
def levelK (k:Int):Nat:=if k=2∨k=3 then 0 else if k=4 then 1 else if k=5 then 2 else if k=6∨k=7∨k=8∨k=9 then 3 else 4
def itoaB (n:Int):ByteArray:=⟨(Lib.itoa n).toArray⟩
abbrev Ky:=Int × ByteArray
def sg (k:Int):Ky:=(k,ByteArray.empty)
def wd (t:ByteArray):Ky:=(1,t)
def brK (lv:Nat)(p:Nat × List Ky):List Ky:=if p.1<lv then sg 2::(p.2++[sg 3]) else p.2
def k0 (l:List (Nat × List Ky)):Nat × List Ky:=l.getD 0 (0,[])
def k1 (l:List (Nat × List Ky)):Nat × List Ky:=l.getD 1 (0,[])
def toksK (k n:Int)(t:ByteArray)(l:List (Nat × List Ky)):List Ky :=
 if k=2 then brK 0 (k0 l)++sg 7::brK 1 (k1 l)
 else if k=3 then brK 0 (k0 l)++sg 8::brK 1 (k1 l)
 else if k=4 then brK 1 (k0 l)++sg 9::brK 2 (k1 l)
 else if k=5 then sg 10::brK 2 (k0 l)
 else if k=6 then sg 5::brK 4 (k0 l)
 else if k=7 then brK 4 (k0 l)++[sg 5]
 else if k=8 then brK 4 (k0 l)++sg 5::brK 4 (k1 l)
 else if k=9 then brK 4 (k0 l)++sg 6::brK 4 (k1 l)
 else if k=10 then wd t::sg 2::((if formS t=1 then [] else if formS t=2 then (k0 l).2 else (k0 l).2++[sg 4,wd (itoaB n)])++[sg 3])
 else [wd t]
mutual
def toksS:Nd→List Ky
 | .mk k _ n t ks=>toksK k n t (toksL ks)
def toksL:List Nd→List (Nat × List Ky)
 | []=>[]
 | n::r=>(levelK n.kind,toksS n)::toksL r
end
def atS (n:Nd)(lv:Nat):List Ky:=brK lv (levelK n.kind,toksS n)
def needK (k:Int)(t:ByteArray)(l:List (Nat × Nat)):Nat :=
 let b (lv:Nat)(p:Nat × Nat):Nat:=if p.1<lv then p.2+1 else p.2
 let x:=l.getD 0 (0,0)
 let y:=l.getD 1 (0,0)
 if k=2∨k=3 then max (b 0 x) (b 1 y)
 else if k=4 then max (b 1 x) (b 2 y)
 else if k=5 then b 2 x+1
 else if k=6 then b 4 x+1
 else if k=7 then max (b 4 x) 1
 else if k=8 then max (b 4 x) (b 4 y+1)
 else if k=9 then max (b 4 x) (b 4 y)
 else if k=10 then (if formS t=1 then 1 else x.2+1)
 else 0
mutual
def needS:Nd→Nat
 | .mk k _ _ t ks=>needK k t (needL ks)
def needL:List Nd→List (Nat × Nat)
 | []=>[]
 | n::r=>(levelK n.kind,needS n)::needL r
end
def needA (n:Nd)(lv:Nat):Nat:=if levelK n.kind<lv then needS n+1 else needS n
end Go.TP
end
section
namespace Go.TP
open Go.AS
def key (t:Tk):Ky:=(t.kind,if t.kind=1 then t.text else ByteArray.empty)
theorem map_cons {ts:List Tk}{p:Ky}{ps:List Ky}(h:ts.map key=p::ps):∃ t us,ts=t::us∧key t=p∧us.map key=ps:=by
 cases ts with
 | nil=>cases h
 | cons t us=>exact ⟨t,us,rfl,(List.cons.inj h).1,(List.cons.inj h).2⟩
theorem map_nil {ts:List Tk}(h:ts.map key=[]):ts=[]:=List.map_eq_nil_iff.1 h
def Fol (lv:Nat)(k:Int):Prop:=k=3∨k=4∨k=11∨(1≤lv∧(k=7∨k=8))∨(2≤lv∧k=9)∨(4≤lv∧(k=5∨k=6))
theorem Fol.mono {a b:Nat}{k:Int}(h:Fol a k)(hab:a≤b):Fol b k:=by unfold Fol at *; omega
def LV:Nat→Lv
 | 0 => .expr
 | 1 => .term
 | 2 => .part
 | 3 => .ranged
 | _ => .atom
def Good (n:Nd)(lv:Nat):Prop:=∀ (ts rest:List Tk)(d:Int)(f:Nat),ts.map key=atS n lv→rest≠[]→Fol lv (headT rest).kind→d+needA n lv≤24→5*(ts.length+rest.length)+(5-lv)≤f→∃ m,sameS n m=true∧PF f (LV lv) d (ts++rest)=⟨m,none,rest⟩
def GE (n:Nd):Prop:=∀ (ts rest:List Tk)(d:Int)(f k:Nat),ts.map key=atS n 0→rest≠[]→Fol 1 (headT rest).kind→d+needA n 0≤24→5*(ts.length+rest.length)+4≤f→ts.length≤k →
 ∃ m k',sameS n m=true∧k≤k'+ts.length∧chainS (PF f .term d) kmE k (PF f .term d (ts++rest))=chainS (PF f .term d) kmE k' ⟨m,none,rest⟩
def GT (n:Nd):Prop:=∀ (ts rest:List Tk)(d:Int)(f k:Nat),ts.map key=atS n 1→rest≠[]→Fol 2 (headT rest).kind→d+needA n 1≤24→5*(ts.length+rest.length)+3≤f→ts.length≤k →
 ∃ m k',sameS n m=true∧k≤k'+ts.length∧chainS (PF f .part d) kmT k (PF f .part d (ts++rest))=chainS (PF f .part d) kmT k' ⟨m,none,rest⟩
theorem at_tight {n:Nd}{lv:Nat}(h:¬levelK n.kind<lv):atS n lv=toksS n:=if_neg h
theorem at_loose {n:Nd}{lv:Nat}(h:levelK n.kind<lv):atS n lv=sg 2::(toksS n++[sg 3]):=if_pos h
theorem need_tight {n:Nd}{lv:Nat}(h:¬levelK n.kind<lv):needA n lv=needS n:=if_neg h
theorem need_loose {n:Nd}{lv:Nat}(h:levelK n.kind<lv):needA n lv=needS n+1:=if_pos h
theorem at_succ {n:Nd}{lv:Nat}(h:levelK n.kind≠lv):atS n (lv+1)=atS n lv∧needA n (lv+1)=needA n lv:=by
 by_cases g:levelK n.kind<lv
 · rw [at_loose g,at_loose (by omega),need_loose g,need_loose (by omega)]; exact ⟨rfl,rfl⟩
 · rw [at_tight g,at_tight (by omega),need_tight g,need_tight (by omega)]; exact ⟨rfl,rfl⟩
theorem chain_stop {part:List Tk→R}{km:Int→Int}{rest:List Tk}(h:km (headT rest).kind=0):∀ (k:Nat)(m:Nd),chainS part km k ⟨m,none,rest⟩=⟨m,none,rest⟩
 | 0,m=>by rw [chainS]
 | k+1,m=>by rw [chainS,if_neg (fun c=>c.2 h)]
theorem kmE_fol {k:Int}(h:Fol 0 k):kmE k=0:=by unfold Fol at h; unfold kmE; rw [if_neg (by omega),if_neg (by omega)]
theorem E0 {n:Nd}(h:GE n):Good n 0:=by
 intro ts rest d f hk hr hf hd hfu
 cases f with
 | zero=>omega
 | succ f =>
  show ∃ m,sameS n m=true∧PF (f+1) .expr d (ts++rest)=_
  obtain ⟨m,k',h1,_,h2⟩:=h ts rest d f f hk hr (hf.mono (by omega)) hd (by omega) (by omega)
  exact ⟨m,h1,by rw [PF,h2,chain_stop (kmE_fol hf)]⟩
def Hd (n:Nd):Prop:=(∃ p r,atS n 4=p::r∧(p.1=1∨p.1=2))∧∃ p r,atS n 3=p::r∧(p.1=1∨p.1=2∨p.1=5)
theorem P3 {n:Nd}(hl:levelK n.kind≠3)(hh:Hd n)(h:Good n 4):Good n 3:=by
 intro ts rest d f hk hr hf hd hfu
 obtain ⟨e1,e2⟩:=at_succ hl
 obtain ⟨p,r,hp,hp1⟩:=hh.1
 cases f with
 | zero=>omega
 | succ f =>
  obtain ⟨m,h1,h2⟩:=h ts rest d f (by rw [e1]; exact hk) hr (hf.mono (by omega)) (by rw [e2]; exact hd) (by omega)
  have h2:PF f .atom d (ts++rest)=_:=h2
  refine ⟨m,h1,?_⟩
  show PF (f+1) .ranged d (ts++rest)=_
  rw [←e1,hp] at hk
  obtain ⟨t,us,rfl,ht,hus⟩:=map_cons hk
  have ht:t.kind=p.1:=by rw [←ht]; rfl
  obtain ⟨k,a,x⟩:=t
  have ht:k=p.1:=ht
  rw [List.cons_append] at h2 ⊢
  rw [PF_ranged,if_neg (by omega)]
  simp only [h2,ne_eq,not_true_eq_false,if_false]
  unfold Fol at hf
  rw [if_neg (by omega),if_neg (by omega)]
theorem P2 {n:Nd}(hl:levelK n.kind≠2)(hh:Hd n)(h:Good n 3):Good n 2:=by
 intro ts rest d f hk hr hf hd hfu
 obtain ⟨e1,e2⟩:=at_succ hl
 obtain ⟨p,r,hp,hp1⟩:=hh.2
 cases f with
 | zero=>omega
 | succ f =>
  obtain ⟨m,h1,h2⟩:=h ts rest d f (by rw [e1]; exact hk) hr (by unfold Fol at *; omega) (by rw [e2]; exact hd) (by omega)
  have h2:PF f .ranged d (ts++rest)=_:=h2
  refine ⟨m,h1,?_⟩
  show PF (f+1) .part d (ts++rest)=_
  rw [←e1,hp] at hk
  obtain ⟨t,us,rfl,ht,hus⟩:=map_cons hk
  have ht:t.kind=p.1:=by rw [←ht]; rfl
  obtain ⟨k,a,x⟩:=t
  have ht:k=p.1:=ht
  rw [List.cons_append] at h2 ⊢
  rw [PF_part,if_pos (by omega),h2]
structure All (n:Nd):Prop where
 g0:Good n 0
 g1:Good n 1
 g2:Good n 2
 g3:Good n 3
 g4:Good n 4
 ge:GE n
 gt:GT n
end Go.TP
end
section
namespace Go.TP
open Go.AS
end Go.TP
end
section
namespace Go.TP
open Go.AS
def wK (p:Ky):Nat:=if p.1=1 then p.2.size else if p.1=5∨p.1=6 then 2 else if p.1=11 then 0 else 1
def wtK:List Ky→Nat
 | []=>0
 | p::r=>wK p+wtK r
theorem wtK_app:∀ (a b:List Ky),wtK (a++b)=wtK a+wtK b
 | [],b=>by rw [wtK,List.nil_append]; omega
 | p::a,b=>by rw [List.cons_append,wtK,wtK,wtK_app a b]; omega
def wtT (ts:List Tk):Nat:=wtK (ts.map key)
def lenA (n:Nd)(lv:Nat):Nat:=wtK (atS n lv)
theorem need_mono {n:Nd}{a b:Nat}(h:a≤b):needA n a≤needA n b:=by
 unfold needA; split <;> split <;> omega
theorem len_mono {n:Nd}{a b:Nat}(h:a≤b):lenA n a≤lenA n b:=by
 unfold lenA
 by_cases g:levelK n.kind<a
 · rw [at_loose g,at_loose (by omega)]; exact Nat.le_refl _
 · rw [at_tight g]
   by_cases g2:levelK n.kind<b
   · rw [at_loose g2,wtK,wtK_app]; omega
   · rw [at_tight g2]; exact Nat.le_refl _
def Bd (lv:Nat)(d:Int)(W:Nat)(r:R):Prop:=r.e=none→d+needA r.n lv≤24∧lenA r.n lv+wtT r.ts≤W
theorem Bd.down {a b:Nat}{d:Int}{W:Nat}{r:R}(h:Bd b d W r)(hab:a≤b):Bd a d W r:=fun he=>by
 obtain ⟨h1,h2⟩:=h he
 have:=need_mono (n:=r.n) hab
 have:=len_mono (n:=r.n) hab
 exact ⟨by omega,by omega⟩
end Go.TP
end
section
namespace Go.TP
open Go.AS
end Go.TP
end
section
namespace Go.TP
open Go.AS
theorem byteAt_right (a b:ByteArray)(i:Nat):byteAt (a++b) (a.size+i)=byteAt b i:=by
 unfold byteAt
 congr 1
 rw [ByteArray.data_append,Array.getD_eq_getD_getElem?,Array.getD_eq_getD_getElem?,Array.getElem?_append_right (by show a.data.size≤a.size+i; exact Nat.le_add_right _ _)]
 congr 2
 show a.size+i-a.data.size=i
 have:a.data.size=a.size:=rfl
 omega
theorem byteAt_left (a b:ByteArray)(i:Nat)(h:i<a.size):byteAt (a++b) i=byteAt a i:=by
 unfold byteAt
 congr 1
 rw [ByteArray.data_append,Array.getD_eq_getD_getElem?,Array.getD_eq_getD_getElem?,Array.getElem?_append_left h]
theorem wordS_no {s:ByteArray}(h:letterN (byteAt s 0)=false):wordS s=0:=by
 unfold wordS
 cases hs:s.size with
 | zero=>rfl
 | succ n =>
  rw [wordG,if_neg]
  rintro ⟨_,g⟩
  rw [show (0:Int).toNat=0 from rfl,h] at g; cases g
structure TokOk (k:Int)(t u:ByteArray):Prop where
 pos:0<t.size
 bl:blankN (byteAt t 0)=false
 one:oneS (t++u)=(k,(t.size:Int))
 ne:k≠0
inductive Pc where
 | bl (b:UInt8)
 | tk (k:Int)(t:ByteArray)
def catP:List Pc→ByteArray
 | []=>ByteArray.empty
 | .bl b::r=>⟨#[b]⟩++catP r
 | .tk _ t::r=>t++catP r
def keysP:List Pc→List Ky
 | []=>[]
 | .bl _::r=>keysP r
 | .tk k t::r=>(k,if k=1 then t else ByteArray.empty)::keysP r
def LexOk:List Pc→Prop
 | []=>True
 | .bl b::r=>blankN b.toNat=true∧LexOk r
 | .tk k t::r=>TokOk k t (catP r)∧LexOk r
theorem lexG_ok:∀ (ps:List Pc)(pre:ByteArray)(f:Nat)(out:List Tk),LexOk ps→(catP ps).size≤f→∃ us,lexG (pre++catP ps) f pre.size out=(none,out++us)∧us.map key=keysP ps
 | [],pre,f,out,_,hf=>by
  refine ⟨[],?_,rfl⟩
  have e:pre++catP []=pre:=ByteArray.append_empty
  rw [e,List.append_nil]
  cases f with
  | zero=>rw [lexG]
  | succ f=>rw [lexG,if_neg (by omega)]
 | .bl b::r,pre,f,out,h,hf=>by
  have e1:(catP (.bl b::r)).size=1+(catP r).size:=by rw [catP,ByteArray.size_append]; rfl
  cases f with
  | zero=>omega
  | succ f =>
   have e2:pre++catP (.bl b::r)=(pre++⟨#[b]⟩)++catP r:=by rw [catP,ByteArray.append_assoc]
   have e3:byteAt (pre++catP (.bl b::r)) ((pre.size:Nat):Int).toNat=b.toNat:=by
    rw [show ((pre.size:Nat):Int).toNat=pre.size+0 from rfl,byteAt_right,catP,byteAt_left _ _ _ (show 0<1 from Nat.one_pos)]; rfl
   obtain ⟨us,h1,h2⟩:=lexG_ok r (pre++⟨#[b]⟩) f out h.2 (by omega)
   refine ⟨us,?_,h2⟩
   have e4:(((pre++⟨#[b]⟩:ByteArray).size:Nat):Int)=(pre.size:Int)+1:=by rw [ByteArray.size_append]; rfl
   rw [lexG,if_pos (by rw [ByteArray.size_append]; omega),e3,if_pos h.1,←e4,e2]
   exact h1
 | .tk k t::r,pre,f,out,h,hf=>by
  have e1:(catP (.tk k t::r)).size=t.size+(catP r).size:=by rw [catP,ByteArray.size_append]
  have hp:=h.1.pos
  cases f with
  | zero=>omega
  | succ f =>
   have e2:pre++catP (.tk k t::r)=(pre++t)++catP r:=by rw [catP,ByteArray.append_assoc]
   have e3:byteAt (pre++catP (.tk k t::r)) ((pre.size:Nat):Int).toNat=byteAt t 0:=by
    rw [show ((pre.size:Nat):Int).toNat=pre.size+0 from rfl,byteAt_right,catP,byteAt_left _ _ _ hp]
   have e4:(pre++catP (.tk k t::r)).extract ((pre.size:Nat):Int).toNat (pre++catP (.tk k t::r)).size=t++catP r:=by
    have:=ByteArray.extract_append_eq_right (a:=pre) (b:=catP (.tk k t::r)) (i:=pre.size) (j:=pre.size+(catP (.tk k t::r)).size) rfl rfl
    rw [ByteArray.size_append]; exact this
   have e5:(((pre++t:ByteArray).size:Nat):Int)=(pre.size:Int)+(t.size:Int):=by rw [ByteArray.size_append]; omega
   have e6:(pre++catP (.tk k t::r)).extract ((pre.size:Nat):Int).toNat ((pre.size:Int)+(t.size:Int)).toNat=t:=by
    rw [show ((pre.size:Int)+(t.size:Int)).toNat=pre.size+t.size by omega,show ((pre.size:Nat):Int).toNat=pre.size+0 from rfl,catP,ByteArray.extract_append_size_add]
    exact ByteArray.extract_append_eq_left rfl
   obtain ⟨us,h1,h2⟩:=lexG_ok r (pre++t) f (out++[⟨k,pre.size,t⟩]) h.2 (by omega)
   refine ⟨⟨k,pre.size,t⟩::us,?_,by rw [List.map_cons,h2]; rfl⟩
   rw [lexG,if_pos (by rw [ByteArray.size_append]; omega),e3,if_neg (by rw [h.1.bl]; decide)]
   simp only [e4,h.1.one]
   rw [if_neg h.1.ne,e6,←e5,e2,h1,List.append_assoc]; rfl
end Go.TP
end
section
namespace Go.TP
open Go.AS
theorem rest_byte (s:ByteArray)(i n:Nat)(h:i+n<s.size):byteAt (s.extract i s.size) n=byteAt s (i+n):=by
 unfold byteAt
 have h1:(s.extract i s.size).data=s.data.extract i s.size:=ByteArray.data_extract
 have hs:s.data.size=s.size:=rfl
 rw [h1,Array.getD_eq_getD_getElem?,Array.getD_eq_getD_getElem?,Array.getElem?_eq_getElem (by rw [Array.size_extract]; omega),Array.getElem?_eq_getElem (by omega),Array.getElem_extract]
theorem ext_ext (s:ByteArray)(i j:Nat)(h:i+j≤s.size):(s.extract i s.size).extract 0 j=s.extract i (i+j):=by
 rw [ByteArray.extract_extract]; congr 1 <;> omega
theorem two_bytes (s:ByteArray)(a b:UInt8)(p:ByteArray)(hp:p=⟨#[a,b]⟩):hasP s p=(decide (1<s.size)&&(decide (byteAt s 0=a.toNat)&&decide (byteAt s 1=b.toNat))):=by
 subst hp
 unfold hasP
 show (decide (2≤s.size)&&decide (s.extract 0 2=_))=_
 by_cases h:1<s.size
 · rw [decide_eq_true (show 2≤s.size by omega),decide_eq_true h,Bool.true_and,Bool.true_and]
   have hs:s.data.size=s.size:=rfl
   have b0:byteAt s 0=(s.data[0]'(by omega)).toNat:=by unfold byteAt; rw [Array.getD_eq_getD_getElem?,Array.getElem?_eq_getElem (by omega)]; rfl
   have b1:byteAt s 1=(s.data[1]'(by omega)).toNat:=by unfold byteAt; rw [Array.getD_eq_getD_getElem?,Array.getElem?_eq_getElem (by omega)]; rfl
   have e:(s.extract 0 2=(⟨#[a,b]⟩:ByteArray))↔(byteAt s 0=a.toNat∧byteAt s 1=b.toNat):=by
     have hd:(s.extract 0 2).data=s.data.extract 0 2:=ByteArray.data_extract
     constructor
     · intro h2
       have h3:s.data.extract 0 2 = #[a,b]:=by rw [←hd,h2]
       have g0:(s.data.extract 0 2)[0]?=some a:=by rw [h3]; rfl
       have g1:(s.data.extract 0 2)[1]?=some b:=by rw [h3]; rfl
       rw [Array.getElem?_eq_getElem (by rw [Array.size_extract]; omega),Array.getElem_extract] at g0 g1
       have g0:=Option.some.inj g0
       have g1:=Option.some.inj g1
       exact ⟨by rw [b0]; exact congrArg UInt8.toNat g0,by rw [b1]; exact congrArg UInt8.toNat g1⟩
     · rintro ⟨h1,h2⟩
       apply ByteArray.ext
       rw [hd]
       apply Array.ext
       · rw [Array.size_extract]; show _=2; omega
       · intro j hj _
         rw [Array.size_extract] at hj
         rw [Array.getElem_extract]
         match j,hj with
         | 0,_=>exact UInt8.toNat_inj.1 (b0.symm.trans h1)
         | 1,_=>exact UInt8.toNat_inj.1 (b1.symm.trans h2)
         | j+2,hj=>omega
   rw [show decide (s.extract 0 2=(⟨#[a,b]⟩:ByteArray))=decide (byteAt s 0=a.toNat∧byteAt s 1=b.toNat) from decide_eq_decide.2 e,Bool.decide_and]
 · rw [decide_eq_false (show ¬2≤s.size by omega),decide_eq_false h]; rfl
theorem wordG_more (s:ByteArray):∀ (f g:Nat)(n:Int),s.size-n≤f→s.size-n≤g→wordG s f n=wordG s g n
 | 0,0,n,_,_=>rfl
 | 0,g+1,n,h,_=>by rw [wordG,wordG,if_neg (by omega)]
 | f+1,0,n,_,h=>by rw [wordG,wordG,if_neg (by omega)]
 | f+1,g+1,n,h1,h2=>by
  rw [wordG,wordG,wordG_more s f g (n+1) (by omega) (by omega)]
theorem wordS_yes {s:ByteArray}(h0:0<s.size)(h:letterN (byteAt s 0)=true):wordS s=wordG s s.size 1∧0<wordS s:=by
 have e:wordS s=wordG s s.size 1:=by
  unfold wordS
  cases hs:s.size with
  | zero=>omega
  | succ m =>
   rw [wordG,if_pos ⟨by rw [hs]; omega,h⟩]
   show wordG s m 1=wordG s (m+1) 1
   exact wordG_more s m (m+1) 1 (by omega) (by omega)
 refine ⟨e,?_⟩
 have:∀ (f:Nat)(n:Int),n≤wordG s f n:=by
  intro f
  induction f with
  | zero=>intro n; exact Int.le_refl _
  | succ f ih =>
   intro n; rw [wordG]
   split
   · have:=ih (n+1); omega
   · exact Int.le_refl _
 have:=this s.size 1
 omega
def numN (x:ByteArray):Int:=if x.data.toList.all isDigB=true∧0<x.size∧x.size≤6 then numB x.data.toList else -1
theorem numB_nn:∀ (l:List UInt8)(a:Int),0≤a→l.all isDigB=true→0≤l.foldl (fun a c=>10*a+(c.toNat-48:Int)) a
 | [],a,h,_=>h
 | c::l,a,h,hl=>by
  rw [List.all_cons,Bool.and_eq_true] at hl
  have h1:(48≤c&&c≤57)=true:=hl.1
  rw [Bool.and_eq_true,decide_eq_true_iff] at h1
  have h2:48≤c.toNat:=h1.1
  exact numB_nn l (10*a+(c.toNat-48)) (by omega) hl.2
theorem numberS_num (t:Tk):numberS t=if t.kind=1 then (if 0≤numN t.text then some (numN t.text) else none) else none:=by
 unfold numberS numN
 by_cases hk:t.kind=1
 · rw [if_pos hk]
   by_cases h:t.text.data.toList.all isDigB=true∧0<t.text.size∧t.text.size≤6
   · rw [if_pos ⟨hk,h⟩,if_pos h,if_pos (show 0≤numB t.text.data.toList from numB_nn _ 0 (Int.le_refl _) h.1)]
   · rw [if_neg (fun q=>h q.2),if_neg h,if_neg (by decide)]
 · rw [if_neg (fun q=>hk q.1),if_neg hk]
end Go.TP
end
section
namespace Go.Proofs.YtpofhijgccocpaaGreatDoor
open Go.AS Go.TP
noncomputable section
def fXDigit:Nat:=157
theorem xdigit_ok {c:Nat}(hc:c<256):F fXDigit [c0 c] (i0 (digitI c)) :=
 isI_F (n:=100) (all256 (p:=fun c=>isI (S X0 100 fXDigit [c0 c] 1 .nil []) (digitI c)) (by kernel_rfl) hc)
theorem wordByte_ok {c:Nat}(hc:c<256):F fXWordB [c0 c] (b0 (letterN c)) :=
 isB_F (n:=100) (all256 (p:=fun c=>isB (S X0 100 fXWordB [c0 c] 1 .nil []) (letterN c)) (by kernel_rfl) hc)
def spXDigit:Sp := .pure Nat (fun c=>c<256) (fun c=>[c0 c]) (fun c=>i0 (digitI c))
def spXWord:Sp := .pure Nat (fun c=>c<256) (fun c=>[c0 c]) (fun c=>b0 (letterN c))
def XJ:WX:=(XB.add fXDigit (Sp.con [spXDigit])).add fXWordB (Sp.con [spXWord])
theorem XJ_ok:XJ.Sound:=(XB_ok.add (conOk (s:=spXDigit) fun _ h=>xdigit_ok h)).add (conOk (s:=spXWord) fun _ h=>wordByte_ok h)
def jOuts:Ex→List Nat
 | .ret=>[2]
 | _=>[0]
abbrev lpJP (P:Prop)(x:ByteArray)(i:Int)(r:Ex × Back):Lp:=Lp1 [0,3] [] jOuts P [s0 x,i0 i] .nil r
abbrev jEnd (x:ByteArray):Ex × Back:=(.exit 0,⟨.tup [s0 x], .nil,[]⟩)
abbrev jBad:Ex × Back:=(.ret,⟨.tup [b0 false], .nil,[]⟩)
def rJP (os:Orc)(P:Prop)(x:ByteArray)(i:Int)(r r':Ex × Back):Prop:=runL (XJ.ask [fXIsPre]) 8 fXIsPre (fn fXIsPre).ntmps (loopAt (code fXIsPre) 0) (lpJP P x (i+1) r') (lpJP P x (i+1) r') os 0 [] [s0 x,i0 i] .nil r
def rJPE (os:Orc)(P:Prop)(x:ByteArray)(i:Int):Prop:=rJP os P x i (jEnd x) (jEnd x)
def rJPX (os:Orc)(P:Prop)(x:ByteArray)(i:Int):Prop:=rJP os P x i jBad jBad
def rJPA (os:Orc)(P:Prop)(x:ByteArray)(i:Int):Prop:=rJP os P x i (jEnd x) (jEnd x)
def rJPB (os:Orc)(P:Prop)(x:ByteArray)(i:Int):Prop:=rJP os P x i jBad jBad
def gJP (os:Orc)(x:ByteArray)(q:Ex × Back)(b:Bool):Prop:=runF ((XJ.addLp fXIsPre 0 (lpJP True x 0 q)).ask [fXIsPre]) 10 fXIsPre (fn fXIsPre) (code fXIsPre) os 0 [] [s0 x] .nil ⟨b0 b, .nil,[]⟩
def gJPX (os:Orc)(x:ByteArray):Prop:=gJP os x jBad false
def gJPE (os:Orc)(x:ByteArray)(b:Bool):Prop:=gJP os x (jEnd x) b
def jnOuts:Ex→List Nat
 | .ret=>[2]
 | _=>[3]
abbrev lpJN (P:Prop)(x:ByteArray)(i n:Int)(r:Ex × Back):Lp:=Lp1 [0,3,4] [] jnOuts P [s0 x,i0 n,i0 i] .nil r
abbrev jnEnd (n:Int):Ex × Back:=(.exit 0,⟨.tup [i0 n], .nil,[]⟩)
abbrev jnBad:Ex × Back:=(.ret,⟨.tup [i0 (-1)], .nil,[]⟩)
def rJN (os:Orc)(P:Prop)(x:ByteArray)(i n i' n':Int)(r r':Ex × Back):Prop:=runL (XB.ask [fXNumber]) 8 fXNumber (fn fXNumber).ntmps (loopAt (code fXNumber) 0) (lpJN P x i' n' r') (lpJN P x i' n' r') os 0 [] [s0 x,i0 n,i0 i] .nil r
def rJNE (os:Orc)(P:Prop)(x:ByteArray)(i n:Int):Prop:=rJN os P x i n i n (jnEnd n) (jnEnd n)
def rJNX (os:Orc)(P:Prop)(x:ByteArray)(i n:Int):Prop:=rJN os P x i n i n jnBad jnBad
def rJNA (os:Orc)(P:Prop)(x:ByteArray)(i n n' m:Int):Prop:=rJN os P x i n (i+1) n' (jnEnd m) (jnEnd m)
def rJNB (os:Orc)(P:Prop)(x:ByteArray)(i n n':Int):Prop:=rJN os P x i n (i+1) n' jnBad jnBad
def gJN (os:Orc)(x:ByteArray)(q:Ex × Back)(m:Int):Prop:=runF ((XB.addLp fXNumber 0 (lpJN True x 0 0 q)).ask [fXNumber]) 10 fXNumber (fn fXNumber) (code fXNumber) os 0 [] [s0 x] .nil ⟨i0 m, .nil,[]⟩
def gJNL (os:Orc)(x:ByteArray):Prop:=runF (XB.ask [fXNumber]) 10 fXNumber (fn fXNumber) (code fXNumber) os 0 [] [s0 x] .nil ⟨i0 (-1), .nil,[]⟩
def gJNM (os:Orc)(x:ByteArray):Prop:=gJNL os x
def gJNX (os:Orc)(x:ByteArray):Prop:=gJN os x jnBad (-1)
def gJNE (os:Orc)(x:ByteArray)(m:Int):Prop:=gJN os x (jnEnd m) m
end
end Go.Proofs.YtpofhijgccocpaaGreatDoor
end
section
namespace Go.Proofs.YtpofhijgccocpaaGreatDoor
open Go Go.AS Go.TP
theorem rJPE_vc (P:Prop)(x:ByteArray)(i:Int):rJPE (Orc.f Orc.z) P x i=(decide (i<(↑(ByteArray.size x):Int))=false∧Ex.exit 0=Ex.exit 0∧Wk (AV.tup [s0 x]) (AV.tup [s0 x])∧SameH (hpL []) (hpL [])):=by kernel_rfl
theorem rJPX_vc (P:Prop)(x:ByteArray)(i:Int):rJPX (Orc.t (Orc.t Orc.z)) P x i=(decide (i<(↑(ByteArray.size x):Int))=true∧decide ((0:Int)≤i∧i<(↑(ByteArray.size x):Int))=true∧∃ (i1:Nat),(i1<256∧Wks [AV.lit (Value.int IntKind.u8 (↑(byteAt x (Int.toNat i)):Int))] [AV.lit (Value.int IntKind.u8 (↑i1:Int))]∧hpL []=hpL [])∧decide (digitI i1<(0:Int))=true∧Ex.ret=Ex.ret∧Wk (AV.tup [b0 false]) (AV.tup [b0 false])∧SameH (hpL []) (hpL [])):=by kernel_rfl
theorem rJPA_vc (P:Prop)(x:ByteArray)(i:Int):rJPA (Orc.t (Orc.f Orc.z)) P x i=(decide (i<(↑(ByteArray.size x):Int))=true∧decide ((0:Int)≤i∧i<(↑(ByteArray.size x):Int))=true∧∃ (i1:Nat),(i1<256∧Wks [AV.lit (Value.int IntKind.u8 (↑(byteAt x (Int.toNat i)):Int))] [AV.lit (Value.int IntKind.u8 (↑i1:Int))]∧hpL []=hpL [])∧decide (digitI i1<(0:Int))=false∧inR IntKind.i64 (i+(1:Int))=true∧∃ (_:Unit),(P∧Wks [s0 x,i0 (i+(1:Int))] [s0 x,i0 (i+(1:Int))]∧hpL []=hpL [])∧Ex.exit 0=Ex.exit 0∧Wk (AV.tup [s0 x]) (AV.tup [s0 x])∧SameH (hpL []) (hpL [])):=by kernel_rfl
theorem rJPB_vc (P:Prop)(x:ByteArray)(i:Int):rJPB (Orc.t (Orc.f Orc.z)) P x i=(decide (i<(↑(ByteArray.size x):Int))=true∧decide ((0:Int)≤i∧i<(↑(ByteArray.size x):Int))=true∧∃ (i1:Nat),(i1<256∧Wks [AV.lit (Value.int IntKind.u8 (↑(byteAt x (Int.toNat i)):Int))] [AV.lit (Value.int IntKind.u8 (↑i1:Int))]∧hpL []=hpL [])∧decide (digitI i1<(0:Int))=false∧inR IntKind.i64 (i+(1:Int))=true∧∃ (_:Unit),(P∧Wks [s0 x,i0 (i+(1:Int))] [s0 x,i0 (i+(1:Int))]∧hpL []=hpL [])∧Ex.ret=Ex.ret∧Wk (AV.tup [b0 false]) (AV.tup [b0 false])∧SameH (hpL []) (hpL [])):=by kernel_rfl
theorem gJPX_vc (x:ByteArray):gJPX (Orc.z) x=(U1 [s0 x,i0 (0:Int)] [] (Wk (b0 false) (b0 false)∧SameH (hpL []) (hpL []))):=by kernel_rfl
def ogJPE:Orc:=Orc.s (Orc.t (Orc.t Orc.z)) (Orc.f (Orc.f Orc.z))
theorem gJPE_vc (x:ByteArray)(b:Bool):gJPE ogJPE x b=(let z1:=(↑(ByteArray.size x):Int); U1 [s0 x,i0 (0:Int)] [] ((decide (z1≥(1:Int))=true→Yt (Yt (Wk (b0 (decide (z1≤(64:Int)))) (b0 b)∧SameH (hpL []) (hpL []))))∧(decide (z1≥(1:Int))=false→Nf (Nf (Wk (b0 false) (b0 b)∧SameH (hpL []) (hpL [])))))):=by kernel_rfl
theorem rJNE_vc (P:Prop)(x:ByteArray)(i n:Int):rJNE (Orc.f Orc.z) P x i n=(decide (i<(↑(ByteArray.size x):Int))=false∧Ex.exit 0=Ex.exit 0∧Wk (AV.tup [i0 n]) (AV.tup [i0 n])∧SameH (hpL []) (hpL [])):=by kernel_rfl
def orJNX:Orc:=Orc.t (Orc.s (Orc.t (Orc.t (Orc.t (Orc.t Orc.z)))) (Orc.f (Orc.f (Orc.f (Orc.t Orc.z)))))
theorem rJNX_vc (P:Prop)(x:ByteArray)(i n:Int):rJNX orJNX P x i n=(let z1:=(AV.tup [i0 (-1:Int)]); let z2:=(↑(byteAt x (Int.toNat i)):Int); let z3:=(↑(ByteArray.size x):Int); decide (i<z3)=true∧decide ((0:Int)≤i∧i<z3)=true∧(decide (z2<(48:Int))=true→Yt4 (Ex.ret=Ex.ret∧Wk z1 z1∧SameH (hpL []) (hpL [])))∧(decide (z2<(48:Int))=false→Nf (Nf (decide ((0:Int)≤i∧i<z3)=true∧Nf (decide (z2>(57:Int))=true∧Ex.ret=Ex.ret∧Wk z1 z1∧SameH (hpL []) (hpL [])))))):=by kernel_rfl
def orJNA:Orc:=Orc.t (HF (Orc.f Orc.z))
theorem rJNA_vc (P:Prop)(x:ByteArray)(i n:Int)(n' m:Int):rJNA orJNA P x i n n' m=(let z1:=(↑(byteAt x (Int.toNat i)):Int); let z2:=((0:Int)≤i∧i<(↑(ByteArray.size x):Int)); let z3:=((10:Int)*n+IntKind.wrap IntKind.u8 (z1-(48:Int))); decide (i<(↑(ByteArray.size x):Int))=true∧decide z2=true∧decide (z1<(48:Int))=false∧Nf (Nf (decide z2=true∧Nf (decide (z1>(57:Int))=false∧inR IntKind.i64 ((10:Int)*n)=true∧decide z2=true∧Yt (inR IntKind.i64 (IntKind.wrap IntKind.u8 (z1-(48:Int)))=true∧inR IntKind.i64 z3=true∧inR IntKind.i64 (i+(1:Int))=true∧∃ (_:Unit),(P∧Wks [s0 x,i0 z3,i0 (i+(1:Int))] [s0 x,i0 n',i0 (i+(1:Int))]∧hpL []=hpL [])∧Ex.exit 0=Ex.exit 0∧Wk (AV.tup [i0 m]) (AV.tup [i0 m])∧SameH (hpL []) (hpL [])))))):=by kernel_rfl
def orJNB:Orc:=Orc.t (HF (Orc.f Orc.z))
theorem rJNB_vc (P:Prop)(x:ByteArray)(i n n':Int):rJNB orJNB P x i n n'=(let z1:=(↑(byteAt x (Int.toNat i)):Int); let z2:=((0:Int)≤i∧i<(↑(ByteArray.size x):Int)); let z3:=((10:Int)*n+IntKind.wrap IntKind.u8 (z1-(48:Int))); decide (i<(↑(ByteArray.size x):Int))=true∧decide z2=true∧decide (z1<(48:Int))=false∧Nf (Nf (decide z2=true∧Nf (decide (z1>(57:Int))=false∧inR IntKind.i64 ((10:Int)*n)=true∧decide z2=true∧Yt (inR IntKind.i64 (IntKind.wrap IntKind.u8 (z1-(48:Int)))=true∧inR IntKind.i64 z3=true∧inR IntKind.i64 (i+(1:Int))=true∧∃ (_:Unit),(P∧Wks [s0 x,i0 z3,i0 (i+(1:Int))] [s0 x,i0 n',i0 (i+(1:Int))]∧hpL []=hpL [])∧Ex.ret=Ex.ret∧Wk (AV.tup [i0 (-1:Int)]) (AV.tup [i0 (-1:Int)])∧SameH (hpL []) (hpL [])))))):=by kernel_rfl
def ogJNL:Orc:=Orc.t (Orc.t (Orc.t (Orc.t Orc.z)))
theorem gJNL_vc (x:ByteArray):gJNL ogJNL x=(decide ((↑(ByteArray.size x):Int)<(1:Int))=true∧Yt (Yt (Yt (Wk (i0 (-1:Int)) (i0 (-1:Int))∧SameH (hpL []) (hpL []))))):=by kernel_rfl
def ogJNM:Orc:=Orc.f (Orc.f (Orc.f (Orc.t Orc.z)))
theorem gJNM_vc (x:ByteArray):gJNM ogJNM x=(decide ((↑(ByteArray.size x):Int)<(1:Int))=false∧Nf (Nf (decide ((↑(ByteArray.size x):Int)>(6:Int))=true∧Wk (i0 (-1:Int)) (i0 (-1:Int))∧SameH (hpL []) (hpL [])))):=by kernel_rfl
def ogJNX:Orc:=Orc.f (Orc.f (Orc.f (Orc.f Orc.z)))
theorem gJNX_vc (x:ByteArray):gJNX ogJNX x=(let z1:=[s0 x,i0 (0:Int),i0 (0:Int)]; decide ((↑(ByteArray.size x):Int)<(1:Int))=false∧Nf (Nf (decide ((↑(ByteArray.size x):Int)>(6:Int))=false∧U1 z1 [] (Wk (i0 (-1:Int)) (i0 (-1:Int))∧SameH (hpL []) (hpL []))))):=by kernel_rfl
def ogJNE:Orc:=Orc.f (Orc.f (Orc.f (Orc.f Orc.z)))
theorem gJNE_vc (x:ByteArray)(m:Int):gJNE ogJNE x m=(let z1:=[s0 x,i0 (0:Int),i0 (0:Int)]; decide ((↑(ByteArray.size x):Int)<(1:Int))=false∧Nf (Nf (decide ((↑(ByteArray.size x):Int)>(6:Int))=false∧U1 z1 [] (Wk (i0 m) (i0 m)∧SameH (hpL []) (hpL []))))):=by kernel_rfl
end Go.Proofs.YtpofhijgccocpaaGreatDoor
end
section
namespace Go.Proofs.YtpofhijgccocpaaGreatDoor
open Go.AS Go.TP
noncomputable section
abbrev BJP (xs:List AV)(r:Ex × Back):Prop:=BlkOk Tryz.prog gl0 (fn fXIsPre).ntmps (loopAt (code fXIsPre) 0) [0,3] jOuts xs .nil fun _ q=>q=r
set_option maxRecDepth 100000 in
theorem jpRound {os:Orc}{P:Prop}{x:ByteArray}{i:Int}{r r':Ex × Back}(ih:P→BJP [s0 x,i0 (i+1)] r')(h:rJP os P x i r r'):BJP [s0 x,i0 i] r :=
 lp_round1 (X:=XJ.ask [fXIsPre]) (XJ_ok.ask _) (fnOk fXIsPre (by kernel_rfl)) (show (fn fXIsPre).body=some (code fXIsPre) by kernel_rfl) (by decide) ih h
theorem rJPE_ok {P:Prop}{x:ByteArray}{i:Int}(h:¬i<x.size):rJPE (Orc.f Orc.z) P x i:=by
 rw [rJPE_vc]; exact ⟨decide_eq_false h,rfl, .refl _, .rfl⟩
theorem rJPX_ok {P:Prop}{x:ByteArray}{i:Int}(h0:0≤i)(h:i<x.size)(hd:hexQ (byteAt x i.toNat)=false):rJPX (Orc.t (Orc.t Orc.z)) P x i:=by
 rw [rJPX_vc]; exact ⟨decide_eq_true h,decide_eq_true ⟨h0,h⟩,_,⟨byteAt_lt x i.toNat, .refl _,rfl⟩,decide_eq_true (digitI_neg.2 hd),rfl, .refl _, .rfl⟩
theorem rJPA_ok {P:Prop}{x:ByteArray}{i:Int}(hx:x.size≤1000000)(h0:0≤i)(h:i<x.size)(hd:hexQ (byteAt x i.toNat)=true)(hP:P):rJPA (Orc.t (Orc.f Orc.z)) P x i:=by
 rw [rJPA_vc]; exact ⟨decide_eq_true h,decide_eq_true ⟨h0,h⟩,_,⟨byteAt_lt x i.toNat, .refl _,rfl⟩,decide_eq_false (fun k=>by rw [digitI_neg.1 k] at hd; cases hd),inR_i64 (by omega) (by omega),(),⟨hP, .refl _,rfl⟩,rfl, .refl _, .rfl⟩
theorem rJPB_ok {P:Prop}{x:ByteArray}{i:Int}(hx:x.size≤1000000)(h0:0≤i)(h:i<x.size)(hd:hexQ (byteAt x i.toNat)=true)(hP:P):rJPB (Orc.t (Orc.f Orc.z)) P x i:=by
 rw [rJPB_vc]; exact ⟨decide_eq_true h,decide_eq_true ⟨h0,h⟩,_,⟨byteAt_lt x i.toNat, .refl _,rfl⟩,decide_eq_false (fun k=>by rw [digitI_neg.1 k] at hd; cases hd),inR_i64 (by omega) (by omega),(),⟨hP, .refl _,rfl⟩,rfl, .refl _, .rfl⟩
attribute [local irreducible] runL in
set_option maxRecDepth 100000 in
theorem jpL (x:ByteArray)(hx:x.size≤1000000):∀ (f:Nat)(i:Int),0≤i→x.size-i≤f→BJP [s0 x,i0 i] (if allFrom isHexB x i=true then jEnd x else jBad):=by
 intro f
 induction f with
 | zero=>intro i h0 h1; rw [if_pos (allFrom_end (by omega))]; exact jpRound (P:=False) (r':=jEnd x) (fun h=>h.elim) (rJPE_ok (by omega))
 | succ f ih =>
  intro i h0 h1
  by_cases hi:i<x.size
  · have ih:=ih (i+1) (by omega) (by omega)
    rw [allFrom_step hexQ_eq h0 hi]
    cases hd:hexQ (byteAt x i.toNat) with
    | false=>rw [Bool.false_and,if_neg (by decide)]; exact jpRound (P:=False) (r':=jBad) (fun h=>h.elim) (rJPX_ok h0 hi hd)
    | true =>
      rw [Bool.true_and]
      by_cases ha:allFrom isHexB x (i+1)=true
      · rw [if_pos ha] at ih ⊢; exact jpRound (P:=True) (fun _=>ih) (rJPA_ok hx h0 hi hd trivial)
      · rw [if_neg ha] at ih ⊢; exact jpRound (P:=True) (fun _=>ih) (rJPB_ok hx h0 hi hd trivial)
  · rw [if_pos (allFrom_end hi)]; exact jpRound (P:=False) (r':=jEnd x) (fun h=>h.elim) (rJPE_ok hi)
set_option maxRecDepth 100000 in
theorem jpAdd {x:ByteArray}{q:Ex × Back}(h:BJP [s0 x,i0 0] q):(XJ.addLp fXIsPre 0 (lpJP True x 0 q)).Sound :=
 XJ_ok.addLp (fnOk fXIsPre (by kernel_rfl)) (show (fn fXIsPre).body=some (code fXIsPre) by kernel_rfl) (by kernel_rfl)
  (Spl.ok (l:=[⟨Unit,fun _=>True,fun _=>[s0 x,i0 0],fun _ => .nil,fun _=>q⟩]) rfl (show ([0,3]:List Nat).Nodup by decide) fun s' hs' i _=>by obtain rfl:=List.mem_singleton.1 hs'; exact h)
attribute [local irreducible] runF in
set_option maxRecDepth 100000 in
theorem jpFn {x:ByteArray}{q:Ex × Back}{os:Orc}{b:Bool}(h:BJP [s0 x,i0 0] q)(hg:gJP os x q b):F fXIsPre [s0 x] (b0 b) :=
 fn_ok (X:=(XJ.addLp fXIsPre 0 (lpJP True x 0 q)).ask [fXIsPre]) (d:=10) ((jpAdd h).ask _) (f:=fXIsPre) (fn:=fn fXIsPre) (code:=code fXIsPre) (fnOk fXIsPre (by kernel_rfl)) (show (fn fXIsPre).body=some (code fXIsPre) by kernel_rfl) (by kernel_rfl) hg
theorem gJPE_ok (x:ByteArray):gJPE ogJPE x (decide (0<x.size)&&decide (x.size≤64)):=by
 rw [gJPE_vc]
 try dsimp only
 refine ⟨(),⟨trivial, .refl _,rfl⟩,fun h => ?_,fun h => ?_⟩
 · have h:=of_decide_eq_true h
   refine ⟨rfl,rfl, .of_eq ?_, .rfl⟩
   rw [decide_eq_true (show 0<x.size by omega),Bool.true_and]
   exact congrArg (fun b=>b0 b) (decide_eq_decide.2 ⟨fun h=>by omega,fun h=>by omega⟩)
 · have h:=of_decide_eq_false h
   refine ⟨rfl,rfl, .of_eq ?_, .rfl⟩
   rw [decide_eq_false (show ¬0<x.size by omega)]; rfl
attribute [local irreducible] runF runL in
set_option maxRecDepth 100000 in
theorem xpre_ok (x:ByteArray)(hx:x.size≤1000000):F fXIsPre [s0 x] (b0 (isPrefixS x)):=by
 have h:=jpL x hx x.size 0 (Int.le_refl _) (by omega)
 have e:isPrefixS x=(allFrom isHexB x 0&&(decide (0<x.size)&&decide (x.size≤64))):=by
  unfold isPrefixS allFrom; rw [show (0:Int).toNat=0 from rfl,List.drop_zero,Bool.and_assoc]
 rw [e]
 cases ha:allFrom isHexB x 0 with
 | true=>rw [ha,if_pos rfl] at h; rw [Bool.true_and]; exact jpFn h (gJPE_ok x)
 | false =>
  rw [ha,if_neg (by decide)] at h; rw [Bool.false_and]
  exact jpFn h (show gJPX Orc.z x from by rw [gJPX_vc]; exact ⟨(),⟨trivial, .refl _,rfl⟩, .refl _, .rfl⟩)
abbrev BJN (xs:List AV)(r:Ex × Back):Prop:=BlkOk Tryz.prog gl0 (fn fXNumber).ntmps (loopAt (code fXNumber) 0) [0,3,4] jnOuts xs .nil fun _ q=>q=r
set_option maxRecDepth 100000 in
theorem jnRnd {os:Orc}{P:Prop}{x:ByteArray}{i n i' n':Int}{r r':Ex × Back}(ih:P→BJN [s0 x,i0 n',i0 i'] r')(h:rJN os P x i n i' n' r r'):BJN [s0 x,i0 n,i0 i] r :=
 lp_round1 (X:=XB.ask [fXNumber]) (XB_ok.ask _) (fnOk fXNumber (by kernel_rfl)) (show (fn fXNumber).body=some (code fXNumber) by kernel_rfl) (by decide) ih h
theorem rJNE_ok {P:Prop}{x:ByteArray}{i n:Int}(h:¬i<x.size):rJNE (Orc.f Orc.z) P x i n:=by
 rw [rJNE_vc]; exact ⟨decide_eq_false h,rfl, .refl _, .rfl⟩
theorem rJNX_ok {P:Prop}{x:ByteArray}{i n:Int}(h0:0≤i)(h:i<x.size)(hd:digQ (byteAt x i.toNat)=false):rJNX orJNX P x i n:=by
 rw [rJNX_vc]
 refine ⟨decide_eq_true h,decide_eq_true ⟨h0,h⟩,fun g=>⟨rfl,rfl,rfl,rfl,rfl, .refl _, .rfl⟩,fun g=>⟨rfl,rfl,decide_eq_true ⟨h0,h⟩,rfl,decide_eq_true ?_,rfl, .refl _, .rfl⟩⟩
 have g:¬((byteAt x i.toNat:Int)<48):=of_decide_eq_false g
 show (byteAt x i.toNat:Int)>57
 unfold digQ at hd
 have:¬(48≤byteAt x i.toNat∧byteAt x i.toNat≤57):=fun q=>by rw [decide_eq_true q.1,decide_eq_true q.2] at hd; cases hd
 omega
theorem wrap_dig {c:Nat}(h:48≤c∧c≤57):IntKind.wrap IntKind.u8 ((c:Int)-48)=(c:Int)-48:=by
 refine wrap_inR ?_
 show (decide _&&decide _)=true
 rw [decide_eq_true (show (0:Int)≤(c:Int)-48 by omega),decide_eq_true (show (c:Int)-48<2 ^ IntKind.u8.bits from by show (c:Int)-48<256; omega)]; rfl
theorem rJNA_ok {P:Prop}{x:ByteArray}{i n m:Int}(hx:x.size≤1000000)(h0:0≤i)(h:i<x.size)(hn:0≤n∧n≤1000000)(hd:digQ (byteAt x i.toNat)=true)(hP:P):rJNA orJNA P x i n (10*n+((byteAt x i.toNat:Int)-48)) m:=by
 have hc:=dig_lt hd
 rw [rJNA_vc]
 try dsimp only
 rw [wrap_dig hc]
 exact ⟨decide_eq_true h,decide_eq_true ⟨h0,h⟩,decide_eq_false (show ¬((byteAt x i.toNat:Int)<48) by omega),rfl,rfl,decide_eq_true ⟨h0,h⟩,rfl,decide_eq_false (show ¬((byteAt x i.toNat:Int)>57) by omega),inR_i64 (by omega) (by omega),decide_eq_true ⟨h0,h⟩,rfl,inR_i64 (by omega) (by omega),inR_i64 (by omega) (by omega),inR_i64 (by omega) (by omega),(),⟨hP, .refl _,rfl⟩,rfl, .refl _, .rfl⟩
theorem rJNB_ok {P:Prop}{x:ByteArray}{i n:Int}(hx:x.size≤1000000)(h0:0≤i)(h:i<x.size)(hn:0≤n∧n≤1000000)(hd:digQ (byteAt x i.toNat)=true)(hP:P):rJNB orJNB P x i n (10*n+((byteAt x i.toNat:Int)-48)):=by
 have hc:=dig_lt hd
 rw [rJNB_vc]
 try dsimp only
 rw [wrap_dig hc]
 exact ⟨decide_eq_true h,decide_eq_true ⟨h0,h⟩,decide_eq_false (show ¬((byteAt x i.toNat:Int)<48) by omega),rfl,rfl,decide_eq_true ⟨h0,h⟩,rfl,decide_eq_false (show ¬((byteAt x i.toNat:Int)>57) by omega),inR_i64 (by omega) (by omega),decide_eq_true ⟨h0,h⟩,rfl,inR_i64 (by omega) (by omega),inR_i64 (by omega) (by omega),inR_i64 (by omega) (by omega),(),⟨hP, .refl _,rfl⟩,rfl, .refl _, .rfl⟩
def numF (l:List UInt8)(a:Int):Int:=l.foldl (fun a c=>10*a+(c.toNat-48:Int)) a
theorem numF_step (x:ByteArray){i:Int}(h0:0≤i)(h:i<x.size)(a:Int):numF (x.data.toList.drop i.toNat) a=numF (x.data.toList.drop (i+1).toNat) (10*a+((byteAt x i.toNat:Int)-48)):=by
 have hl:i.toNat<x.data.toList.length:=by rw [Array.length_toList]; have:x.data.size=x.size:=rfl; omega
 have hl':i.toNat<x.data.size:=by rw [←Array.length_toList]; exact hl
 have e:(i+1).toNat=i.toNat+1:=by omega
 rw [List.drop_eq_getElem_cons hl,e]
 unfold numF
 rw [List.foldl_cons]
 congr 2
 unfold byteAt
 rw [Array.getD_eq_getD_getElem?,Array.getElem?_eq_getElem hl']; rfl
theorem pow10:∀ k:Nat,k≤6→(10:Int) ^ k≤1000000:=by decide
attribute [local irreducible] runL in
set_option maxRecDepth 100000 in
theorem jnLp (x:ByteArray)(hx:x.size≤6):∀ (f:Nat)(i n:Int),0≤i→i≤x.size→x.size-i≤f→0≤n∧n<10 ^ i.toNat→BJN [s0 x,i0 n,i0 i] (if allFrom isDigB x i=true then jnEnd (numF (x.data.toList.drop i.toNat) n) else jnBad):=by
 intro f
 induction f with
 | zero =>
  intro i n h0 h2 h1 _
  have e:x.data.toList.drop i.toNat=[]:=List.drop_of_length_le (by rw [Array.length_toList]; have:x.data.size=x.size:=rfl; omega)
  rw [if_pos (allFrom_end (by omega)),e]; exact jnRnd (P:=False) (i':=i) (n':=n) (r':=jnEnd n) (fun h=>h.elim) (rJNE_ok (by omega))
 | succ f ih =>
  intro i n h0 h2 h1 hn
  by_cases hi:i<x.size
  · have hp:=pow10 i.toNat (by omega)
    have hn':0≤n∧n≤1000000:=⟨hn.1,by omega⟩
    rw [allFrom_step digQ_eq h0 hi,numF_step x h0 hi]
    cases hd:digQ (byteAt x i.toNat) with
    | false=>rw [Bool.false_and,if_neg (by decide)]; exact jnRnd (P:=False) (i':=i) (n':=n) (r':=jnBad) (fun h=>h.elim) (rJNX_ok h0 hi hd)
    | true =>
      have hc:=dig_lt hd
      have ih:=ih (i+1) (10*n+((byteAt x i.toNat:Int)-48)) (by omega) (by omega) (by omega) (by
        have e:(i+1).toNat=i.toNat+1:=by omega
        rw [e,Int.pow_succ]
        generalize (10:Int) ^ i.toNat=p at hn hp
        omega)
      rw [Bool.true_and]
      by_cases ha:allFrom isDigB x (i+1)=true
      · rw [if_pos ha] at ih ⊢; exact jnRnd (P:=True) (fun _=>ih) (rJNA_ok (by omega) h0 hi hn' hd trivial)
      · rw [if_neg ha] at ih ⊢; exact jnRnd (P:=True) (fun _=>ih) (rJNB_ok (by omega) h0 hi hn' hd trivial)
  · have e:x.data.toList.drop i.toNat=[]:=List.drop_of_length_le (by rw [Array.length_toList]; have:x.data.size=x.size:=rfl; omega)
    rw [if_pos (allFrom_end hi),e]; exact jnRnd (P:=False) (i':=i) (n':=n) (r':=jnEnd n) (fun h=>h.elim) (rJNE_ok hi)
set_option maxRecDepth 100000 in
theorem jnAdd {x:ByteArray}{q:Ex × Back}(h:BJN [s0 x,i0 0,i0 0] q):(XB.addLp fXNumber 0 (lpJN True x 0 0 q)).Sound :=
 XB_ok.addLp (fnOk fXNumber (by kernel_rfl)) (show (fn fXNumber).body=some (code fXNumber) by kernel_rfl) (by kernel_rfl)
  (Spl.ok (l:=[⟨Unit,fun _=>True,fun _=>[s0 x,i0 0,i0 0],fun _ => .nil,fun _=>q⟩]) rfl (show ([0,3,4]:List Nat).Nodup by decide) fun s' hs' i _=>by obtain rfl:=List.mem_singleton.1 hs'; exact h)
attribute [local irreducible] runF in
set_option maxRecDepth 100000 in
theorem jnFn {x:ByteArray}{q:Ex × Back}{os:Orc}{m:Int}(h:BJN [s0 x,i0 0,i0 0] q)(hg:gJN os x q m):F fXNumber [s0 x] (i0 m) :=
 fn_ok (X:=(XB.addLp fXNumber 0 (lpJN True x 0 0 q)).ask [fXNumber]) (d:=10) ((jnAdd h).ask _) (f:=fXNumber) (fn:=fn fXNumber) (code:=code fXNumber) (fnOk fXNumber (by kernel_rfl)) (show (fn fXNumber).body=some (code fXNumber) by kernel_rfl) (by kernel_rfl) hg
attribute [local irreducible] runF in
set_option maxRecDepth 100000 in
theorem jnLong {x:ByteArray}{os:Orc}(hg:gJNL os x):F fXNumber [s0 x] (i0 (-1)) :=
 fn_ok (X:=XB.ask [fXNumber]) (d:=10) (XB_ok.ask _) (f:=fXNumber) (fn:=fn fXNumber) (code:=code fXNumber) (fnOk fXNumber (by kernel_rfl)) (show (fn fXNumber).body=some (code fXNumber) by kernel_rfl) (by kernel_rfl) hg
attribute [local irreducible] runF runL in
set_option maxRecDepth 100000 in
theorem xnum_ok (x:ByteArray):F fXNumber [s0 x] (i0 (numN x)):=by
 unfold numN
 by_cases h1:x.size<1
 · rw [if_neg (fun c=>by omega)]
   exact jnLong (show gJNL ogJNL x from by rw [gJNL_vc]; exact ⟨decide_eq_true (by omega),rfl,rfl,rfl, .refl _, .rfl⟩)
 · by_cases h6:x.size>6
   · rw [if_neg (fun c=>by omega)]
     exact jnLong (show gJNM ogJNM x from by rw [gJNM_vc]; exact ⟨decide_eq_false (by omega),rfl,rfl,decide_eq_true (by omega), .refl _, .rfl⟩)
   · have h:=jnLp x (by omega) x.size 0 0 (Int.le_refl _) (by omega) (by omega) ⟨Int.le_refl _,by decide⟩
     have ed:x.data.toList.all isDigB=allFrom isDigB x 0:=dig_all x
     have en:numF (x.data.toList.drop (0:Int).toNat) 0=numB x.data.toList:=by rw [show (0:Int).toNat=0 from rfl,List.drop_zero]; rfl
     rw [ed]
     by_cases ha:allFrom isDigB x 0=true
     · rw [if_pos ha,en] at h
       rw [if_pos ⟨ha,by omega,by omega⟩]
       exact jnFn h (show gJNE ogJNE x _ from by rw [gJNE_vc]; exact ⟨decide_eq_false (by omega),rfl,rfl,decide_eq_false (by omega),(),⟨trivial, .refl _,rfl⟩, .refl _, .rfl⟩)
     · rw [if_neg ha] at h
       rw [if_neg (fun c=>ha c.1)]
       exact jnFn h (show gJNX ogJNX x from by rw [gJNX_vc]; exact ⟨decide_eq_false (by omega),rfl,rfl,decide_eq_false (by omega),(),⟨trivial, .refl _,rfl⟩, .refl _, .rfl⟩)
end
end Go.Proofs.YtpofhijgccocpaaGreatDoor
end
section
namespace Go.Proofs.YtpofhijgccocpaaGreatDoor
open Go.AS Go.TP
noncomputable section
theorem x_tokC {all:List Tk}{s:RS}(h:XInv all s){k:Int}(hk:plc all s=k):∀ B:Tb,B=Cx.B (cxV XB 14 fXPart)→(decide ((0:Int)≤k∧k<((all.map encT).length:Int))&&(Nat.beq 3 3&&(isShp B shN 124 ((all.map encT).getD k.toNat (AV.lit (Value.tuple ⟨[]⟩)))&&(true||false))))=true:=by
 subst hk; exact x_tokB h
theorem x_kind {all:List Tk}{s:RS}(h:XInv all s){k:Int}(hk:plc all s=k)(c:Int):(intA (nthA 0 ((all.map encT).getD k.toNat (AV.lit (Value.tuple ⟨[]⟩)))) != c)=decide ((headT s.ts).kind≠c):=by
 subst hk
 obtain ⟨t1,_,_⟩:=x_tok h (AV.lit (Value.tuple ⟨[]⟩))
 rw [show (all.map encT).getD (plc all s).toNat (AV.lit (Value.tuple ⟨[]⟩))=_ from t1]
 show ((headT s.ts).kind != c)=_
 by_cases g:(headT s.ts).kind=c
 · rw [g]; simp
 · rw [decide_eq_true g]; simp [g]
theorem wk_text {all:List Tk}{s:RS}(h:XInv all s):Wks [AV.lit (Value.string (strA (nthA 2 ((all.map encT).getD (plc all s).toNat (AV.lit (Value.tuple ⟨[]⟩))))))] [s0 (headT s.ts).text]:=by
 obtain ⟨t1,_,_⟩:=x_tok h (AV.lit (Value.tuple ⟨[]⟩))
 rw [show (all.map encT).getD (plc all s).toNat (AV.lit (Value.tuple ⟨[]⟩))=_ from t1]
 exact .refl _
theorem wk_nodeC {all:List Tk}{s:RS}(h:XInv all s)(k n:Int){x:AV}{ps:List AV}(hx:Wk x (.lst false 1 ps)):Wks [xArg, .agg [i0 k,i0 (intA (nthA 1 ((all.map encT).getD (plc all s).toNat (AV.lit (Value.tuple ⟨[]⟩))))),i0 n, .lit (.string (strA (nthA 2 ((all.map encT).getD (plc all s).toNat (AV.lit (Value.tuple ⟨[]⟩)))))),x]] [xArg,rgV k (headT s.ts).at_ n (headT s.ts).text ps]:=by
 obtain ⟨t1,_,_⟩:=x_tok h (AV.lit (Value.tuple ⟨[]⟩))
 rw [show (all.map encT).getD (plc all s).toNat (AV.lit (Value.tuple ⟨[]⟩))=_ from t1]
 exact .cons (.refl _) (.cons (.agg (.cons (.refl _) (.cons (.refl _) (.cons (.refl _) (.cons (.refl _) (.cons hx .nil)))))) .nil)
theorem x_addC {all:List Tk}{z:RS}(h:XInv all z)(k a n:Int)(t:ByteArray)(ps:List Nat) :
  FOk Tryz.prog gl0 fXAdd (xArg::[rgV k a n t (ps.map fun j:Nat=>i0 (j:Int))]) (xQ 0 all z (plc all z) z.deep)
   ⟨i0 ((z.out.map xE).length:Int),xHp 1 (all.map encT) (plc all z) z.deep (z.out.map xE++[rgV k a n t (ps.map fun j:Nat=>i0 (j:Int))]) (badE z) (badP z),[1048577,1048578]⟩:=by
 have lm:(z.out.map xE).length=z.out.length:=List.length_map ..
 rw [lm]
 have hA2:FOk Tryz.prog gl0 fXAdd (xArg::[rgV k a n t (ps.map fun j:Nat=>i0 (j:Int))]) (xQ 0 all z (plc all z) z.deep)
   ⟨i0 (z.out.length:Int),xHp 1 (all.map encT) (plc all z) z.deep ((z.out++[(⟨k,a,n,t,ps⟩:RN)]).map xE) (badE z) (badP z),[1048577,1048578]⟩:=xAdd_ok h ⟨k,a,n,t,ps⟩
 rw [List.map_append] at hA2
 exact hA2
theorem x_lastC {f:Nat}{all:List Tk}{σ:Hp}(z:RS)(k a n:Int)(t:ByteArray)(ps:List Nat)
  (h:FOk Tryz.prog gl0 f [xArg] σ ⟨i0 ((z.out.map xE).length:Int),xHp 1 (all.map encT) (plc all z) z.deep (z.out.map xE++[rgV k a n t (ps.map fun j:Nat=>i0 (j:Int))]) (badE z) (badP z),[1048577,1048578]⟩) :
  FOk Tryz.prog gl0 f [xArg] σ ⟨i0 ((addR ⟨k,a,n,t,ps⟩ z).1:Int),xS 1 all (addR ⟨k,a,n,t,ps⟩ z).2,[1048577,1048578]⟩:=by
 show FOk _ _ _ _ _ ⟨i0 (z.out.length:Int),xHp 1 _ (plc all z) z.deep ((z.out++[(⟨k,a,n,t,ps⟩:RN)]).map xE) (badE z) (badP z),_⟩
 have lm:(z.out.map xE).length=z.out.length:=List.length_map ..
 rw [List.map_append,←lm]
 exact h
theorem want_ts (c:Int)(s:RS):(wantR c s).2.deep=s.deep∧(wantR c s).2.out=s.out:=by
 unfold wantR
 split
 · exact ⟨rfl,rfl⟩
 · exact ⟨(fail_ts 15 s).2.1,(fail_ts 15 s).2.2⟩
theorem want_yes {c:Int}{s:RS}(hb:(wantR c s).1=true):isR c s=true∧(wantR c s).2=takeR s:=by
 unfold wantR at hb ⊢
 cases hi:isR c s with
 | true=>exact ⟨rfl,rfl⟩
 | false=>rw [hi] at hb; exact nomatch hb
theorem x_want {all:List Tk}{s:RS}(h:XInv all s)(c:Int)(hc:c≠11):∃ b w,wantR c s=(b,w)∧w.deep=s.deep∧w.out=s.out∧(b=true→isR c s=true∧w=takeR s) ∧
  FOk Tryz.prog gl0 fXWant [xArg,i0 c] (xQ 0 all s (plc all s) s.deep) ⟨b0 b,xHp 0 (all.map encT) (plc all w) s.deep (s.out.map xE) (badE w) (badP w),[1048578]⟩:=by
 obtain ⟨h1,h2⟩:=want_ts c s
 have g:FOk Tryz.prog gl0 fXWant [xArg,i0 c] (xQ 0 all s (plc all s) s.deep) ⟨b0 (wantR c s).1,xHp 0 (all.map encT) (plc all (wantR c s).2) (wantR c s).2.deep ((wantR c s).2.out.map xE) (badE (wantR c s).2) (badP (wantR c s).2),[1048578]⟩:=xWant_ok h c hc
 rw [h1,h2] at g
 exact ⟨(wantR c s).1,(wantR c s).2,rfl,h1,h2,want_yes,g⟩
theorem x_fail {all:List Tk}{s:RS}(h:XInv all s)(hb:s.bad=none):FOk Tryz.prog gl0 fXFail [xArg,i0 15] (xHp 0 (all.map encT) (plc all s) s.deep (s.out.map xE) 0 0)
  ⟨i0 0,xHp 0 (all.map encT) (plc all s) s.deep (s.out.map xE) (badE (failR 15 s)) (badP (failR 15 s)),[1048578]⟩:=by
 have hf:=xFail_ok h 15
 rw [xS_fail,xS_none hb] at hf
 exact hf
theorem x_no {f:Nat}{all:List Tk}{σ:Hp}{s:RS}{c:Nat}(e:Int)(h:FOk Tryz.prog gl0 f [xArg] σ ⟨i0 0,xHp c (all.map encT) (plc all s) s.deep (s.out.map xE) (badE (failR e s)) (badP (failR e s)),[1048577,1048578]⟩)(hc:c=0∨c=1) :
  FOk Tryz.prog gl0 f [xArg] σ ⟨i0 0,xS 1 all (failR e s),[1048577,1048578]⟩:=by
 rcases hc with rfl | rfl
 · refine xRen (t:=failR e s) (v:=0) (ws:=[1048577,1048578]) ?_ (by intro k hk; simpa using hk)
   rw [xS_fail]; exact h
 · rw [xS_fail]; exact h
theorem formS_eqX (w:ByteArray):formS w=if w=wAll∨w=wNone∨w=wMaster then 1 else if w=wParents∨w=wChildren∨w=wAnc∨w=wDesc∨w=wHeads∨w=wRoots then 2 else if w=wFirst∨w=wLast∨w=wLimit then 3 else 0:=rfl
theorem argsV_form (w:ByteArray):argsV w=if formS w=1 then .tup [i0 0,b0 false] else if formS w=2 then .tup [i0 1,b0 false] else if formS w=3 then .tup [i0 1,b0 true] else .tup [i0 (-1),b0 false]:=by
 rw [argsV_eq,formS_eqX]
 by_cases h1:w=wAll∨w=wNone∨w=wMaster
 · rw [if_pos h1,if_pos h1,if_pos rfl]
 · rw [if_neg h1,if_neg h1]
   by_cases h2:w=wParents∨w=wChildren∨w=wAnc∨w=wDesc∨w=wHeads∨w=wRoots
   · rw [if_pos h2,if_pos h2,if_neg (by decide),if_pos rfl]
   · rw [if_neg h2,if_neg h2]
     by_cases h3:w=wFirst∨w=wLast∨w=wLimit
     · rw [if_pos h3,if_pos h3,if_neg (by decide),if_neg (by decide),if_pos rfl]
     · rw [if_neg h3,if_neg h3,if_neg (by decide),if_neg (by decide),if_neg (by decide)]
theorem form_cases (w:ByteArray):formS w=0∨formS w=1∨formS w=2∨formS w=3:=by
 rw [formS_eqX]
 split
 · exact .inr (.inl rfl)
 · split
   · exact .inr (.inr (.inl rfl))
   · split
     · exact .inr (.inr (.inr rfl))
     · exact .inl rfl
abbrev spPu (x r:AV):Sp := .pure Unit (fun _=>True) (fun _=>[x]) (fun _=>r)
theorem pureC {f:Nat}{x r:AV}(h:F f [x] r):ConOk Tryz.prog gl0 f (Sp.con [spPu x r]):=conOk (s:=spPu x r) fun _ _=>h
theorem RI.deepI {all:List Tk}{t:RS}(h:XInv all (upR t)){d:Int}(hd:t.deep=d):inR .i64 (d-1)=true:=by subst hd; exact Go.Proofs.YtpofhijgccocpaaGreatDoor.deepI h
attribute [local irreducible] runF in
set_option maxRecDepth 100000 in
theorem xAtom_ok {f:Nat}{all:List Tk}(hsz:∀ t∈all,t.text.size≤1000000)(ih:IH all f){s:RS}(h:XInv all s)(hb:s.bad=none)(hd:s.deep≤24)(hf:5*s.ts.length+1≤f+1):LvOk all (f+1) .atom s:=by
 unfold LvOk
 rw [xS_none hb,RP]
 have fin:∀ {X:WX}(hX:X.Sound)(hp:X.px=X0){os:Orc}{fc:List Nat}{r:Back},runF (XQn X fXAtom [38,39,49,51,117,119]) 14 fXAtom (fn fXAtom) (code fXAtom) os 0 fc [xArg] (xHp 0 (all.map encT) (plc all s) s.deep (s.out.map xE) 0 0) r →
   FOk Tryz.prog gl0 fXAtom [xArg] (xHp 0 (all.map encT) (plc all s) s.deep (s.out.map xE) 0 0) r:=by
  intro X hX hp os fc r g
  have hP:X.px.P=Tryz.prog:=by rw [hp]; rfl
  have hg:X.px.gl=gl0:=by rw [hp]; rfl
  have:=fn_ok (X:=XQn X fXAtom [38,39,49,51,117,119]) (d:=14) ((hX.ask askX).askAt fXAtom _) (f:=fXAtom) (fn:=fn fXAtom) (code:=code fXAtom) (by show X.px.P.funcs[fXAtom]?=_; rw [hP]; exact fnOk fXAtom (by kernel_rfl)) (by kernel_rfl) (by kernel_rfl) g
  rw [←hg,←hP]; exact this
 have g0:RI 0 0 s s := .refl h.ok h.bad
 cases hi:isR 2 s with
 | true =>
  have hk:(headT s.ts).kind≠11:=by rw [(isR_kind hi).2]; decide
  simp only [if_true]
  by_cases h24:24≤s.deep
  · obtain ⟨e,hD⟩:=x_downN h hb hk h24
    rw [e]
    simp only [Bool.false_eq_true,if_false]
    have q:gAtON _ _ _ _ _ _ _:=(gAtON_vc (all.map encT) (plc all s) s.deep (s.out.map xE) (badE (failR 16 s)) (badP (failR 16 s))).mpr
      ⟨(),⟨trivial, .refl _,rfl⟩,rfl,(),⟨trivial, .refl _,rfl⟩,rfl, .refl _, .rfl⟩
    exact x_no 16 (fin ((XB_ok.add (con1 (x_isN h hb hi))).add (con1 (f:=fXDown) hD)) rfl q) (.inl rfl)
  · obtain ⟨u,e,gu,uI,ub,ud,ud24,ul,uo,hD⟩:=x_down h hb hk h24
    rw [e]
    simp only [if_true]
    have ha:=x_lv ub (ih .expr u uI ub ud24 (by show _+5≤_; omega))
    have gq:=RP_RI f .expr u uI.ok uI.bad
    rw [ud,uo] at ha
    generalize RP f .expr u=q at ha gq ⊢
    have qI:XInv all q.2:=uI.of_RI ud24 gq
    obtain ⟨b,w,ew,wd,wo,_,hW⟩:=x_want qI 3 (by decide)
    have gw:=gq.want (c:=3) (by decide)
    rw [ew] at gw ⊢
    have zI:XInv all (upR w):=h.of_RI hd (RI.up (k:=0) (gu.trans ub gw))
    have z:gAtOY _ _ _ _ _ _ _ _ _ _ _ _ _ _ _ _:=(gAtOY_vc (all.map encT) (plc all s) s.deep (s.out.map xE) (plc all u) (plc all q.2) q.2.deep (q.2.out.map xE) (badE q.2) (badP q.2) q.1 (plc all w) (badE w) (badP w) b).mpr
      ⟨(),⟨trivial, .refl _,rfl⟩,rfl,(),⟨trivial, .refl _,rfl⟩,rfl,(),⟨trivial, .refl _,rfl⟩,(),⟨trivial, .refl _,rfl⟩,RI.deepI zI wd, .refl _, .rfl⟩
    have g:=fin ((((XB_ok.add (con1 (x_isN h hb hi))).add (con1 (f:=fXDown) hD)).add (con1 (f:=fXExpr) ha)).add (con1 hW)) rfl z
    show FOk _ _ _ _ _ ⟨i0 (q.1:Int),xHp 1 _ (plc all w) (w.deep-1) (w.out.map xE) (badE w) (badP w),_⟩
    rw [wd,wo]; exact g
 | false =>
  simp only [Bool.false_eq_true,if_false]
  have hI2:=x_isN h hb hi
  cases h1:isR 1 s with
  | false =>
   simp only [Bool.false_eq_true,if_false]
   have q:gAtX _ _ _ _ _ _ _:=(gAtX_vc (all.map encT) (plc all s) s.deep (s.out.map xE) (badE (failR 15 s)) (badP (failR 15 s))).mpr
    ⟨(),⟨trivial, .refl _,rfl⟩,rfl,(),⟨trivial, .refl _,rfl⟩,rfl,(),⟨trivial, .refl _,rfl⟩, .refl _, .rfl⟩
   exact x_no 15 (fin ((XB_ok.add (conC hI2 (con1 (x_isN h hb h1)))).add (con1 (x_fail h hb))) rfl q) (.inl rfl)
  | true =>
   simp only [if_true]
   have hI1:=x_isN h hb h1
   have hIW:=conC hI2 (con1 hI1)
   have hk:(headT s.ts).kind≠11:=by rw [(isR_kind h1).2]; decide
   have gt1:=g0.take hk
   have gt:RI 0 0 s (takeR s):=gt1.less (Nat.zero_le _)
   have TI:XInv all (takeR s):=h.of_RI hd gt
   have pT:plc all (takeR s)=plc all s+1:=x_next h hk
   have tl:(takeR s).ts.length+1=s.ts.length:=takeT_len1 h.ok hk
   have hT:=(takeT s.ts)
   have hw:(headT s.ts).text.size≤1000000:=by
    have hne:=okT_ne h.ok
    have:=h.suf
    cases hts:s.ts with
    | nil=>exact absurd hts hne
    | cons t r =>
     rw [hts] at this
     exact hsz t (this.subset (List.mem_cons_self ..))
   by_cases hk2:(headT (takeT s.ts)).kind≠2
   · rw [if_pos hk2]
     have kk:(intA (nthA 0 ((all.map encT).getD (plc all s+1).toNat (AV.lit (Value.tuple ⟨[]⟩)))) != 2)=true:=(x_kind TI pT 2).trans (decide_eq_true hk2)
     cases hp:isPrefixS (headT s.ts).text with
     | false =>
       simp only [Bool.false_eq_true,if_false]
       have hP:=xpre_ok (headT s.ts).text hw
       rw [hp] at hP
       have q:gAtP0 _ _ _ _ _ _ _ _:=(gAtP0_vc (all.map encT) (plc all s) s.deep (s.out.map xE) (badE (failR 15 s)) (badP (failR 15 s)) (headT s.ts).text).mpr
         ⟨(),⟨trivial, .refl _,rfl⟩,rfl,(),⟨trivial, .refl _,rfl⟩,rfl,x_tokB h _ rfl,x_in h,x_tokC TI pT _ rfl,kk,(),⟨trivial,wk_text h,rfl⟩,rfl,(),⟨trivial, .refl _,rfl⟩, .refl _, .rfl⟩
       exact x_no 15 (fin (((XB_ok.add hIW).add (pureC hP)).add (con1 (x_fail h hb))) rfl q) (.inl rfl)
     | true =>
       simp only [if_true]
       have hP:=xpre_ok (headT s.ts).text hw
       rw [hp] at hP
       have hA:=x_addC TI 1 (headT s.ts).at_ 0 (headT s.ts).text []
       unfold xQ at hA
       rw [(bad0 (s:=takeR s) hb).1,(bad0 (s:=takeR s) hb).2,pT] at hA
       have q:gAtP1 _ _ _ _ _ _ _:=(gAtP1_vc (all.map encT) (plc all s) s.deep (s.out.map xE) (headT s.ts).at_ (headT s.ts).text).mpr
         ⟨(),⟨trivial, .refl _,rfl⟩,rfl,(),⟨trivial, .refl _,rfl⟩,rfl,x_tokB h _ rfl,x_in h,x_tokC TI pT _ rfl,kk,(),⟨trivial,wk_text h,rfl⟩,rfl,x_in h,(),⟨trivial,wk_nodeC h 1 0 .nilS,rfl⟩, .refl _, .rfl⟩
       refine x_lastC (takeR s) 1 _ 0 _ [] ?_
       rw [(bad0 (s:=takeR s) hb).1,(bad0 (s:=takeR s) hb).2,pT]
       exact fin (((XB_ok.add hIW).add (pureC hP)).add (con1 hA)) rfl q
   · rw [if_neg hk2]
     have hk2:(headT (takeT s.ts)).kind=2:=Decidable.not_not.1 hk2
     have kk:(intA (nthA 0 ((all.map encT).getD (plc all s+1).toNat (AV.lit (Value.tuple ⟨[]⟩)))) != 2)=false:=(x_kind TI pT 2).trans (decide_eq_false fun c=>c hk2)
     have hAr:=args_ok (headT s.ts).text
     rw [argsV_form] at hAr
     by_cases hf0:formS (headT s.ts).text=0
     · rw [if_pos hf0]
       rw [hf0,if_neg (by decide),if_neg (by decide),if_neg (by decide)] at hAr
       have q:gAtC0 _ _ _ _ _ _ _ _:=(gAtC0_vc (all.map encT) (plc all s) s.deep (s.out.map xE) (badE (failR 15 s)) (badP (failR 15 s)) (headT s.ts).text).mpr
         ⟨(),⟨trivial, .refl _,rfl⟩,rfl,(),⟨trivial, .refl _,rfl⟩,rfl,x_tokB h _ rfl,x_in h,x_tokC TI pT _ rfl,kk,(),⟨trivial,wk_text h,rfl⟩,rfl,(),⟨trivial, .refl _,rfl⟩, .refl _, .rfl⟩
       exact x_no 15 (fin (((XB_ok.add hIW).add (pureC hAr)).add (con1 (x_fail h hb))) rfl q) (.inl rfl)
     · rw [if_neg hf0]
       have hkT:(headT (takeR s).ts).kind≠11:=by rw [show (headT (takeR s).ts).kind=2 from hk2]; decide
       have hAr2:∃ n b,0≤n∧F fXArgs [s0 (headT s.ts).text] (.tup [i0 n,b0 b])∧(formS (headT s.ts).text=1→n=0∧b=false)∧(formS (headT s.ts).text=2→n=1∧b=false)∧(formS (headT s.ts).text=3→n=1∧b=true):=by
         rcases form_cases (headT s.ts).text with c | c | c | c
         · exact absurd c hf0
         all_goals rw [c] at hAr ⊢
         · exact ⟨0,false,by decide,hAr,fun _=>⟨rfl,rfl⟩,fun c=>absurd c (by decide),fun c=>absurd c (by decide)⟩
         · exact ⟨1,false,by decide,hAr,fun c=>absurd c (by decide),fun _=>⟨rfl,rfl⟩,fun c=>absurd c (by decide)⟩
         · exact ⟨1,true,by decide,hAr,fun c=>absurd c (by decide),fun c=>absurd c (by decide),fun _=>⟨rfl,rfl⟩⟩
       obtain ⟨n,bn,hn0,hArg,ha1,ha2,ha3⟩:=hAr2
       by_cases h24:24≤(takeR s).deep
       · obtain ⟨e,hD⟩:=x_downN TI hb hkT h24
         rw [e]
         simp only [Bool.false_eq_true,if_false]
         rw [pT] at hD
         have q:gAtCD _ _ _ _ _ _ _ _ _ _:=(gAtCD_vc (all.map encT) (plc all s) s.deep (s.out.map xE) (badE (failR 16 (takeR s))) (badP (failR 16 (takeR s))) (headT s.ts).text n bn).mpr
           ⟨(),⟨trivial, .refl _,rfl⟩,rfl,(),⟨trivial, .refl _,rfl⟩,rfl,x_tokB h _ rfl,x_in h,x_tokC TI pT _ rfl,kk,(),⟨trivial,wk_text h,rfl⟩,decide_eq_false (by omega),x_in h,(),⟨trivial, .refl _,rfl⟩,rfl, .refl _, .rfl⟩
         refine x_no (s:=takeR s) (c:=0) 16 ?_ (.inl rfl)
         rw [pT]
         exact fin (((XB_ok.add hIW).add (pureC hArg)).add (con1 (f:=fXDown) hD)) rfl q
       · obtain ⟨u,e,gu,uI,ub,ud,ud24,ul,uo,hD⟩:=x_down TI hb hkT h24
         rw [e]
         simp only [if_true]
         have gsu:RI 1 1 s u:=gt.trans hb gu
         rw [pT] at hD
         have hD:FOk Tryz.prog gl0 fXDown [xArg] (xHp 0 (all.map encT) (plc all s+1) s.deep (s.out.map xE) 0 0) ⟨b0 true,xHp 0 (all.map encT) (plc all u) (s.deep+1) (s.out.map xE) 0 0,[1048578]⟩:=hD
         have ud:u.deep=s.deep+1:=ud
         have uo:u.out=s.out:=uo
         have base:=((XB_ok.add hIW).add (pureC hArg)).add (con1 (f:=fXDown) hD)
         by_cases hf1:formS (headT s.ts).text=1
         · rw [if_pos hf1,if_neg (by rw [hf1]; decide)]
           obtain ⟨rfl,rfl⟩:=ha1 hf1
           show FOk _ _ _ _ _ ⟨i0 ((addR ⟨10,(headT s.ts).at_,0,(headT s.ts).text,[]⟩ (upR (wantR 3 u).2)).1:Int),_,_⟩
           obtain ⟨b,w,ew,wd,wo,_,hW⟩:=x_want uI 3 (by decide)
           have gw:=gsu.want (c:=3) (by decide)
           simp only [ew] at gw ⊢
           have zI:XInv all (upR w):=h.of_RI hd (RI.up (k:=0) gw)
           have hA:=x_addC zI 10 (headT s.ts).at_ 0 (headT s.ts).text []
           unfold xQ at hA hW
           rw [(bad0 ub).1,(bad0 ub).2] at hW
           have hA2:FOk Tryz.prog gl0 fXAdd (xArg::[rgV 10 (headT s.ts).at_ 0 (headT s.ts).text []]) (xHp 0 (all.map encT) (plc all w) (w.deep-1) (w.out.map xE) (badE w) (badP w)) ⟨i0 ((w.out.map xE).length:Int),xHp 1 (all.map encT) (plc all w) (w.deep-1) (w.out.map xE++[rgV 10 (headT s.ts).at_ 0 (headT s.ts).text []]) (badE w) (badP w),[1048577,1048578]⟩:=hA
           rw [wd,wo,ud,uo] at hA2
           rw [ud,uo] at hW
           have z:gAtC1 _ _ _ _ _ _ _ _ _ _ _ _:=(gAtC1_vc (all.map encT) (plc all s) s.deep (s.out.map xE) (headT s.ts).text (headT s.ts).at_ (plc all u) (plc all w) (badE w) (badP w) b).mpr
             ⟨(),⟨trivial, .refl _,rfl⟩,rfl,(),⟨trivial, .refl _,rfl⟩,rfl,x_tokB h _ rfl,x_in h,x_tokC TI pT _ rfl,kk,(),⟨trivial,wk_text h,rfl⟩,rfl,x_in h,(),⟨trivial, .refl _,rfl⟩,rfl,rfl,rfl,rfl,rfl,(),⟨trivial, .refl _,rfl⟩,RI.deepI zI (wd.trans ud),(),⟨trivial,wk_nodeC h 10 0 .nilS,rfl⟩, .refl _, .rfl⟩
           refine x_lastC (upR w) 10 _ 0 _ [] ?_
           show FOk _ _ _ _ _ ⟨i0 ((w.out.map xE).length:Int),xHp 1 (all.map encT) (plc all w) (w.deep-1) (w.out.map xE++[rgV 10 (headT s.ts).at_ 0 (headT s.ts).text []]) (badE w) (badP w),_⟩
           rw [wd,wo,ud,uo]
           exact fin ((base.add (con1 hW)).add (con1 hA2)) rfl z
         · rw [if_neg hf1]
           have hx:=x_lv ub (ih .expr u uI ub ud24 (by show _+5≤_; omega))
           have gq:=RP_RI f .expr u uI.ok uI.bad
           rw [ud,uo] at hx
           generalize RP f .expr u=q at hx gq ⊢
           have qI:XInv all q.2:=uI.of_RI ud24 gq
           have gsq:RI 1 1 s q.2:=gsu.trans ub gq
           by_cases hf3:formS (headT s.ts).text=3
           · rw [if_pos hf3]
             obtain ⟨rfl,rfl⟩:=ha3 hf3
             obtain ⟨b4,w4,ew4,wd4,wo4,hb4,hW4⟩:=x_want qI 4 (by decide)
             have gw4:=gsq.want (c:=4) (by decide)
             have gv4:=gq.want (c:=4) (by decide)
             simp only [ew4] at gw4 gv4 ⊢
             have w4I:XInv all w4:=uI.of_RI ud24 gv4
             cases b4 with
             | false =>
               simp only [Bool.false_eq_true,if_false]
               show FOk _ _ _ _ _ ⟨i0 ((addR ⟨10,(headT s.ts).at_,0,(headT s.ts).text,[q.1]⟩ (upR (wantR 3 w4).2)).1:Int),_,_⟩
               obtain ⟨b,w,ew,wd,wo,_,hW⟩:=x_want w4I 3 (by decide)
               have gw:=gw4.want (c:=3) (by decide)
               simp only [ew] at gw ⊢
               have zI:XInv all (upR w):=h.of_RI hd (RI.up (k:=0) gw)
               have hA:=x_addC zI 10 (headT s.ts).at_ 0 (headT s.ts).text [q.1]
               unfold xQ at hA hW hW4
               have hA2:FOk Tryz.prog gl0 fXAdd (xArg::[rgV 10 (headT s.ts).at_ 0 (headT s.ts).text [i0 (q.1:Int)]]) (xHp 0 (all.map encT) (plc all w) (w.deep-1) (w.out.map xE) (badE w) (badP w)) ⟨i0 ((w.out.map xE).length:Int),xHp 1 (all.map encT) (plc all w) (w.deep-1) (w.out.map xE++[rgV 10 (headT s.ts).at_ 0 (headT s.ts).text [i0 (q.1:Int)]]) (badE w) (badP w),[1048577,1048578]⟩:=hA
               rw [wd,wo,wd4,wo4] at hA2
               rw [wd4,wo4] at hW
               have z:gAtC3X _ _ _ _ _ _ _ _ _ _ _ _ _ _ _ _ _ _ _ _ _:=(gAtC3X_vc (all.map encT) (plc all s) s.deep (s.out.map xE) (headT s.ts).text (headT s.ts).at_ (plc all u) (plc all q.2) q.2.deep (q.2.out.map xE) (badE q.2) (badP q.2) q.1 (plc all w) (badE w) (badP w) (plc all w4) (badE w4) (badP w4) b).mpr
                 ⟨(),⟨trivial, .refl _,rfl⟩,rfl,(),⟨trivial, .refl _,rfl⟩,rfl,x_tokB h _ rfl,x_in h,x_tokC TI pT _ rfl,kk,(),⟨trivial,wk_text h,rfl⟩,rfl,x_in h,(),⟨trivial, .refl _,rfl⟩,rfl,rfl,(),⟨trivial, .refl _,rfl⟩,rfl,rfl,(),⟨trivial, .refl _,rfl⟩,rfl,(),⟨trivial, .refl _,rfl⟩,RI.deepI zI (wd.trans wd4),(),⟨trivial,wk_nodeC h 10 0 .lst,rfl⟩, .refl _, .rfl⟩
               refine x_lastC (upR w) 10 _ 0 _ [q.1] ?_
               show FOk _ _ _ _ _ ⟨i0 ((w.out.map xE).length:Int),xHp 1 (all.map encT) (plc all w) (w.deep-1) (w.out.map xE++[rgV 10 (headT s.ts).at_ 0 (headT s.ts).text [i0 (q.1:Int)]]) (badE w) (badP w),_⟩
               rw [wd,wo,wd4,wo4]
               exact fin (((base.add (con1 (f:=fXExpr) hx)).add (conC hW4 (con1 hW))).add (con1 hA2)) rfl z
             | true =>
               simp only [if_true]
               obtain ⟨hq4,rw4⟩:=hb4 rfl
               have w4b:w4.bad=none:=by rw [rw4]; exact (isR_kind hq4).1
               unfold xQ at hW4
               rw [(bad0 w4b).1,(bad0 w4b).2] at hW4
               have hI4:=fun b=>x_isN w4I w4b (c:=1) (b:=b)
               have hN:=xnum_ok (headT w4.ts).text
               have hF4:=x_fail w4I w4b
               rw [wd4,wo4] at hF4
               rw [wd4,wo4] at hI4
               cases h41:isR 1 w4 with
               | false =>
                 simp only [Bool.false_eq_true,if_false]
                 have z:gAtC3F _ _ _ _ _ _ _ _ _ _ _ _ _ _ _ _ _ _ _ _ _ _:=(gAtC3F_vc (all.map encT) (plc all s) s.deep (s.out.map xE) (headT s.ts).text (headT w4.ts).text (headT s.ts).at_ (numN (headT w4.ts).text) (plc all u) (plc all q.2) q.2.deep (q.2.out.map xE) (badE q.2) (badP q.2) q.1 0 0 0 (plc all w4) (badE (failR 15 w4)) (badP (failR 15 w4))).mpr
                   ⟨(),⟨trivial, .refl _,rfl⟩,rfl,(),⟨trivial, .refl _,rfl⟩,rfl,x_tokB h _ rfl,x_in h,x_tokC TI pT _ rfl,kk,(),⟨trivial,wk_text h,rfl⟩,rfl,x_in h,(),⟨trivial, .refl _,rfl⟩,rfl,rfl,(),⟨trivial, .refl _,rfl⟩,rfl,rfl,(),⟨trivial, .refl _,rfl⟩,rfl,x_tokB w4I _ rfl,(),⟨trivial,wk_text w4I,rfl⟩,(),⟨trivial, .refl _,rfl⟩,rfl,rfl,rfl,rfl,(),⟨trivial, .refl _,rfl⟩, .refl _, .rfl⟩
                 have g:=fin (((((((XB_ok.add (conC hI2 (conC hI1 (con1 (hI4 false h41))))).add (pureC hArg)).add (con1 (f:=fXDown) hD)).add (con1 (f:=fXExpr) hx)).add (con1 hW4)).add (pureC hN)).add (con1 hF4)) rfl z
                 refine x_no (s:=w4) (c:=1) 15 ?_ (.inr rfl)
                 rw [wd4,wo4]; exact g
               | true =>
                 simp only [if_true]
                 have k4:(headT w4.ts).kind=1:=(isR_kind h41).2
                 have hk4:(headT w4.ts).kind≠11:=by rw [k4]; decide
                 rw [numberS_num,if_pos k4]
                 by_cases hm:0≤numN (headT w4.ts).text
                 · rw [if_pos hm]
                   have gt4:=(gw4.take hk4).less (Nat.le_succ 1)
                   have gu4:=(gv4.take hk4).less (Nat.zero_le _)
                   have t4I:XInv all (takeR w4):=uI.of_RI ud24 gu4
                   have p4:plc all (takeR w4)=plc all w4+1:=x_next w4I hk4
                   show FOk _ _ _ _ _ ⟨i0 ((addR ⟨10,(headT s.ts).at_,numN (headT w4.ts).text,(headT s.ts).text,[q.1]⟩ (upR (wantR 3 (takeR w4)).2)).1:Int),_,_⟩
                   obtain ⟨b,w,ew,wd,wo,_,hW⟩:=x_want t4I 3 (by decide)
                   have gw:=gt4.want (c:=3) (by decide)
                   simp only [ew] at gw ⊢
                   have zI:XInv all (upR w):=h.of_RI hd (RI.up (k:=0) gw)
                   have hA:=x_addC zI 10 (headT s.ts).at_ (numN (headT w4.ts).text) (headT s.ts).text [q.1]
                   unfold xQ at hA hW
                   rw [(bad0 (s:=takeR w4) w4b).1,(bad0 (s:=takeR w4) w4b).2,p4] at hW
                   have wd:w.deep=w4.deep:=wd
                   have wo:w.out=w4.out:=wo
                   have hW:FOk Tryz.prog gl0 fXWant [xArg,i0 3] (xHp 0 (all.map encT) (plc all w4+1) w4.deep (w4.out.map xE) 0 0) ⟨b0 b,xHp 0 (all.map encT) (plc all w) w4.deep (w4.out.map xE) (badE w) (badP w),[1048578]⟩:=hW
                   have hA2:FOk Tryz.prog gl0 fXAdd (xArg::[rgV 10 (headT s.ts).at_ (numN (headT w4.ts).text) (headT s.ts).text [i0 (q.1:Int)]]) (xHp 0 (all.map encT) (plc all w) (w.deep-1) (w.out.map xE) (badE w) (badP w)) ⟨i0 ((w.out.map xE).length:Int),xHp 1 (all.map encT) (plc all w) (w.deep-1) (w.out.map xE++[rgV 10 (headT s.ts).at_ (numN (headT w4.ts).text) (headT s.ts).text [i0 (q.1:Int)]]) (badE w) (badP w),[1048577,1048578]⟩:=hA
                   rw [wd,wo,wd4,wo4] at hA2
                   rw [wd4,wo4] at hW
                   have z:gAtC3Y _ _ _ _ _ _ _ _ _ _ _ _ _ _ _ _ _ _ _ _ _:=(gAtC3Y_vc (all.map encT) (plc all s) s.deep (s.out.map xE) (headT s.ts).text (headT w4.ts).text (headT s.ts).at_ (numN (headT w4.ts).text) (plc all u) (plc all q.2) q.2.deep (q.2.out.map xE) (badE q.2) (badP q.2) q.1 (plc all w) (badE w) (badP w) (plc all w4) b).mpr
                     ⟨(),⟨trivial, .refl _,rfl⟩,rfl,(),⟨trivial, .refl _,rfl⟩,rfl,x_tokB h _ rfl,x_in h,x_tokC TI pT _ rfl,kk,(),⟨trivial,wk_text h,rfl⟩,rfl,x_in h,(),⟨trivial, .refl _,rfl⟩,rfl,rfl,(),⟨trivial, .refl _,rfl⟩,rfl,rfl,(),⟨trivial, .refl _,rfl⟩,rfl,x_tokB w4I _ rfl,(),⟨trivial,wk_text w4I,rfl⟩,(),⟨trivial, .refl _,rfl⟩,rfl,rfl,rfl,decide_eq_false (by omega),x_in w4I,(),⟨trivial, .refl _,rfl⟩,RI.deepI zI (wd.trans wd4),(),⟨trivial,wk_nodeC h 10 _ .lst,rfl⟩, .refl _, .rfl⟩
                   refine x_lastC (upR w) 10 _ _ _ [q.1] ?_
                   show FOk _ _ _ _ _ ⟨i0 ((w.out.map xE).length:Int),xHp 1 (all.map encT) (plc all w) (w.deep-1) (w.out.map xE++[rgV 10 (headT s.ts).at_ (numN (headT w4.ts).text) (headT s.ts).text [i0 (q.1:Int)]]) (badE w) (badP w),_⟩
                   rw [wd,wo,wd4,wo4]
                   exact fin (((((((XB_ok.add (conC hI2 (conC hI1 (con1 (hI4 true h41))))).add (pureC hArg)).add (con1 (f:=fXDown) hD)).add (con1 (f:=fXExpr) hx)).add (conC hW4 (con1 hW))).add (pureC hN)).add (con1 hA2)) rfl z
                 · rw [if_neg hm]
                   have z:gAtC3N _ _ _ _ _ _ _ _ _ _ _ _ _ _ _ _ _ _ _ _ _ _:=(gAtC3N_vc (all.map encT) (plc all s) s.deep (s.out.map xE) (headT s.ts).text (headT w4.ts).text (headT s.ts).at_ (numN (headT w4.ts).text) (plc all u) (plc all q.2) q.2.deep (q.2.out.map xE) (badE q.2) (badP q.2) q.1 0 0 0 (plc all w4) (badE (failR 15 w4)) (badP (failR 15 w4))).mpr
                     ⟨(),⟨trivial, .refl _,rfl⟩,rfl,(),⟨trivial, .refl _,rfl⟩,rfl,x_tokB h _ rfl,x_in h,x_tokC TI pT _ rfl,kk,(),⟨trivial,wk_text h,rfl⟩,rfl,x_in h,(),⟨trivial, .refl _,rfl⟩,rfl,rfl,(),⟨trivial, .refl _,rfl⟩,rfl,rfl,(),⟨trivial, .refl _,rfl⟩,rfl,x_tokB w4I _ rfl,(),⟨trivial,wk_text w4I,rfl⟩,(),⟨trivial, .refl _,rfl⟩,rfl,rfl,rfl,decide_eq_true (by omega),(),⟨trivial, .refl _,rfl⟩, .refl _, .rfl⟩
                   have g:=fin (((((((XB_ok.add (conC hI2 (conC hI1 (con1 (hI4 true h41))))).add (pureC hArg)).add (con1 (f:=fXDown) hD)).add (con1 (f:=fXExpr) hx)).add (con1 hW4)).add (pureC hN)).add (con1 hF4)) rfl z
                   refine x_no (s:=w4) (c:=1) 15 ?_ (.inr rfl)
                   rw [wd4,wo4]; exact g
           · rw [if_neg hf3]
             have hf2:formS (headT s.ts).text=2:=by rcases form_cases (headT s.ts).text with c | c | c | c <;> first | exact absurd c hf0 | exact absurd c hf1 | exact c | exact absurd c hf3
             obtain ⟨rfl,rfl⟩:=ha2 hf2
             show FOk _ _ _ _ _ ⟨i0 ((addR ⟨10,(headT s.ts).at_,0,(headT s.ts).text,[q.1]⟩ (upR (wantR 3 q.2).2)).1:Int),_,_⟩
             obtain ⟨b,w,ew,wd,wo,_,hW⟩:=x_want qI 3 (by decide)
             have gw:=gsq.want (c:=3) (by decide)
             simp only [ew] at gw ⊢
             have zI:XInv all (upR w):=h.of_RI hd (RI.up (k:=0) gw)
             have hA:=x_addC zI 10 (headT s.ts).at_ 0 (headT s.ts).text [q.1]
             unfold xQ at hA hW
             have hA2:FOk Tryz.prog gl0 fXAdd (xArg::[rgV 10 (headT s.ts).at_ 0 (headT s.ts).text [i0 (q.1:Int)]]) (xHp 0 (all.map encT) (plc all w) (w.deep-1) (w.out.map xE) (badE w) (badP w)) ⟨i0 ((w.out.map xE).length:Int),xHp 1 (all.map encT) (plc all w) (w.deep-1) (w.out.map xE++[rgV 10 (headT s.ts).at_ 0 (headT s.ts).text [i0 (q.1:Int)]]) (badE w) (badP w),[1048577,1048578]⟩:=hA
             rw [wd,wo] at hA2
             have z:gAtC2 _ _ _ _ _ _ _ _ _ _ _ _ _ _ _ _ _ _:=(gAtC2_vc (all.map encT) (plc all s) s.deep (s.out.map xE) (headT s.ts).text (headT s.ts).at_ (plc all u) (plc all q.2) q.2.deep (q.2.out.map xE) (badE q.2) (badP q.2) q.1 (plc all w) (badE w) (badP w) b).mpr
               ⟨(),⟨trivial, .refl _,rfl⟩,rfl,(),⟨trivial, .refl _,rfl⟩,rfl,x_tokB h _ rfl,x_in h,x_tokC TI pT _ rfl,kk,(),⟨trivial,wk_text h,rfl⟩,rfl,x_in h,(),⟨trivial, .refl _,rfl⟩,rfl,rfl,(),⟨trivial, .refl _,rfl⟩,rfl,rfl,rfl,(),⟨trivial, .refl _,rfl⟩,RI.deepI zI wd,(),⟨trivial,wk_nodeC h 10 0 .lst,rfl⟩, .refl _, .rfl⟩
             refine x_lastC (upR w) 10 _ 0 _ [q.1] ?_
             show FOk _ _ _ _ _ ⟨i0 ((w.out.map xE).length:Int),xHp 1 (all.map encT) (plc all w) (w.deep-1) (w.out.map xE++[rgV 10 (headT s.ts).at_ 0 (headT s.ts).text [i0 (q.1:Int)]]) (badE w) (badP w),_⟩
             rw [wd,wo]
             exact fin (((base.add (con1 (f:=fXExpr) hx)).add (con1 hW)).add (con1 hA2)) rfl z
end
end Go.Proofs.YtpofhijgccocpaaGreatDoor
end
section
namespace Go.Proofs.YtpofhijgccocpaaGreatDoor
open Go.AS Go.TP
noncomputable section
abbrev BL (f:Nat)(xs:List AV)(σ:Hp)(r:Ex × Back):Prop:=BlkOk Tryz.prog gl0 (fn f).ntmps (loopAt (code f) 0) [0,3] (fun _=>[3]) xs σ fun _ q=>q=r
theorem xHp_get (c:Nat)(all:List Tk)(t:RS)(k:Nat):aget (xS c all t) k=if k=1048577 then some ⟨[0,c], .row true 5 (t.out.map xE)⟩ else if k=1048578 then some ⟨[1,0], .row false 6 [.agg ([.lst false 3 (all.map encT),i0 ((all.length:Int)-t.ts.length),i0 t.deep] ++ .slc 1048577 [0,c] 0 (t.out.map xE).length::[i0 (badE t),i0 (badP t)])]⟩ else none:=by
 unfold xS xHp
 simp only [hpL]
 rw [aget_aset,aget_aset,aget_nil]; rfl
theorem xRenL {f:Nat}{all:List Tk}{t:RS}{xs:List AV}{σ:Hp}{v:Int}{ws:List Nat}(h:BL f xs σ (exX v (xS 0 all t) ws))(hw:∀ k,k∈ws→k=1048577∨k=1048578):BL f xs σ (exX v (xS 1 all t) [1048577,1048578]):=by
 have hg:=fun c=>xHp_get c all t
 refine BlkOk.ren (l:=1048577) (lp:=1048578) (i:=[0,0]) (i':=[0,1]) (ip:=[1,0]) (kk:=0) (ss:=0) h ?_ ((hg 0 _).trans (if_pos rfl)) ((hg 0 _).trans ((if_neg (by decide)).trans (if_pos rfl))) ?_ rfl rfl ⟨[0],rfl⟩ (by decide) (by decide) (hg 1) ?_ ?_ ?_
 · intro z hz; rw [List.mem_singleton] at hz; subst hz; exact .inl rfl
 · intro k e hk
   have hk:=(hg 0 k).symm.trans hk
   split at hk
   · exact .inl ‹_›
   · split at hk
     · exact .inr ‹_›
     · cases hk
 · intro k hk
   rcases hw k hk with rfl | rfl <;> decide
 · decide
 · decide
theorem xQ_add {all:List Tk}(z:RS)(k a:Int)(ps:List Nat)(c:Nat):xS c all (addR ⟨k,a,0,ByteArray.empty,ps⟩ z).2=xHp c (all.map encT) (plc all z) z.deep (z.out.map xE++[rgV k a 0 ByteArray.empty (ps.map fun j:Nat=>i0 (j:Int))]) (badE z) (badP z):=by
 show xHp c _ (plc all z) z.deep ((z.out++[(⟨k,a,0,ByteArray.empty,ps⟩:RN)]).map xE) (badE z) (badP z)=_
 rw [List.map_append]; rfl
attribute [local irreducible] runL in
set_option maxRecDepth 100000 in
theorem xTermL {f:Nat}{all:List Tk}(ih:IH all f):∀ (n:Nat)(r:Nat × RS),XInv all r.2→(r.2.bad=none→r.2.deep≤24)→r.2.ts.length≤n→5*r.2.ts.length≤f →
  BL fXTerm [xArg,i0 r.1] (xS 0 all r.2) (exX (chainR (RP f .part) kmT (isR 9) n r).1 (xS 1 all (chainR (RP f .part) kmT (isR 9) n r).2) [1048577,1048578]):=by
 have fin:∀ {X:WX}(hX:X.Sound)(hp:X.px=X0){os:Orc}{P:Prop}{v':Int}{σ':Hp}{r':Ex × Back}{fc:List Nat}{v:Int}{σ:Hp}{r:Ex × Back},(P→BL fXTerm [xArg,i0 v'] σ' r')→gXL (XQn X fXTerm [18,20]) fXTerm os P v' σ' r' fc v σ r→BL fXTerm [xArg,i0 v] σ r:=by
  intro X hX hp os P v' σ' r' fc v σ r hi g
  have hP:X.px.P=Tryz.prog:=by rw [hp]; rfl
  have hg:X.px.gl=gl0:=by rw [hp]; rfl
  have:=lp_round1 (X:=XQn X fXTerm [18,20]) ((hX.ask askX).askAt fXTerm _) (f:=fXTerm) (fn:=fn fXTerm) (code:=code fXTerm) (by show X.px.P.funcs[fXTerm]?=_; rw [hP]; exact fnOk fXTerm (by kernel_rfl)) (by kernel_rfl) (by decide) (fun p=>by show BlkOk X.px.P X.px.gl _ _ _ _ _ _ _; rw [hP,hg]; exact hi p) g
  show BlkOk Tryz.prog gl0 _ _ _ _ _ _ _; rw [←hg,←hP]; exact this
 intro n
 induction n with
 | zero =>
  intro r h hd hl hf
  have hne:=okT_ne h.ok
  cases hts:r.2.ts with
  | nil=>exact absurd hts hne
  | cons t u=>rw [hts] at hl; simp at hl
 | succ n ihn =>
  intro r h hd hl hf
  rw [chainR]
  cases hi:isR 9 r.2 with
  | false =>
   simp only [Bool.false_eq_true,if_false]
   have q:gLTE (Orc.f Orc.z) False _ _ _ _ _ _ _:=(gLTE_vc False (all.map encT) (plc all r.2) r.2.deep (r.2.out.map xE) (badE r.2) (badP r.2) r.1).mpr ⟨(),⟨trivial, .refl _,rfl⟩,rfl,rfl, .refl _, .rfl⟩
   exact xRenL (fin (XB_ok.add (con1 (x_isB h hi))) rfl (fun c=>c.elim) q) (fun k hk=>nomatch hk)
  | true =>
   simp only [if_true]
   have rb:=(isR_kind hi).1
   have rk:=(isR_kind hi).2
   have hk:(headT r.2.ts).kind≠11:=by rw [rk]; decide
   have r24:=hd rb
   have gt:=(RI.refl h.ok h.bad).take hk
   have TI:XInv all (takeR r.2):=h.of_RI r24 gt
   have tl:(takeR r.2).ts.length+1=r.2.ts.length:=takeT_len1 h.ok hk
   have hx:=x_lv (s:=takeR r.2) rb (ih .part (takeR r.2) TI rb r24 (by show _+3≤_; omega))
   have gq:=gt.trans rb (RP_RI f .part (takeR r.2) TI.ok TI.bad)
   have ql:(RP f .part (takeR r.2)).2.ts.length≤(takeR r.2).ts.length:=(RP_RI f .part (takeR r.2) TI.ok TI.bad).suf.length_le
   rw [show plc all (takeR r.2)=plc all r.2+1 from x_next h hk] at hx
   generalize RP f .part (takeR r.2)=q at hx gq ql ⊢
   rw [show kmT (headT r.2.ts).kind=4 from by rw [rk]; rfl]
   have gz:RI 0 0 r.2 (addR ⟨4,(headT r.2.ts).at_,0,ByteArray.empty,[r.1,q.1]⟩ q.2).2:=gq.add _
   have zI:=h.of_RI r24 gz
   have qI:=h.of_RI r24 gq
   have hn:=ihn (addR ⟨4,(headT r.2.ts).at_,0,ByteArray.empty,[r.1,q.1]⟩ q.2) zI (fun hb=>by have:=gz.dn hb; omega) (by show q.2.ts.length≤n; omega) (by show 5*q.2.ts.length≤f; omega)
   generalize chainR (RP f .part) kmT (isR 9) n (addR ⟨4,(headT r.2.ts).at_,0,ByteArray.empty,[r.1,q.1]⟩ q.2)=R at hn ⊢
   rw [xQ_add] at hn
   have lm:(q.2.out.map xE).length=q.2.out.length:=List.length_map ..
   have hn:BL fXTerm [xArg,i0 (q.2.out.length:Int)] _ _:=hn
   rw [←lm] at hn
   have z:gLT9 (Orc.t Orc.z) True _ _ _ _ _ _ _ _ _ _ _ _ _ _ _ _ _ _:=(gLT9_vc True (all.map encT) (plc all r.2) r.2.deep (r.2.out.map xE) r.1 (plc all q.2) q.2.deep (q.2.out.map xE) (badE q.2) (badP q.2) q.1 (headT r.2.ts).at_ R.1 (plc all R.2) R.2.deep (R.2.out.map xE) (badE R.2) (badP R.2)).mpr ⟨(),⟨trivial, .refl _,rfl⟩,rfl,x_tokB h _ rfl,x_in h,(),⟨trivial, .refl _,rfl⟩,(),⟨trivial,wk_node all h 4 _,rfl⟩,(),⟨trivial, .refl _,rfl⟩,rfl, .refl _, .rfl⟩
   rw [xS_none rb]
   exact fin (((XB_ok.add (con1 (x_isN h rb hi))).add (con1 (f:=fXPart) hx)).add (con1 (x_addB qI 4 (headT r.2.ts).at_ [r.1,q.1]))) rfl (fun _=>hn) z
attribute [local irreducible] runF in
set_option maxRecDepth 100000 in
theorem xTerm_ok {f:Nat}{all:List Tk}(ih:IH all f){s:RS}(h:XInv all s)(hb:s.bad=none)(hd:s.deep≤24)(hf:5*s.ts.length+4≤f+1):LvOk all (f+1) .term s:=by
 unfold LvOk
 rw [xS_none hb,RP]
 have ha:=x_lv hb (ih .part s h hb hd (by show _+3≤_; omega))
 have ga:=RP_RI f .part s h.ok h.bad
 generalize RP f .part s=A at ha ga ⊢
 have al:A.2.ts.length≤s.ts.length:=ga.suf.length_le
 have hl:=xTermL ih f A (h.of_RI hd ga) (fun hb=>by have:=ga.dn hb; omega) (by omega) (by omega)
 generalize chainR (RP f .part) kmT (isR 9) f A=R at hl ⊢
 have q:gFT _ _ _ _ _ _ _ _ _ _ _ _ _ _ _ _ _:=(gFT_vc (all.map encT) (plc all s) s.deep (s.out.map xE) (plc all A.2) A.2.deep (A.2.out.map xE) (badE A.2) (badP A.2) A.1 R.1 (plc all R.2) R.2.deep (R.2.out.map xE) (badE R.2) (badP R.2)).mpr ⟨(),⟨trivial, .refl _,rfl⟩,(),⟨trivial, .refl _,rfl⟩, .refl _, .rfl⟩
 have hX:=(XB_ok.add (con1 (f:=fXPart) ha)).addLp (fnOk fXTerm (by kernel_rfl)) (show (fn fXTerm).body=some (code fXTerm) by kernel_rfl) (by kernel_rfl)
  (Spl.ok (L:=Lp1 [0,3] [] (fun _=>[3]) True [xArg,i0 A.1] (xS 0 all A.2) (exX R.1 (xS 1 all R.2) [1048577,1048578])) (l:=[⟨Unit,fun _=>True,fun _=>[xArg,i0 A.1],fun _=>xS 0 all A.2,fun _=>exX R.1 (xS 1 all R.2) [1048577,1048578]⟩]) rfl (show ([0,3]:List Nat).Nodup by decide) fun s' hs' i _=>by obtain rfl:=List.mem_singleton.1 hs'; exact hl)
 exact fn_ok (d:=14) (hX.ask askX) (f:=fXTerm) (fn:=fn fXTerm) (code:=code fXTerm) (fnOk fXTerm (by kernel_rfl)) (by kernel_rfl) (by kernel_rfl) q
attribute [local irreducible] runL in
set_option maxRecDepth 100000 in
theorem xExprL {f:Nat}{all:List Tk}(ih:IH all f):∀ (n:Nat)(r:Nat × RS),XInv all r.2→(r.2.bad=none→r.2.deep≤24)→r.2.ts.length≤n→5*r.2.ts.length≤f →
  BL fXExpr [xArg,i0 r.1] (xS 0 all r.2) (exX (chainR (RP f .term) kmE isE n r).1 (xS 1 all (chainR (RP f .term) kmE isE n r).2) [1048577,1048578]):=by
 have fin:∀ {X:WX}(hX:X.Sound)(hp:X.px=X0){os:Orc}{P:Prop}{v':Int}{σ':Hp}{r':Ex × Back}{fc:List Nat}{v:Int}{σ:Hp}{r:Ex × Back},(P→BL fXExpr [xArg,i0 v'] σ' r')→gXL (XQn X fXExpr [22,24]) fXExpr os P v' σ' r' fc v σ r→BL fXExpr [xArg,i0 v] σ r:=by
  intro X hX hp os P v' σ' r' fc v σ r hi g
  have hP:X.px.P=Tryz.prog:=by rw [hp]; rfl
  have hg:X.px.gl=gl0:=by rw [hp]; rfl
  have:=lp_round1 (X:=XQn X fXExpr [22,24]) ((hX.ask askX).askAt fXExpr _) (f:=fXExpr) (fn:=fn fXExpr) (code:=code fXExpr) (by show X.px.P.funcs[fXExpr]?=_; rw [hP]; exact fnOk fXExpr (by kernel_rfl)) (by kernel_rfl) (by decide) (fun p=>by show BlkOk X.px.P X.px.gl _ _ _ _ _ _ _; rw [hP,hg]; exact hi p) g
  show BlkOk Tryz.prog gl0 _ _ _ _ _ _ _; rw [←hg,←hP]; exact this
 intro n
 induction n with
 | zero =>
  intro r h hd hl hf
  have hne:=okT_ne h.ok
  cases hts:r.2.ts with
  | nil=>exact absurd hts hne
  | cons t u=>rw [hts] at hl; simp at hl
 | succ n ihn =>
  intro r h hd hl hf
  rw [chainR]
  cases hi7:isR 7 r.2 with
  | false =>
   cases hi8:isR 8 r.2 with
   | false =>
    have hE:isE r.2=false:=by unfold isE; rw [hi7,hi8]; rfl
    rw [hE]
    simp only [Bool.false_eq_true,if_false]
    have q:gLEE ogLEE False _ _ _ _ _ _ _:=(gLEE_vc False (all.map encT) (plc all r.2) r.2.deep (r.2.out.map xE) (badE r.2) (badP r.2) r.1).mpr ⟨(),⟨trivial, .refl _,rfl⟩,rfl,rfl,(),⟨trivial, .refl _,rfl⟩,rfl,rfl, .refl _, .rfl⟩
    exact xRenL (fin (XB_ok.add (conC (x_isB h hi7) (con1 (x_isB h hi8)))) rfl (fun c=>c.elim) q) (fun k hk=>nomatch hk)
   | true =>
    have hE:isE r.2=true:=by unfold isE; rw [hi7,hi8]; rfl
    rw [hE]
    simp only [if_true]
    have rb:=(isR_kind hi8).1
    have rk:=(isR_kind hi8).2
    have hk:(headT r.2.ts).kind≠11:=by rw [rk]; decide
    have r24:=hd rb
    have gt:=(RI.refl h.ok h.bad).take hk
    have TI:XInv all (takeR r.2):=h.of_RI r24 gt
    have tl:(takeR r.2).ts.length+1=r.2.ts.length:=takeT_len1 h.ok hk
    have hx:=x_lv (s:=takeR r.2) rb (ih .term (takeR r.2) TI rb r24 (by show _+4≤_; omega))
    have gq:=gt.trans rb (RP_RI f .term (takeR r.2) TI.ok TI.bad)
    have ql:(RP f .term (takeR r.2)).2.ts.length≤(takeR r.2).ts.length:=(RP_RI f .term (takeR r.2) TI.ok TI.bad).suf.length_le
    rw [show plc all (takeR r.2)=plc all r.2+1 from x_next h hk] at hx
    generalize RP f .term (takeR r.2)=q at hx gq ql ⊢
    rw [show kmE (headT r.2.ts).kind=3 from by rw [rk]; rfl]
    have gz:RI 0 0 r.2 (addR ⟨3,(headT r.2.ts).at_,0,ByteArray.empty,[r.1,q.1]⟩ q.2).2:=gq.add _
    have zI:=h.of_RI r24 gz
    have qI:=h.of_RI r24 gq
    have hn:=ihn (addR ⟨3,(headT r.2.ts).at_,0,ByteArray.empty,[r.1,q.1]⟩ q.2) zI (fun hb=>by have:=gz.dn hb; omega) (by show q.2.ts.length≤n; omega) (by show 5*q.2.ts.length≤f; omega)
    generalize chainR (RP f .term) kmE isE n (addR ⟨3,(headT r.2.ts).at_,0,ByteArray.empty,[r.1,q.1]⟩ q.2)=R at hn ⊢
    rw [xQ_add] at hn
    have lm:(q.2.out.map xE).length=q.2.out.length:=List.length_map ..
    have hn:BL fXExpr [xArg,i0 (q.2.out.length:Int)] _ _:=hn
    rw [←lm] at hn
    have z:gLE8 ogLE8 True _ _ _ _ _ _ _ _ _ _ _ _ _ _ _ _ _ _:=(gLE8_vc True (all.map encT) (plc all r.2) r.2.deep (r.2.out.map xE) r.1 (plc all q.2) q.2.deep (q.2.out.map xE) (badE q.2) (badP q.2) q.1 (headT r.2.ts).at_ R.1 (plc all R.2) R.2.deep (R.2.out.map xE) (badE R.2) (badP R.2)).mpr ⟨(),⟨trivial, .refl _,rfl⟩,rfl,rfl,(),⟨trivial, .refl _,rfl⟩,rfl,x_tokB h _ rfl,(),⟨trivial, .refl _,rfl⟩,rfl,x_in h,(),⟨trivial, .refl _,rfl⟩,(),⟨trivial,wk_node all h 3 _,rfl⟩,(),⟨trivial, .refl _,rfl⟩,rfl, .refl _, .rfl⟩
    rw [xS_none rb]
    exact fin (((XB_ok.add (conC (x_isN h rb hi7) (con1 (x_isN h rb hi8)))).add (con1 (f:=fXTerm) hx)).add (con1 (x_addB qI 3 (headT r.2.ts).at_ [r.1,q.1]))) rfl (fun _=>hn) z
  | true =>
   have hE:isE r.2=true:=by unfold isE; rw [hi7]; rfl
   rw [hE]
   simp only [if_true]
   have hi8:isR 8 r.2=false:=by unfold isR; rw [(isR_kind hi7).2]; simp
   have rb:=(isR_kind hi7).1
   have rk:=(isR_kind hi7).2
   have hk:(headT r.2.ts).kind≠11:=by rw [rk]; decide
   have r24:=hd rb
   have gt:=(RI.refl h.ok h.bad).take hk
   have TI:XInv all (takeR r.2):=h.of_RI r24 gt
   have tl:(takeR r.2).ts.length+1=r.2.ts.length:=takeT_len1 h.ok hk
   have hx:=x_lv (s:=takeR r.2) rb (ih .term (takeR r.2) TI rb r24 (by show _+4≤_; omega))
   have gq:=gt.trans rb (RP_RI f .term (takeR r.2) TI.ok TI.bad)
   have ql:(RP f .term (takeR r.2)).2.ts.length≤(takeR r.2).ts.length:=(RP_RI f .term (takeR r.2) TI.ok TI.bad).suf.length_le
   rw [show plc all (takeR r.2)=plc all r.2+1 from x_next h hk] at hx
   generalize RP f .term (takeR r.2)=q at hx gq ql ⊢
   rw [show kmE (headT r.2.ts).kind=2 from by rw [rk]; rfl]
   have gz:RI 0 0 r.2 (addR ⟨2,(headT r.2.ts).at_,0,ByteArray.empty,[r.1,q.1]⟩ q.2).2:=gq.add _
   have zI:=h.of_RI r24 gz
   have qI:=h.of_RI r24 gq
   have hn:=ihn (addR ⟨2,(headT r.2.ts).at_,0,ByteArray.empty,[r.1,q.1]⟩ q.2) zI (fun hb=>by have:=gz.dn hb; omega) (by show q.2.ts.length≤n; omega) (by show 5*q.2.ts.length≤f; omega)
   generalize chainR (RP f .term) kmE isE n (addR ⟨2,(headT r.2.ts).at_,0,ByteArray.empty,[r.1,q.1]⟩ q.2)=R at hn ⊢
   rw [xQ_add] at hn
   have lm:(q.2.out.map xE).length=q.2.out.length:=List.length_map ..
   have hn:BL fXExpr [xArg,i0 (q.2.out.length:Int)] _ _:=hn
   rw [←lm] at hn
   have z:gLE7 ogLE7 True _ _ _ _ _ _ _ _ _ _ _ _ _ _ _ _ _ _:=(gLE7_vc True (all.map encT) (plc all r.2) r.2.deep (r.2.out.map xE) r.1 (plc all q.2) q.2.deep (q.2.out.map xE) (badE q.2) (badP q.2) q.1 (headT r.2.ts).at_ R.1 (plc all R.2) R.2.deep (R.2.out.map xE) (badE R.2) (badP R.2)).mpr ⟨(),⟨trivial, .refl _,rfl⟩,rfl,rfl,rfl,x_tokB h _ rfl,(),⟨trivial, .refl _,rfl⟩,rfl,x_in h,(),⟨trivial, .refl _,rfl⟩,(),⟨trivial,wk_node all h 2 _,rfl⟩,(),⟨trivial, .refl _,rfl⟩,rfl, .refl _, .rfl⟩
   rw [xS_none rb]
   exact fin (((XB_ok.add (conC (x_isN h rb hi7) (con1 (x_isN h rb hi8)))).add (con1 (f:=fXTerm) hx)).add (con1 (x_addB qI 2 (headT r.2.ts).at_ [r.1,q.1]))) rfl (fun _=>hn) z
attribute [local irreducible] runF in
set_option maxRecDepth 100000 in
theorem xExpr_ok {f:Nat}{all:List Tk}(ih:IH all f){s:RS}(h:XInv all s)(hb:s.bad=none)(hd:s.deep≤24)(hf:5*s.ts.length+5≤f+1):LvOk all (f+1) .expr s:=by
 unfold LvOk
 rw [xS_none hb,RP]
 have ha:=x_lv hb (ih .term s h hb hd (by show _+4≤_; omega))
 have ga:=RP_RI f .term s h.ok h.bad
 generalize RP f .term s=A at ha ga ⊢
 have al:A.2.ts.length≤s.ts.length:=ga.suf.length_le
 have hl:=xExprL ih f A (h.of_RI hd ga) (fun hb=>by have:=ga.dn hb; omega) (by omega) (by omega)
 generalize chainR (RP f .term) kmE isE f A=R at hl ⊢
 have q:gFE _ _ _ _ _ _ _ _ _ _ _ _ _ _ _ _ _:=(gFE_vc (all.map encT) (plc all s) s.deep (s.out.map xE) (plc all A.2) A.2.deep (A.2.out.map xE) (badE A.2) (badP A.2) A.1 R.1 (plc all R.2) R.2.deep (R.2.out.map xE) (badE R.2) (badP R.2)).mpr ⟨(),⟨trivial, .refl _,rfl⟩,(),⟨trivial, .refl _,rfl⟩, .refl _, .rfl⟩
 have hX:=(XB_ok.add (con1 (f:=fXTerm) ha)).addLp (fnOk fXExpr (by kernel_rfl)) (show (fn fXExpr).body=some (code fXExpr) by kernel_rfl) (by kernel_rfl)
  (Spl.ok (L:=Lp1 [0,3] [] (fun _=>[3]) True [xArg,i0 A.1] (xS 0 all A.2) (exX R.1 (xS 1 all R.2) [1048577,1048578])) (l:=[⟨Unit,fun _=>True,fun _=>[xArg,i0 A.1],fun _=>xS 0 all A.2,fun _=>exX R.1 (xS 1 all R.2) [1048577,1048578]⟩]) rfl (show ([0,3]:List Nat).Nodup by decide) fun s' hs' i _=>by obtain rfl:=List.mem_singleton.1 hs'; exact hl)
 exact fn_ok (d:=14) (hX.ask askX) (f:=fXExpr) (fn:=fn fXExpr) (code:=code fXExpr) (fnOk fXExpr (by kernel_rfl)) (by kernel_rfl) (by kernel_rfl) q
theorem xLv_ok {all:List Tk}(hsz:∀ t∈all,t.text.size≤1000000):∀ f:Nat,IH all f:=by
 intro f
 induction f with
 | zero=>intro lv s _ _ _ hf; cases lv <;> (simp [offL] at hf)
 | succ f ih =>
  intro lv s h hb hd hf
  cases lv with
  | expr=>exact xExpr_ok ih h hb hd hf
  | term=>exact xTerm_ok ih h hb hd hf
  | part=>exact xPart_ok ih h hb hd hf
  | ranged=>exact xRang_ok ih h hb hd hf
  | atom=>exact xAtom_ok hsz ih h hb hd hf
end
end Go.Proofs.YtpofhijgccocpaaGreatDoor
end
section
namespace Go.Proofs.YtpofhijgccocpaaGreatDoor
open Go.AS Go.TP
noncomputable section
abbrev jw (s:ByteArray)(ys:List AV)(i n:Int):List AV:=[s0 s, .lit (.slice none 0 0),i0 0,i0 0, .slc 1048577 [0,0] 0 ys.length,i0 i,i0 n]
abbrev jwO (s:ByteArray)(ys:List AV)(i n:Int):Ex × Back:=(.exit 3,⟨.tup (jw s ys i n),lexHeap ys,[]⟩)
abbrev lpJW (P:Prop)(s:ByteArray)(ys:List AV)(i n w:Int):Lp:=Lp1 [0,2,3,4,5,6,8] [] (fun _=>[0,2,3,4,5,6,8]) P (jw s ys i n) (lexHeap ys) (jwO s ys i w)
def rJW (os:Orc)(P:Prop)(s:ByteArray)(ys:List AV)(i n w:Int):Prop:=runL (XJ.ask [fXLex]) 8 fXLex (fn fXLex).ntmps (loopAt (code fXLex) 3) (lpJW P s ys i (n+1) w) (lpJW P s ys i (n+1) w) os 0 [] (jw s ys i n) (lexHeap ys) (jwO s ys i w)
def jxArgs (s:ByteArray)(ys:List AV)(i:Int):List AV:=[s0 s, .lit (.slice none 0 0),i0 0,i0 0, .slc 1048577 [0,0] 0 ys.length,i0 i]
def jxR (c:Nat)(ex:Ex)(s:ByteArray)(e j:Int)(ys:List AV):Ex × Back:=(ex,⟨.tup [s0 s, .lit (.slice none 0 0),i0 e,i0 j, .slc 1048577 [0,c] 0 ys.length],hpL [(1048577,⟨[0,c], .row true 3 ys⟩)],[1048577]⟩)
abbrev lpJX (Q:Int→List AV→Prop)(s:ByteArray)(r:Ex × Back):Lp:=⟨[0,2,3,4,5,6],[(5,3)],fun _=>[0,2,3,4,5],Spl.con [⟨Int × List AV,fun q=>Q q.1 q.2,fun q=>jxArgs s q.2 q.1,fun q=>lexHeap q.2,fun _=>r⟩]⟩
def XJX (s:ByteArray)(ys:List AV)(i w:Int):WX:=XJ.addLp fXLex 3 (lpJW True s ys i 1 w)
def rJX (X:WX)(os:Orc)(fc:List Nat)(Q:Int→List AV→Prop)(s:ByteArray)(ys:List AV)(i:Int)(r r':Ex × Back):Prop :=
 runL (X.ask [fXLex]) 10 fXLex (fn fXLex).ntmps (loopAt (code fXLex) 0) (lpJX Q s r') (lpJX Q s r') os 0 fc (jxArgs s ys i) (lexHeap ys) r
def rJXE (os:Orc)(Q:Int→List AV→Prop)(s:ByteArray)(ys:List AV)(i:Int):Prop:=rJX XJ os [] Q s ys i (jxR 0 (.exit 0) s 0 0 ys) (jxR 0 (.exit 0) s 0 0 ys)
def rJXX (os:Orc)(Q:Int→List AV→Prop)(s:ByteArray)(ys:List AV)(i:Int):Prop:=rJX XJ os [] Q s ys i (jxR 0 .ret s 15 i ys) (jxR 0 .ret s 15 i ys)
def rJXA (X:WX)(os:Orc)(Q:Int→List AV→Prop)(ex:Ex)(s:ByteArray)(e j:Int)(ys zs:List AV)(i:Int):Prop:=rJX X os [1048577] Q s ys i (jxR 1 ex s e j zs) (jxR 1 ex s e j zs)
def rJXX1 (os:Orc)(Q:Int→List AV→Prop)(s:ByteArray)(ys:List AV)(i:Int):Prop:=rJXX os Q s ys i
def rJXX2 (os:Orc)(Q:Int→List AV→Prop)(s:ByteArray)(ys:List AV)(i:Int):Prop:=rJXX os Q s ys i
def rJXX3 (os:Orc)(Q:Int→List AV→Prop)(s:ByteArray)(ys:List AV)(i:Int):Prop:=rJXX os Q s ys i
def rJXX4 (os:Orc)(Q:Int→List AV→Prop)(s:ByteArray)(ys:List AV)(i:Int):Prop:=rJXX os Q s ys i
def rJXB (os:Orc)(Q:Int→List AV→Prop)(ex:Ex)(s:ByteArray)(e j:Int)(ys zs:List AV)(i:Int):Prop:=rJXA XJ os Q ex s e j ys zs i
def rJXR (os:Orc)(Q:Int→List AV→Prop)(ex:Ex)(s:ByteArray)(e j:Int)(ys zs:List AV)(i:Int):Prop:=rJXA XJ os Q ex s e j ys zs i
def rJXD (os:Orc)(Q:Int→List AV→Prop)(ex:Ex)(s:ByteArray)(e j:Int)(ys zs:List AV)(i:Int):Prop:=rJXA XJ os Q ex s e j ys zs i
def rJXS1 (os:Orc)(Q:Int→List AV→Prop)(ex:Ex)(s:ByteArray)(e j:Int)(ys zs:List AV)(i:Int):Prop:=rJXA XJ os Q ex s e j ys zs i
def rJXS2 (os:Orc)(Q:Int→List AV→Prop)(ex:Ex)(s:ByteArray)(e j:Int)(ys zs:List AV)(i:Int):Prop:=rJXA XJ os Q ex s e j ys zs i
def rJXW (os:Orc)(Q:Int→List AV→Prop)(ex:Ex)(s:ByteArray)(e j:Int)(ys zs:List AV)(i w:Int):Prop:=rJXA (XJX s ys i w) os Q ex s e j ys zs i
def gJX (os:Orc)(s:ByteArray)(r:Ex × Back)(x:AV):Prop:=runF ((XJ.addLp fXLex 0 (lpJX (fun i ys=>i=0∧ys=[]) s r)).ask [fXLex]) 10 fXLex (fn fXLex) (code fXLex) os 1 [] [s0 s] .nil ⟨x, .nil,[]⟩
def gJXL (os:Orc)(s:ByteArray):Prop:=runF (XJ.ask [fXLex]) 10 fXLex (fn fXLex) (code fXLex) os 1 [] [s0 s] .nil ⟨.tup [.lst false 3 [],i0 5,i0 0], .nil,[]⟩
def gJXA (os:Orc)(s:ByteArray)(zs:List AV):Prop:=gJX os s (jxR 1 (.exit 0) s 0 0 zs) (.tup [.lst false 3 (zs++[.agg [i0 11,i0 s.size,s0 ByteArray.empty]]),i0 0,i0 0])
def gJXC (os:Orc)(s:ByteArray)(zs:List AV)(j:Int):Prop:=gJX os s (jxR 1 .ret s 15 j zs) (.tup [.lst false 3 [],i0 15,i0 j])
end
end Go.Proofs.YtpofhijgccocpaaGreatDoor
end
section
namespace Go.Proofs.YtpofhijgccocpaaGreatDoor
open Go Go.AS Go.TP
noncomputable abbrev qVJ50 (s:ByteArray)(i:Int):=(↑(byteAt s (Int.toNat i)):Int)
noncomputable abbrev qVJ51 (s:ByteArray)(i:Int):=s0 (ByteArray.extract s (Int.toNat (Option.getD (some i) (0:Int))) (Int.toNat (Option.getD (some (i+(2:Int))) (↑(ByteArray.size s):Int))))
noncomputable abbrev qVJ52 (s:ByteArray)(i:Int)(ys:List AV):=(AV.tup [s0 s,AV.lit (Value.slice none 0 0),i0 (15:Int),i0 i,AV.slc 1048577 [0,0] 0 (List.length ys)])
def orJW:Orc:=Orc.s (HT (Orc.t (Orc.s Orc.z Orc.z))) (HF (Orc.f (Orc.f Orc.z)))
theorem rJW_vc (P:Prop)(s:ByteArray)(ys:List AV)(i n w:Int):rJW orJW P s ys i n w=(let z1:=(AV.tup [s0 s,AV.lit (Value.slice none 0 0),i0 (0:Int),i0 (0:Int),AV.slc 1048577 [0,0] 0 (List.length ys),i0 i,i0 w]); let z2:=[eR 1048577 [0,0] 3 ys]; let z3:=[s0 s,AV.lit (Value.slice none 0 0),i0 (0:Int),i0 (0:Int),AV.slc 1048577 [0,0] 0 (List.length ys),i0 i,i0 (n+(1:Int))]; let z4:=(AV.tup [s0 s,AV.lit (Value.slice none 0 0),i0 (0:Int),i0 (0:Int),AV.slc 1048577 [0,0] 0 (List.length ys),i0 i,i0 n]); let z5:=(↑(ByteArray.size s):Int); inR IntKind.i64 (i+n)=true∧(decide (i+n<z5)=true→Yt (Yt (Yt (inR IntKind.i64 (i+n)=true∧Yt (decide ((0:Int)≤i+n∧i+n<z5)=true∧Yt (∃ (i1:Nat),(i1<256∧Wks [AV.lit (Value.int IntKind.u8 (↑(byteAt s (Int.toNat (i+n))):Int))] [AV.lit (Value.int IntKind.u8 (↑i1:Int))]∧hpL []=hpL [])∧(letterN i1=true→inR IntKind.i64 (n+(1:Int))=true∧∃ (_:Unit),(P∧Wks z3 z3∧hpL z2=hpL z2)∧Ex.exit 3=Ex.exit 3∧Wk z1 z1∧SameH (hpL z2) (hpL z2))∧(letterN i1=false→Ex.exit 3=Ex.exit 3∧Wk z4 z1∧SameH (hpL z2) (hpL z2))))))))∧(decide (i+n<z5)=false→Nf4 (Nf (Nf (Ex.exit 3=Ex.exit 3∧Wk z4 z1∧SameH (hpL z2) (hpL z2)))))):=by kernel_rfl
theorem rJXE_vc (Q:Int→List AV→Prop)(s:ByteArray)(ys:List AV)(i:Int):rJXE (Orc.f Orc.z) Q s ys i=(let z1:=(AV.tup [s0 s,AV.lit (Value.slice none 0 0),i0 (0:Int),i0 (0:Int),AV.slc 1048577 [0,0] 0 (List.length ys)]); decide (i<(↑(ByteArray.size s):Int))=false∧Ex.exit 0=Ex.exit 0∧Wk z1 z1∧SameH (hpL [eR 1048577 [0,0] 3 ys]) (hpL [eR 1048577 [0,0] 3 ys])):=by kernel_rfl
theorem gJXL_vc (s:ByteArray):gJXL (Orc.t Orc.z) s=(decide ((↑(ByteArray.size s):Int)>(600:Int))=true∧Wk (AV.tup [AV.lit (Value.slice none 0 0),i0 (5:Int),i0 (0:Int)]) (AV.tup [AV.lst false 3 [],i0 (5:Int),i0 (0:Int)])∧SameH (hpL []) (hpL [])):=by kernel_rfl
theorem gJXA_vc (s:ByteArray)(zs:List AV):gJXA (Orc.f Orc.z) s zs=(let z1:=(↑(ByteArray.size s):Int); let z2:=(List.length zs); let z3:=(List.drop 0 zs); decide (z1>(600:Int))=false∧∃ (i1:Int × List AV),((Prod.fst i1=(0:Int)∧Prod.snd i1=[])∧Wks [s0 s,AV.lit (Value.slice none 0 0),i0 (0:Int),i0 (0:Int),AV.slc 1048577 [0,0] 0 0,i0 (0:Int)] [s0 s,AV.lit (Value.slice none 0 0),i0 (0:Int),i0 (0:Int),AV.slc 1048577 [0,0] 0 (List.length (Prod.snd i1)),i0 (Prod.fst i1)]∧hpL [eR 1048577 [0,0] 3 []]=hpL [eR 1048577 [0,0] 3 (Prod.snd i1)])∧(true&&(Nat.beq 3 3&&Nat.ble (0+List.length zs) z2)&&(Nat.beq 3 3&&decide (List.length (List.take z2 z3++[AV.agg [i0 (11:Int),i0 z1,s0 ⟨⟨[]⟩⟩]])*32≤140737488355328∧List.length (List.take z2 z3++[AV.agg [i0 (11:Int),i0 z1,s0 ⟨⟨[]⟩⟩]])≤1152921504606846976)))=true∧0+List.length (List.take z2 z3++[AV.agg [i0 (11:Int),i0 z1,s0 ⟨⟨[]⟩⟩]])≤List.length (List.take z2 z3++[AV.agg [i0 (11:Int),i0 z1,s0 ⟨⟨[]⟩⟩]])∧Wk (AV.tup [AV.lst false 3 (List.take (List.length (List.take z2 z3++[AV.agg [i0 (11:Int),i0 z1,s0 ⟨⟨[]⟩⟩]])) (List.drop 0 (List.take z2 z3++[AV.agg [i0 (11:Int),i0 z1,s0 ⟨⟨[]⟩⟩]]))),i0 (0:Int),i0 (0:Int)]) (AV.tup [AV.lst false 3 (zs++[AV.agg [i0 (11:Int),i0 z1,s0 ByteArray.empty]]),i0 (0:Int),i0 (0:Int)])∧SameH (hpL []) (hpL [])):=by kernel_rfl
theorem gJXC_vc (s:ByteArray)(zs:List AV)(j:Int):gJXC (Orc.f Orc.z) s zs j=(let z1:=AV.lit (Value.slice none 0 0); decide ((↑(ByteArray.size s):Int)>(600:Int))=false∧∃ (i1:Int × List AV),((Prod.fst i1=(0:Int)∧Prod.snd i1=[])∧Wks [s0 s,z1,i0 (0:Int),i0 (0:Int),AV.slc 1048577 [0,0] 0 0,i0 (0:Int)] [s0 s,z1,i0 (0:Int),i0 (0:Int),AV.slc 1048577 [0,0] 0 (List.length (Prod.snd i1)),i0 (Prod.fst i1)]∧hpL [eR 1048577 [0,0] 3 []]=hpL [eR 1048577 [0,0] 3 (Prod.snd i1)])∧Wk (AV.tup [z1,i0 (15:Int),i0 j]) (AV.tup [AV.lst false 3 [],i0 (15:Int),i0 j])∧SameH (hpL []) (hpL [])):=by kernel_rfl
def orJXB:Orc:=Orc.t (Orc.s (Orc.t (Orc.t (Orc.t (Orc.t Orc.z)))) (Orc.f (Orc.s (Orc.t (Orc.t Orc.z)) (Orc.f (Orc.t Orc.z)))))
theorem rJXB_vc (Q:Int→List AV→Prop)(ex:Ex)(s:ByteArray)(e j:Int)(ys zs:List AV)(i:Int):rJXB orJXB Q ex s e j ys zs i=(let z1:=(AV.tup [s0 s,AV.lit (Value.slice none 0 0),i0 e,i0 j,AV.slc 1048577 [0,1] 0 (List.length zs)]); let z2:=[s0 s,AV.lit (Value.slice none 0 0),i0 (0:Int),i0 (0:Int),AV.slc 1048577 [0,0] 0 (List.length ys),i0 (i+(1:Int))]; let z3:=(hpL [eR 1048577 [0,1] 3 zs]); let z4:=(↑(byteAt s (Int.toNat i)):Int); let z5:=AV.lit (Value.slice none 0 0); let z6:=[eR 1048577 [0,0] 3 ys]; decide (i<(↑(ByteArray.size s):Int))=true∧decide ((0:Int)≤i∧i<(↑(ByteArray.size s):Int))=true∧((z4==(32:Int))=true→Yt4 (inR IntKind.i64 (i+(1:Int))=true∧∃ (i1:Int × List AV),(Q (Prod.fst i1) (Prod.snd i1)∧Wks z2 [s0 s,z5,i0 (0:Int),i0 (0:Int),AV.slc 1048577 [0,0] 0 (List.length (Prod.snd i1)),i0 (Prod.fst i1)]∧hpL z6=hpL [eR 1048577 [0,0] 3 (Prod.snd i1)])∧ex=ex∧Wk z1 z1∧SameH z3 z3))∧((z4==(32:Int))=false→Nf (((z4==(9:Int))=true→Yt (Yt (inR IntKind.i64 (i+(1:Int))=true∧∃ (i2:Int × List AV),(Q (Prod.fst i2) (Prod.snd i2)∧Wks z2 [s0 s,z5,i0 (0:Int),i0 (0:Int),AV.slc 1048577 [0,0] 0 (List.length (Prod.snd i2)),i0 (Prod.fst i2)]∧hpL z6=hpL [eR 1048577 [0,0] 3 (Prod.snd i2)])∧ex=ex∧Wk z1 z1∧SameH z3 z3)))∧((z4==(9:Int))=false→Nf ((z4==(10:Int))=true∧inR IntKind.i64 (i+(1:Int))=true∧∃ (i3:Int × List AV),(Q (Prod.fst i3) (Prod.snd i3)∧Wks z2 [s0 s,z5,i0 (0:Int),i0 (0:Int),AV.slc 1048577 [0,0] 0 (List.length (Prod.snd i3)),i0 (Prod.fst i3)]∧hpL z6=hpL [eR 1048577 [0,0] 3 (Prod.snd i3)])∧ex=ex∧Wk z1 z1∧SameH z3 z3))))):=by kernel_rfl
def orJXW:Orc:=Orc.t (HF (Orc.f (Orc.t (Orc.s Orc.z (Orc.s Orc.z (Orc.s Orc.z (Orc.s Orc.z Orc.z)))))))
theorem rJXW_vc (Q:Int→List AV→Prop)(ex:Ex)(s:ByteArray)(e j:Int)(ys zs:List AV)(i w:Int):rJXW orJXW Q ex s e j ys zs i w=(let z1:=(ByteArray.extract s (Int.toNat (Option.getD (some i) (0:Int))) (Int.toNat (Option.getD (some (i+w)) (↑(ByteArray.size s):Int)))); let z2:=((0:Int)≤Option.getD (some i) (0:Int)∧Option.getD (some i) (0:Int)≤Option.getD (some (i+w)) (↑(ByteArray.size s):Int)∧Option.getD (some (i+w)) (↑(ByteArray.size s):Int)≤(↑(ByteArray.size s):Int)∧false=false); let z3:=(AV.tup [s0 s,AV.lit (Value.slice none 0 0),i0 e,i0 j,AV.slc 1048577 [0,1] 0 (List.length zs)]); let z4:=(List.length ys); let z5:=AV.lit (Value.slice none 0 0); let z6:=(hpL [eR 1048577 [0,1] 3 zs]); let z7:=(List.drop 0 ys); let z8:=(Nat.beq 3 3&&Nat.ble (0+List.length ys) z4); let z9:=(List.take z4 z7++[AV.agg [i0 (10:Int),i0 i,s0 z1]]); let z10:=(List.take z4 z7++[AV.agg [i0 (7:Int),i0 i,s0 z1]]); let z11:=(List.take z4 z7++[AV.agg [i0 (9:Int),i0 i,s0 z1]]); let z12:=(List.take z4 z7++[AV.agg [i0 (8:Int),i0 i,s0 z1]]); let z13:=(List.take z4 z7++[AV.agg [i0 (1:Int),i0 i,s0 z1]]); let z14:=(↑(byteAt s (Int.toNat i)):Int); let z15:=[s0 s,z5,i0 (0:Int),i0 (0:Int),AV.slc 1048577 [0,0] 0 z4,i0 i,i0 (1:Int)]; let z16:=(ByteArray.toList z1==ByteArray.toList bMinus); let z17:=(ByteArray.toList z1==ByteArray.toList bAnd); let z18:=(ByteArray.toList z1==ByteArray.toList bNot); let z19:=(ByteArray.toList z1==ByteArray.toList bOr); decide (i<(↑(ByteArray.size s):Int))=true∧decide ((0:Int)≤i∧i<(↑(ByteArray.size s):Int))=true∧(z14==(32:Int))=false∧Nf ((z14==(9:Int))=false∧Nf ((z14==(10:Int))=false∧∃ (i1:Nat),(i1<256∧Wks [AV.lit (Value.int IntKind.u8 z14)] [AV.lit (Value.int IntKind.u8 (↑i1:Int))]∧hpL []=hpL [])∧letterN i1=true∧U1 z15 [eR 1048577 [0,0] 3 ys] (inR IntKind.i64 (i+w)=true∧decide z2=true∧(z19=true→inR IntKind.i64 (i+w)=true∧decide z2=true∧(true&&z8&&(Nat.beq 3 3&&decide (List.length z10*32≤140737488355328∧List.length z10≤1152921504606846976)))=true∧inR IntKind.i64 (i+w)=true∧∃ (i3:Int × List AV),(Q (Prod.fst i3) (Prod.snd i3)∧Wks [s0 s,z5,i0 (0:Int),i0 (0:Int),AV.slc 1048577 [0,0] 0 (List.length z10),i0 (i+w)] [s0 s,z5,i0 (0:Int),i0 (0:Int),AV.slc 1048577 [0,0] 0 (List.length (Prod.snd i3)),i0 (Prod.fst i3)]∧hpL [eR 1048577 [0,0] 3 z10]=hpL [eR 1048577 [0,0] 3 (Prod.snd i3)])∧ex=ex∧Wk z3 z3∧SameH z6 z6)∧(z19=false→(z17=true→inR IntKind.i64 (i+w)=true∧decide z2=true∧(true&&z8&&(Nat.beq 3 3&&decide (List.length z11*32≤140737488355328∧List.length z11≤1152921504606846976)))=true∧inR IntKind.i64 (i+w)=true∧∃ (i4:Int × List AV),(Q (Prod.fst i4) (Prod.snd i4)∧Wks [s0 s,z5,i0 (0:Int),i0 (0:Int),AV.slc 1048577 [0,0] 0 (List.length z11),i0 (i+w)] [s0 s,z5,i0 (0:Int),i0 (0:Int),AV.slc 1048577 [0,0] 0 (List.length (Prod.snd i4)),i0 (Prod.fst i4)]∧hpL [eR 1048577 [0,0] 3 z11]=hpL [eR 1048577 [0,0] 3 (Prod.snd i4)])∧ex=ex∧Wk z3 z3∧SameH z6 z6)∧(z17=false→(z18=true→inR IntKind.i64 (i+w)=true∧decide z2=true∧(true&&z8&&(Nat.beq 3 3&&decide (List.length z9*32≤140737488355328∧List.length z9≤1152921504606846976)))=true∧inR IntKind.i64 (i+w)=true∧∃ (i5:Int × List AV),(Q (Prod.fst i5) (Prod.snd i5)∧Wks [s0 s,z5,i0 (0:Int),i0 (0:Int),AV.slc 1048577 [0,0] 0 (List.length z9),i0 (i+w)] [s0 s,z5,i0 (0:Int),i0 (0:Int),AV.slc 1048577 [0,0] 0 (List.length (Prod.snd i5)),i0 (Prod.fst i5)]∧hpL [eR 1048577 [0,0] 3 z9]=hpL [eR 1048577 [0,0] 3 (Prod.snd i5)])∧ex=ex∧Wk z3 z3∧SameH z6 z6)∧(z18=false→(z16=true→inR IntKind.i64 (i+w)=true∧decide z2=true∧(true&&z8&&(Nat.beq 3 3&&decide (List.length z12*32≤140737488355328∧List.length z12≤1152921504606846976)))=true∧inR IntKind.i64 (i+w)=true∧∃ (i6:Int × List AV),(Q (Prod.fst i6) (Prod.snd i6)∧Wks [s0 s,z5,i0 (0:Int),i0 (0:Int),AV.slc 1048577 [0,0] 0 (List.length z12),i0 (i+w)] [s0 s,z5,i0 (0:Int),i0 (0:Int),AV.slc 1048577 [0,0] 0 (List.length (Prod.snd i6)),i0 (Prod.fst i6)]∧hpL [eR 1048577 [0,0] 3 z12]=hpL [eR 1048577 [0,0] 3 (Prod.snd i6)])∧ex=ex∧Wk z3 z3∧SameH z6 z6)∧(z16=false→inR IntKind.i64 (i+w)=true∧decide z2=true∧(true&&z8&&(Nat.beq 3 3&&decide (List.length z13*32≤140737488355328∧List.length z13≤1152921504606846976)))=true∧inR IntKind.i64 (i+w)=true∧∃ (i7:Int × List AV),(Q (Prod.fst i7) (Prod.snd i7)∧Wks [s0 s,z5,i0 (0:Int),i0 (0:Int),AV.slc 1048577 [0,0] 0 (List.length z13),i0 (i+w)] [s0 s,z5,i0 (0:Int),i0 (0:Int),AV.slc 1048577 [0,0] 0 (List.length (Prod.snd i7)),i0 (Prod.fst i7)]∧hpL [eR 1048577 [0,0] 3 z13]=hpL [eR 1048577 [0,0] 3 (Prod.snd i7)])∧ex=ex∧Wk z3 z3∧SameH z6 z6)))))))):=by kernel_rfl
def orJXR:Orc:=Orc.t (HF (Orc.f (Orc.f (HT (Orc.t (Orc.t (Orc.t (Orc.t Orc.z))))))))
theorem rJXR_vc (Q:Int→List AV→Prop)(ex:Ex)(s:ByteArray)(e j:Int)(ys zs:List AV)(i:Int):rJXR orJXR Q ex s e j ys zs i=(let z1:=(List.take (List.length ys) (List.drop 0 ys)++[AV.agg [i0 (5:Int),i0 i,(qVJ51 s i)]]); let z2:=(↑(ByteArray.size s):Int); let z3:=(AV.tup [s0 s,AV.lit (Value.slice none 0 0),i0 e,i0 j,AV.slc 1048577 [0,1] 0 (List.length zs)]); let z4:=(i+(2:Int)); decide (i<z2)=true∧decide ((0:Int)≤i∧i<z2)=true∧((qVJ50 s i)==(32:Int))=false∧Nf (((qVJ50 s i)==(9:Int))=false∧Nf (((qVJ50 s i)==(10:Int))=false∧∃ (i1:Nat),(i1<256∧Wks [AV.lit (Value.int IntKind.u8 (qVJ50 s i))] [AV.lit (Value.int IntKind.u8 (↑i1:Int))]∧hpL []=hpL [])∧letterN i1=false∧inR IntKind.i64 (i+(1:Int))=true∧decide (i+(1:Int)<z2)=true∧Yt (((qVJ50 s i)==(58:Int))=true∧Yt (Yt (inR IntKind.i64 (i+(1:Int))=true∧Yt (decide ((0:Int)≤i+(1:Int)∧i+(1:Int)<z2)=true∧Yt (((↑(byteAt s (Int.toNat (i+(1:Int)))):Int)==(58:Int))=true∧inR IntKind.i64 z4=true∧decide ((0:Int)≤Option.getD (some i) (0:Int)∧Option.getD (some i) (0:Int)≤Option.getD (some z4) z2∧Option.getD (some z4) z2≤z2∧false=false)=true∧(true&&(true&&Nat.ble (0+List.length ys) (List.length ys))&&(true&&decide (List.length z1*32≤140737488355328∧List.length z1≤1152921504606846976)))=true∧inR IntKind.i64 z4=true∧∃ (i2:Int × List AV),(Q (Prod.fst i2) (Prod.snd i2)∧Wks [s0 s,AV.lit (Value.slice none 0 0),i0 (0:Int),i0 (0:Int),AV.slc 1048577 [0,0] 0 (List.length z1),i0 z4] [s0 s,AV.lit (Value.slice none 0 0),i0 (0:Int),i0 (0:Int),AV.slc 1048577 [0,0] 0 (List.length (Prod.snd i2)),i0 (Prod.fst i2)]∧hpL [eR 1048577 [0,0] 3 z1]=hpL [eR 1048577 [0,0] 3 (Prod.snd i2)])∧ex=ex∧Wk z3 z3∧SameH (hpL [eR 1048577 [0,1] 3 zs]) (hpL [eR 1048577 [0,1] 3 zs]))))))))):=by kernel_rfl
def orJXD:Orc:=Orc.t (HF (Orc.f (Orc.f (Orc.t (Orc.t (HF (Orc.f (Orc.f (HT (Orc.t (Orc.t (Orc.t (Orc.t Orc.z)))))))))))))
theorem rJXD_vc (Q:Int→List AV→Prop)(ex:Ex)(s:ByteArray)(e j:Int)(ys zs:List AV)(i:Int):rJXD orJXD Q ex s e j ys zs i=(let z1:=(List.take (List.length ys) (List.drop 0 ys)++[AV.agg [i0 (6:Int),i0 i,(qVJ51 s i)]]); let z2:=(↑(ByteArray.size s):Int); let z3:=(AV.tup [s0 s,AV.lit (Value.slice none 0 0),i0 e,i0 j,AV.slc 1048577 [0,1] 0 (List.length zs)]); let z4:=(i+(2:Int)); let z5:=(i+(1:Int)); decide (i<z2)=true∧decide ((0:Int)≤i∧i<z2)=true∧((qVJ50 s i)==(32:Int))=false∧Nf (((qVJ50 s i)==(9:Int))=false∧Nf (((qVJ50 s i)==(10:Int))=false∧∃ (i1:Nat),(i1<256∧Wks [AV.lit (Value.int IntKind.u8 (qVJ50 s i))] [AV.lit (Value.int IntKind.u8 (↑i1:Int))]∧hpL []=hpL [])∧letterN i1=false∧inR IntKind.i64 z5=true∧decide (i+(1:Int)<z2)=true∧Yt (((qVJ50 s i)==(58:Int))=false∧Nf4 (Nf (inR IntKind.i64 z5=true∧decide (i+(1:Int)<z2)=true∧Yt (((qVJ50 s i)==(46:Int))=true∧Yt (Yt (inR IntKind.i64 z5=true∧Yt (decide ((0:Int)≤i+(1:Int)∧i+(1:Int)<z2)=true∧Yt (((↑(byteAt s (Int.toNat z5)):Int)==(46:Int))=true∧inR IntKind.i64 z4=true∧decide ((0:Int)≤Option.getD (some i) (0:Int)∧Option.getD (some i) (0:Int)≤Option.getD (some z4) z2∧Option.getD (some z4) z2≤z2∧false=false)=true∧(true&&(true&&Nat.ble (0+List.length ys) (List.length ys))&&(true&&decide (List.length z1*32≤140737488355328∧List.length z1≤1152921504606846976)))=true∧inR IntKind.i64 z4=true∧∃ (i2:Int × List AV),(Q (Prod.fst i2) (Prod.snd i2)∧Wks [s0 s,AV.lit (Value.slice none 0 0),i0 (0:Int),i0 (0:Int),AV.slc 1048577 [0,0] 0 (List.length z1),i0 z4] [s0 s,AV.lit (Value.slice none 0 0),i0 (0:Int),i0 (0:Int),AV.slc 1048577 [0,0] 0 (List.length (Prod.snd i2)),i0 (Prod.fst i2)]∧hpL [eR 1048577 [0,0] 3 z1]=hpL [eR 1048577 [0,0] 3 (Prod.snd i2)])∧ex=ex∧Wk z3 z3∧SameH (hpL [eR 1048577 [0,1] 3 zs]) (hpL [eR 1048577 [0,1] 3 zs])))))))))))):=by kernel_rfl
def orJXS1:Orc:=Orc.t (HF (HF (HF (HF (HF (Orc.f (Orc.f (Orc.s Orc.z (Orc.s Orc.z (Orc.s Orc.z (Orc.s (Orc.t (Orc.t Orc.z)) (Orc.f (Orc.s Orc.z (Orc.s Orc.z (Orc.s Orc.z (Orc.t Orc.z))))))))))))))))
theorem rJXS1_vc (Q:Int→List AV→Prop)(ex:Ex)(s:ByteArray)(e j:Int)(ys zs:List AV)(i:Int):rJXS1 orJXS1 Q ex s e j ys zs i=(let z1:=s0 (ByteArray.extract s (Int.toNat (Option.getD (some i) (0:Int))) (Int.toNat (Option.getD (some (i+(1:Int))) (↑(ByteArray.size s):Int)))); let z2:=((0:Int)≤Option.getD (some i) (0:Int)∧Option.getD (some i) (0:Int)≤Option.getD (some (i+(1:Int))) (↑(ByteArray.size s):Int)∧Option.getD (some (i+(1:Int))) (↑(ByteArray.size s):Int)≤(↑(ByteArray.size s):Int)∧false=false); let z3:=(AV.tup [s0 s,AV.lit (Value.slice none 0 0),i0 e,i0 j,AV.slc 1048577 [0,1] 0 (List.length zs)]); let z4:=(List.take (List.length ys) (List.drop 0 ys)++[AV.agg [i0 (7:Int),i0 i,z1]]); let z5:=(↑(byteAt s (Int.toNat i)):Int); let z6:=(hpL [eR 1048577 [0,1] 3 zs]); let z7:=AV.lit (Value.slice none 0 0); let z8:=(List.length ys); let z9:=(List.drop 0 ys); let z10:=(i+(1:Int)); let z11:=(true&&Nat.ble (0+List.length ys) z8); let z12:=(List.take z8 z9++[AV.agg [i0 (10:Int),i0 i,z1]]); let z13:=(List.take z8 z9++[AV.agg [i0 (2:Int),i0 i,z1]]); let z14:=(List.take z8 z9++[AV.agg [i0 (3:Int),i0 i,z1]]); let z15:=(List.take z8 z9++[AV.agg [i0 (4:Int),i0 i,z1]]); let z16:=(List.take z8 z9++[AV.agg [i0 (8:Int),i0 i,z1]]); let z17:=(List.take z8 z9++[AV.agg [i0 (9:Int),i0 i,z1]]); let z18:=(true&&z11&&(true&&decide (List.length z4*32≤140737488355328∧List.length z4≤1152921504606846976))); let z19:=[s0 s,z7,i0 (0:Int),i0 (0:Int),AV.slc 1048577 [0,0] 0 (List.length z4),i0 z10]; let z20:=(↑(ByteArray.size s):Int); decide (i<z20)=true∧decide ((0:Int)≤i∧i<z20)=true∧(z5==(32:Int))=false∧Nf ((z5==(9:Int))=false∧Nf ((z5==(10:Int))=false∧∃ (i1:Nat),(i1<256∧Wks [AV.lit (Value.int IntKind.u8 z5)] [AV.lit (Value.int IntKind.u8 (↑i1:Int))]∧hpL []=hpL [])∧letterN i1=false∧inR IntKind.i64 z10=true∧decide (i+(1:Int)<z20)=false∧Nf4 (Nf (Nf (Nf (inR IntKind.i64 z10=true∧decide (i+(1:Int)<z20)=false∧Nf4 (Nf (Nf (Nf (((z5==(40:Int))=true→inR IntKind.i64 z10=true∧decide z2=true∧(true&&z11&&(true&&decide (List.length z13*32≤140737488355328∧List.length z13≤1152921504606846976)))=true∧inR IntKind.i64 z10=true∧∃ (i2:Int × List AV),(Q (Prod.fst i2) (Prod.snd i2)∧Wks [s0 s,z7,i0 (0:Int),i0 (0:Int),AV.slc 1048577 [0,0] 0 (List.length z13),i0 z10] [s0 s,z7,i0 (0:Int),i0 (0:Int),AV.slc 1048577 [0,0] 0 (List.length (Prod.snd i2)),i0 (Prod.fst i2)]∧hpL [eR 1048577 [0,0] 3 z13]=hpL [eR 1048577 [0,0] 3 (Prod.snd i2)])∧ex=ex∧Wk z3 z3∧SameH z6 z6)∧((z5==(40:Int))=false→((z5==(41:Int))=true→inR IntKind.i64 z10=true∧decide z2=true∧(true&&z11&&(true&&decide (List.length z14*32≤140737488355328∧List.length z14≤1152921504606846976)))=true∧inR IntKind.i64 z10=true∧∃ (i3:Int × List AV),(Q (Prod.fst i3) (Prod.snd i3)∧Wks [s0 s,z7,i0 (0:Int),i0 (0:Int),AV.slc 1048577 [0,0] 0 (List.length z14),i0 z10] [s0 s,z7,i0 (0:Int),i0 (0:Int),AV.slc 1048577 [0,0] 0 (List.length (Prod.snd i3)),i0 (Prod.fst i3)]∧hpL [eR 1048577 [0,0] 3 z14]=hpL [eR 1048577 [0,0] 3 (Prod.snd i3)])∧ex=ex∧Wk z3 z3∧SameH z6 z6)∧((z5==(41:Int))=false→((z5==(44:Int))=true→inR IntKind.i64 z10=true∧decide z2=true∧(true&&z11&&(true&&decide (List.length z15*32≤140737488355328∧List.length z15≤1152921504606846976)))=true∧inR IntKind.i64 z10=true∧∃ (i4:Int × List AV),(Q (Prod.fst i4) (Prod.snd i4)∧Wks [s0 s,z7,i0 (0:Int),i0 (0:Int),AV.slc 1048577 [0,0] 0 (List.length z15),i0 z10] [s0 s,z7,i0 (0:Int),i0 (0:Int),AV.slc 1048577 [0,0] 0 (List.length (Prod.snd i4)),i0 (Prod.fst i4)]∧hpL [eR 1048577 [0,0] 3 z15]=hpL [eR 1048577 [0,0] 3 (Prod.snd i4)])∧ex=ex∧Wk z3 z3∧SameH z6 z6)∧((z5==(44:Int))=false→((z5==(43:Int))=true→Yt (Yt (inR IntKind.i64 z10=true∧decide z2=true∧z18=true∧inR IntKind.i64 z10=true∧∃ (i5:Int × List AV),(Q (Prod.fst i5) (Prod.snd i5)∧Wks z19 [s0 s,z7,i0 (0:Int),i0 (0:Int),AV.slc 1048577 [0,0] 0 (List.length (Prod.snd i5)),i0 (Prod.fst i5)]∧hpL [eR 1048577 [0,0] 3 z4]=hpL [eR 1048577 [0,0] 3 (Prod.snd i5)])∧ex=ex∧Wk z3 z3∧SameH z6 z6)))∧((z5==(43:Int))=false→Nf (((z5==(124:Int))=true→inR IntKind.i64 z10=true∧decide z2=true∧z18=true∧inR IntKind.i64 z10=true∧∃ (i6:Int × List AV),(Q (Prod.fst i6) (Prod.snd i6)∧Wks z19 [s0 s,z7,i0 (0:Int),i0 (0:Int),AV.slc 1048577 [0,0] 0 (List.length (Prod.snd i6)),i0 (Prod.fst i6)]∧hpL [eR 1048577 [0,0] 3 z4]=hpL [eR 1048577 [0,0] 3 (Prod.snd i6)])∧ex=ex∧Wk z3 z3∧SameH z6 z6)∧((z5==(124:Int))=false→((z5==(45:Int))=true→inR IntKind.i64 z10=true∧decide z2=true∧(true&&z11&&(true&&decide (List.length z16*32≤140737488355328∧List.length z16≤1152921504606846976)))=true∧inR IntKind.i64 z10=true∧∃ (i7:Int × List AV),(Q (Prod.fst i7) (Prod.snd i7)∧Wks [s0 s,z7,i0 (0:Int),i0 (0:Int),AV.slc 1048577 [0,0] 0 (List.length z16),i0 z10] [s0 s,z7,i0 (0:Int),i0 (0:Int),AV.slc 1048577 [0,0] 0 (List.length (Prod.snd i7)),i0 (Prod.fst i7)]∧hpL [eR 1048577 [0,0] 3 z16]=hpL [eR 1048577 [0,0] 3 (Prod.snd i7)])∧ex=ex∧Wk z3 z3∧SameH z6 z6)∧((z5==(45:Int))=false→((z5==(38:Int))=true→inR IntKind.i64 z10=true∧decide z2=true∧(true&&z11&&(true&&decide (List.length z17*32≤140737488355328∧List.length z17≤1152921504606846976)))=true∧inR IntKind.i64 z10=true∧∃ (i8:Int × List AV),(Q (Prod.fst i8) (Prod.snd i8)∧Wks [s0 s,z7,i0 (0:Int),i0 (0:Int),AV.slc 1048577 [0,0] 0 (List.length z17),i0 z10] [s0 s,z7,i0 (0:Int),i0 (0:Int),AV.slc 1048577 [0,0] 0 (List.length (Prod.snd i8)),i0 (Prod.fst i8)]∧hpL [eR 1048577 [0,0] 3 z17]=hpL [eR 1048577 [0,0] 3 (Prod.snd i8)])∧ex=ex∧Wk z3 z3∧SameH z6 z6)∧((z5==(38:Int))=false→(z5==(33:Int))=true∧inR IntKind.i64 z10=true∧decide z2=true∧(true&&z11&&(true&&decide (List.length z12*32≤140737488355328∧List.length z12≤1152921504606846976)))=true∧inR IntKind.i64 z10=true∧∃ (i9:Int × List AV),(Q (Prod.fst i9) (Prod.snd i9)∧Wks [s0 s,z7,i0 (0:Int),i0 (0:Int),AV.slc 1048577 [0,0] 0 (List.length z12),i0 z10] [s0 s,z7,i0 (0:Int),i0 (0:Int),AV.slc 1048577 [0,0] 0 (List.length (Prod.snd i9)),i0 (Prod.fst i9)]∧hpL [eR 1048577 [0,0] 3 z12]=hpL [eR 1048577 [0,0] 3 (Prod.snd i9)])∧ex=ex∧Wk z3 z3∧SameH z6 z6))))))))))))))))))):=by kernel_rfl
def orJXS2:Orc:=Orc.t (HF (Orc.f (Orc.f (Orc.t (Orc.t (HF (Orc.f (Orc.f (Orc.t (Orc.t (HF (Orc.f (Orc.f (Orc.s Orc.z (Orc.s Orc.z (Orc.s Orc.z (Orc.s (Orc.t (Orc.t Orc.z)) (Orc.f (Orc.s Orc.z (Orc.s Orc.z (Orc.s Orc.z (Orc.t Orc.z))))))))))))))))))))))
theorem rJXS2_vc (Q:Int→List AV→Prop)(ex:Ex)(s:ByteArray)(e j:Int)(ys zs:List AV)(i:Int):rJXS2 orJXS2 Q ex s e j ys zs i=(let z1:=s0 (ByteArray.extract s (Int.toNat (Option.getD (some i) (0:Int))) (Int.toNat (Option.getD (some (i+(1:Int))) (↑(ByteArray.size s):Int)))); let z2:=((0:Int)≤Option.getD (some i) (0:Int)∧Option.getD (some i) (0:Int)≤Option.getD (some (i+(1:Int))) (↑(ByteArray.size s):Int)∧Option.getD (some (i+(1:Int))) (↑(ByteArray.size s):Int)≤(↑(ByteArray.size s):Int)∧false=false); let z3:=(AV.tup [s0 s,AV.lit (Value.slice none 0 0),i0 e,i0 j,AV.slc 1048577 [0,1] 0 (List.length zs)]); let z4:=(↑(byteAt s (Int.toNat i)):Int); let z5:=(List.take (List.length ys) (List.drop 0 ys)++[AV.agg [i0 (7:Int),i0 i,z1]]); let z6:=(hpL [eR 1048577 [0,1] 3 zs]); let z7:=AV.lit (Value.slice none 0 0); let z8:=(List.length ys); let z9:=(List.drop 0 ys); let z10:=(i+(1:Int)); let z11:=(true&&Nat.ble (0+List.length ys) z8); let z12:=(List.take z8 z9++[AV.agg [i0 (10:Int),i0 i,z1]]); let z13:=(List.take z8 z9++[AV.agg [i0 (2:Int),i0 i,z1]]); let z14:=(List.take z8 z9++[AV.agg [i0 (3:Int),i0 i,z1]]); let z15:=(List.take z8 z9++[AV.agg [i0 (4:Int),i0 i,z1]]); let z16:=(List.take z8 z9++[AV.agg [i0 (8:Int),i0 i,z1]]); let z17:=(List.take z8 z9++[AV.agg [i0 (9:Int),i0 i,z1]]); let z18:=(true&&z11&&(true&&decide (List.length z5*32≤140737488355328∧List.length z5≤1152921504606846976))); let z19:=[s0 s,z7,i0 (0:Int),i0 (0:Int),AV.slc 1048577 [0,0] 0 (List.length z5),i0 z10]; let z20:=(↑(ByteArray.size s):Int); decide (i<z20)=true∧decide ((0:Int)≤i∧i<z20)=true∧(z4==(32:Int))=false∧Nf ((z4==(9:Int))=false∧Nf ((z4==(10:Int))=false∧∃ (i1:Nat),(i1<256∧Wks [AV.lit (Value.int IntKind.u8 z4)] [AV.lit (Value.int IntKind.u8 (↑i1:Int))]∧hpL []=hpL [])∧letterN i1=false∧inR IntKind.i64 z10=true∧decide (i+(1:Int)<z20)=true∧Yt ((z4==(58:Int))=false∧Nf4 (Nf (inR IntKind.i64 z10=true∧decide (i+(1:Int)<z20)=true∧Yt ((z4==(46:Int))=false∧Nf4 (Nf (((z4==(40:Int))=true→inR IntKind.i64 z10=true∧decide z2=true∧(true&&z11&&(true&&decide (List.length z13*32≤140737488355328∧List.length z13≤1152921504606846976)))=true∧inR IntKind.i64 z10=true∧∃ (i2:Int × List AV),(Q (Prod.fst i2) (Prod.snd i2)∧Wks [s0 s,z7,i0 (0:Int),i0 (0:Int),AV.slc 1048577 [0,0] 0 (List.length z13),i0 z10] [s0 s,z7,i0 (0:Int),i0 (0:Int),AV.slc 1048577 [0,0] 0 (List.length (Prod.snd i2)),i0 (Prod.fst i2)]∧hpL [eR 1048577 [0,0] 3 z13]=hpL [eR 1048577 [0,0] 3 (Prod.snd i2)])∧ex=ex∧Wk z3 z3∧SameH z6 z6)∧((z4==(40:Int))=false→((z4==(41:Int))=true→inR IntKind.i64 z10=true∧decide z2=true∧(true&&z11&&(true&&decide (List.length z14*32≤140737488355328∧List.length z14≤1152921504606846976)))=true∧inR IntKind.i64 z10=true∧∃ (i3:Int × List AV),(Q (Prod.fst i3) (Prod.snd i3)∧Wks [s0 s,z7,i0 (0:Int),i0 (0:Int),AV.slc 1048577 [0,0] 0 (List.length z14),i0 z10] [s0 s,z7,i0 (0:Int),i0 (0:Int),AV.slc 1048577 [0,0] 0 (List.length (Prod.snd i3)),i0 (Prod.fst i3)]∧hpL [eR 1048577 [0,0] 3 z14]=hpL [eR 1048577 [0,0] 3 (Prod.snd i3)])∧ex=ex∧Wk z3 z3∧SameH z6 z6)∧((z4==(41:Int))=false→((z4==(44:Int))=true→inR IntKind.i64 z10=true∧decide z2=true∧(true&&z11&&(true&&decide (List.length z15*32≤140737488355328∧List.length z15≤1152921504606846976)))=true∧inR IntKind.i64 z10=true∧∃ (i4:Int × List AV),(Q (Prod.fst i4) (Prod.snd i4)∧Wks [s0 s,z7,i0 (0:Int),i0 (0:Int),AV.slc 1048577 [0,0] 0 (List.length z15),i0 z10] [s0 s,z7,i0 (0:Int),i0 (0:Int),AV.slc 1048577 [0,0] 0 (List.length (Prod.snd i4)),i0 (Prod.fst i4)]∧hpL [eR 1048577 [0,0] 3 z15]=hpL [eR 1048577 [0,0] 3 (Prod.snd i4)])∧ex=ex∧Wk z3 z3∧SameH z6 z6)∧((z4==(44:Int))=false→((z4==(43:Int))=true→Yt (Yt (inR IntKind.i64 z10=true∧decide z2=true∧z18=true∧inR IntKind.i64 z10=true∧∃ (i5:Int × List AV),(Q (Prod.fst i5) (Prod.snd i5)∧Wks z19 [s0 s,z7,i0 (0:Int),i0 (0:Int),AV.slc 1048577 [0,0] 0 (List.length (Prod.snd i5)),i0 (Prod.fst i5)]∧hpL [eR 1048577 [0,0] 3 z5]=hpL [eR 1048577 [0,0] 3 (Prod.snd i5)])∧ex=ex∧Wk z3 z3∧SameH z6 z6)))∧((z4==(43:Int))=false→Nf (((z4==(124:Int))=true→inR IntKind.i64 z10=true∧decide z2=true∧z18=true∧inR IntKind.i64 z10=true∧∃ (i6:Int × List AV),(Q (Prod.fst i6) (Prod.snd i6)∧Wks z19 [s0 s,z7,i0 (0:Int),i0 (0:Int),AV.slc 1048577 [0,0] 0 (List.length (Prod.snd i6)),i0 (Prod.fst i6)]∧hpL [eR 1048577 [0,0] 3 z5]=hpL [eR 1048577 [0,0] 3 (Prod.snd i6)])∧ex=ex∧Wk z3 z3∧SameH z6 z6)∧((z4==(124:Int))=false→((z4==(45:Int))=true→inR IntKind.i64 z10=true∧decide z2=true∧(true&&z11&&(true&&decide (List.length z16*32≤140737488355328∧List.length z16≤1152921504606846976)))=true∧inR IntKind.i64 z10=true∧∃ (i7:Int × List AV),(Q (Prod.fst i7) (Prod.snd i7)∧Wks [s0 s,z7,i0 (0:Int),i0 (0:Int),AV.slc 1048577 [0,0] 0 (List.length z16),i0 z10] [s0 s,z7,i0 (0:Int),i0 (0:Int),AV.slc 1048577 [0,0] 0 (List.length (Prod.snd i7)),i0 (Prod.fst i7)]∧hpL [eR 1048577 [0,0] 3 z16]=hpL [eR 1048577 [0,0] 3 (Prod.snd i7)])∧ex=ex∧Wk z3 z3∧SameH z6 z6)∧((z4==(45:Int))=false→((z4==(38:Int))=true→inR IntKind.i64 z10=true∧decide z2=true∧(true&&z11&&(true&&decide (List.length z17*32≤140737488355328∧List.length z17≤1152921504606846976)))=true∧inR IntKind.i64 z10=true∧∃ (i8:Int × List AV),(Q (Prod.fst i8) (Prod.snd i8)∧Wks [s0 s,z7,i0 (0:Int),i0 (0:Int),AV.slc 1048577 [0,0] 0 (List.length z17),i0 z10] [s0 s,z7,i0 (0:Int),i0 (0:Int),AV.slc 1048577 [0,0] 0 (List.length (Prod.snd i8)),i0 (Prod.fst i8)]∧hpL [eR 1048577 [0,0] 3 z17]=hpL [eR 1048577 [0,0] 3 (Prod.snd i8)])∧ex=ex∧Wk z3 z3∧SameH z6 z6)∧((z4==(38:Int))=false→(z4==(33:Int))=true∧inR IntKind.i64 z10=true∧decide z2=true∧(true&&z11&&(true&&decide (List.length z12*32≤140737488355328∧List.length z12≤1152921504606846976)))=true∧inR IntKind.i64 z10=true∧∃ (i9:Int × List AV),(Q (Prod.fst i9) (Prod.snd i9)∧Wks [s0 s,z7,i0 (0:Int),i0 (0:Int),AV.slc 1048577 [0,0] 0 (List.length z12),i0 z10] [s0 s,z7,i0 (0:Int),i0 (0:Int),AV.slc 1048577 [0,0] 0 (List.length (Prod.snd i9)),i0 (Prod.fst i9)]∧hpL [eR 1048577 [0,0] 3 z12]=hpL [eR 1048577 [0,0] 3 (Prod.snd i9)])∧ex=ex∧Wk z3 z3∧SameH z6 z6))))))))))))))))):=by kernel_rfl
theorem rJXX1_vc (Q:Int→List AV→Prop)(s:ByteArray)(ys:List AV)(i:Int):rJXX1 (Orc.t (Orc.f (Orc.f (Orc.f (Orc.f (Orc.f (Orc.f (Orc.f (Orc.f (Orc.f (Orc.f (Orc.f (Orc.f (Orc.f (Orc.f (Orc.f (Orc.f (Orc.f (Orc.f (Orc.f (Orc.f (Orc.f (Orc.f (Orc.f (Orc.f (Orc.f (Orc.f (Orc.f (Orc.f (Orc.f (Orc.f (Orc.f Orc.z)))))))))))))))))))))))))))))))) Q s ys i=(let z1:=(↑(ByteArray.size s):Int); decide (i<z1)=true∧decide ((0:Int)≤i∧i<z1)=true∧((qVJ50 s i)==(32:Int))=false∧Nf (((qVJ50 s i)==(9:Int))=false∧Nf (((qVJ50 s i)==(10:Int))=false∧∃ (i1:Nat),(i1<256∧Wks [AV.lit (Value.int IntKind.u8 (qVJ50 s i))] [AV.lit (Value.int IntKind.u8 (↑i1:Int))]∧hpL []=hpL [])∧letterN i1=false∧inR IntKind.i64 (i+(1:Int))=true∧decide (i+(1:Int)<z1)=false∧Nf4 (Nf (Nf (Nf (inR IntKind.i64 (i+(1:Int))=true∧decide (i+(1:Int)<z1)=false∧Nf4 (Nf (Nf (Nf (((qVJ50 s i)==(40:Int))=false∧((qVJ50 s i)==(41:Int))=false∧((qVJ50 s i)==(44:Int))=false∧((qVJ50 s i)==(43:Int))=false∧Nf (((qVJ50 s i)==(124:Int))=false∧((qVJ50 s i)==(45:Int))=false∧((qVJ50 s i)==(38:Int))=false∧((qVJ50 s i)==(33:Int))=false∧Ex.ret=Ex.ret∧Wk (qVJ52 s i ys) (qVJ52 s i ys)∧SameH (hpL [eR 1048577 [0,0] 3 ys]) (hpL [eR 1048577 [0,0] 3 ys]))))))))))))):=by kernel_rfl
theorem rJXX2_vc (Q:Int→List AV→Prop)(s:ByteArray)(ys:List AV)(i:Int):rJXX2 (Orc.t (Orc.f (Orc.f (Orc.f (Orc.f (Orc.f (Orc.f (Orc.t (Orc.t (Orc.f (Orc.f (Orc.f (Orc.f (Orc.f (Orc.f (Orc.t (Orc.t (Orc.f (Orc.f (Orc.f (Orc.f (Orc.f (Orc.f (Orc.f (Orc.f (Orc.f (Orc.f (Orc.f (Orc.f (Orc.f (Orc.f (Orc.f Orc.z)))))))))))))))))))))))))))))))) Q s ys i=(let z1:=(↑(ByteArray.size s):Int); decide (i<z1)=true∧decide ((0:Int)≤i∧i<z1)=true∧((qVJ50 s i)==(32:Int))=false∧Nf (((qVJ50 s i)==(9:Int))=false∧Nf (((qVJ50 s i)==(10:Int))=false∧∃ (i1:Nat),(i1<256∧Wks [AV.lit (Value.int IntKind.u8 (qVJ50 s i))] [AV.lit (Value.int IntKind.u8 (↑i1:Int))]∧hpL []=hpL [])∧letterN i1=false∧inR IntKind.i64 (i+(1:Int))=true∧decide (i+(1:Int)<z1)=true∧Yt (((qVJ50 s i)==(58:Int))=false∧Nf4 (Nf (inR IntKind.i64 (i+(1:Int))=true∧decide (i+(1:Int)<z1)=true∧Yt (((qVJ50 s i)==(46:Int))=false∧Nf4 (Nf (((qVJ50 s i)==(40:Int))=false∧((qVJ50 s i)==(41:Int))=false∧((qVJ50 s i)==(44:Int))=false∧((qVJ50 s i)==(43:Int))=false∧Nf (((qVJ50 s i)==(124:Int))=false∧((qVJ50 s i)==(45:Int))=false∧((qVJ50 s i)==(38:Int))=false∧((qVJ50 s i)==(33:Int))=false∧Ex.ret=Ex.ret∧Wk (qVJ52 s i ys) (qVJ52 s i ys)∧SameH (hpL [eR 1048577 [0,0] 3 ys]) (hpL [eR 1048577 [0,0] 3 ys]))))))))))):=by kernel_rfl
theorem rJXX3_vc (Q:Int→List AV→Prop)(s:ByteArray)(ys:List AV)(i:Int):rJXX3 (Orc.t (Orc.f (Orc.f (Orc.f (Orc.f (Orc.f (Orc.f (Orc.t (Orc.t (Orc.t (Orc.t (Orc.t (Orc.t (Orc.t (Orc.f (Orc.t (Orc.t (Orc.f (Orc.f (Orc.f (Orc.f (Orc.f (Orc.f (Orc.f (Orc.f (Orc.f (Orc.f (Orc.f (Orc.f (Orc.f (Orc.f (Orc.f Orc.z)))))))))))))))))))))))))))))))) Q s ys i=(let z1:=(↑(ByteArray.size s):Int); let z2:=(i+(1:Int)); decide (i<z1)=true∧decide ((0:Int)≤i∧i<z1)=true∧((qVJ50 s i)==(32:Int))=false∧Nf (((qVJ50 s i)==(9:Int))=false∧Nf (((qVJ50 s i)==(10:Int))=false∧∃ (i1:Nat),(i1<256∧Wks [AV.lit (Value.int IntKind.u8 (qVJ50 s i))] [AV.lit (Value.int IntKind.u8 (↑i1:Int))]∧hpL []=hpL [])∧letterN i1=false∧inR IntKind.i64 z2=true∧decide (i+(1:Int)<z1)=true∧Yt (((qVJ50 s i)==(58:Int))=true∧Yt (Yt (inR IntKind.i64 z2=true∧Yt (decide ((0:Int)≤i+(1:Int)∧i+(1:Int)<z1)=true∧Yt (((↑(byteAt s (Int.toNat z2)):Int)==(58:Int))=false∧inR IntKind.i64 z2=true∧decide (i+(1:Int)<z1)=true∧Yt (((qVJ50 s i)==(46:Int))=false∧Nf4 (Nf (((qVJ50 s i)==(40:Int))=false∧((qVJ50 s i)==(41:Int))=false∧((qVJ50 s i)==(44:Int))=false∧((qVJ50 s i)==(43:Int))=false∧Nf (((qVJ50 s i)==(124:Int))=false∧((qVJ50 s i)==(45:Int))=false∧((qVJ50 s i)==(38:Int))=false∧((qVJ50 s i)==(33:Int))=false∧Ex.ret=Ex.ret∧Wk (qVJ52 s i ys) (qVJ52 s i ys)∧SameH (hpL [eR 1048577 [0,0] 3 ys]) (hpL [eR 1048577 [0,0] 3 ys]))))))))))))):=by kernel_rfl
theorem rJXX4_vc (Q:Int→List AV→Prop)(s:ByteArray)(ys:List AV)(i:Int):rJXX4 (Orc.t (Orc.f (Orc.f (Orc.f (Orc.f (Orc.f (Orc.f (Orc.t (Orc.t (Orc.f (Orc.f (Orc.f (Orc.f (Orc.f (Orc.f (Orc.t (Orc.t (Orc.t (Orc.t (Orc.t (Orc.t (Orc.t (Orc.f (Orc.f (Orc.f (Orc.f (Orc.f (Orc.f (Orc.f (Orc.f (Orc.f (Orc.f Orc.z)))))))))))))))))))))))))))))))) Q s ys i=(let z1:=(↑(ByteArray.size s):Int); let z2:=(i+(1:Int)); decide (i<z1)=true∧decide ((0:Int)≤i∧i<z1)=true∧((qVJ50 s i)==(32:Int))=false∧Nf (((qVJ50 s i)==(9:Int))=false∧Nf (((qVJ50 s i)==(10:Int))=false∧∃ (i1:Nat),(i1<256∧Wks [AV.lit (Value.int IntKind.u8 (qVJ50 s i))] [AV.lit (Value.int IntKind.u8 (↑i1:Int))]∧hpL []=hpL [])∧letterN i1=false∧inR IntKind.i64 z2=true∧decide (i+(1:Int)<z1)=true∧Yt (((qVJ50 s i)==(58:Int))=false∧Nf4 (Nf (inR IntKind.i64 z2=true∧decide (i+(1:Int)<z1)=true∧Yt (((qVJ50 s i)==(46:Int))=true∧Yt (Yt (inR IntKind.i64 z2=true∧Yt (decide ((0:Int)≤i+(1:Int)∧i+(1:Int)<z1)=true∧Yt (((↑(byteAt s (Int.toNat z2)):Int)==(46:Int))=false∧((qVJ50 s i)==(40:Int))=false∧((qVJ50 s i)==(41:Int))=false∧((qVJ50 s i)==(44:Int))=false∧((qVJ50 s i)==(43:Int))=false∧Nf (((qVJ50 s i)==(124:Int))=false∧((qVJ50 s i)==(45:Int))=false∧((qVJ50 s i)==(38:Int))=false∧((qVJ50 s i)==(33:Int))=false∧Ex.ret=Ex.ret∧Wk (qVJ52 s i ys) (qVJ52 s i ys)∧SameH (hpL [eR 1048577 [0,0] 3 ys]) (hpL [eR 1048577 [0,0] 3 ys]))))))))))))):=by kernel_rfl
end Go.Proofs.YtpofhijgccocpaaGreatDoor
end
section
namespace Go.Proofs.YtpofhijgccocpaaGreatDoor
open Go.AS Go.TP
noncomputable section
abbrev BJW (xs:List AV)(σ:Hp)(r:Ex × Back):Prop:=BlkOk Tryz.prog gl0 (fn fXLex).ntmps (loopAt (code fXLex) 3) [0,2,3,4,5,6,8] (fun _=>[0,2,3,4,5,6,8]) xs σ fun _ q=>q=r
theorem rJW_ok {P:Prop}{s:ByteArray}{ys:List AV}{i n w:Int}(hs:s.size≤600)(h0:0≤i)(hi:i<s.size)(hn:0≤n)(hm:n≤600)(h1:¬(i+n<s.size∧letterN (byteAt s (i+n).toNat)=true)→w=n)(h2:i+n<s.size∧letterN (byteAt s (i+n).toNat)=true→P) :
  rJW orJW P s ys i n w:=by
 rw [rJW_vc]
 have hr:inR .i64 (i+n)=true:=inR_i64 (by omega) (by omega)
 refine ⟨hr,fun h => ?_,fun h => ?_⟩
 · have h:=of_decide_eq_true h
   refine ⟨rfl,rfl,rfl,hr,rfl,decide_eq_true ⟨by omega,h⟩,rfl,_,⟨byteAt_lt _ _, .refl _,rfl⟩,fun g => ?_,fun g => ?_⟩
   · exact ⟨inR_i64 (by omega) (by omega),(),⟨h2 ⟨h,g⟩, .refl _,rfl⟩,rfl, .refl _, .rfl⟩
   · rw [h1 fun q=>by rw [q.2] at g; cases g]; exact ⟨rfl, .refl _, .rfl⟩
 · have h:=of_decide_eq_false h
   rw [h1 fun q=>h q.1]; exact ⟨rfl,rfl,rfl,rfl,rfl,rfl,rfl, .refl _, .rfl⟩
set_option maxRecDepth 100000 in
theorem jwL (s:ByteArray)(ys:List AV)(i:Int)(hs:s.size≤600)(h0:0≤i)(hi:i<s.size):∀ (f:Nat)(n:Int),0≤n→i+n≤s.size→s.size-(i+n)≤f→BJW (jw s ys i n) (lexHeap ys) (jwO s ys i (wordG (restS s i) f n)):=by
 have hr:=rest_size s i h0 (by omega)
 have hb:∀ n:Int,0≤n→i+n<s.size→byteAt (restS s i) n.toNat=byteAt s (i+n).toNat:=by
  intro n hn h
  rw [rest_byte s i.toNat n.toNat (by omega)]; congr 1; omega
 have rnd:∀ {os:Orc}{P:Prop}{n w:Int},(P→BJW (jw s ys i (n+1)) (lexHeap ys) (jwO s ys i w))→rJW os P s ys i n w→BJW (jw s ys i n) (lexHeap ys) (jwO s ys i w) :=
  fun ih h=>lp_round1 (X:=XJ.ask [fXLex]) (XJ_ok.ask _) (fnOk fXLex (by kernel_rfl)) (show (fn fXLex).body=some (code fXLex) by kernel_rfl) (by decide) ih h
 intro f
 induction f with
 | zero =>
  intro n h1 h2 h3
  exact rnd (P:=False) (fun h=>h.elim) (rJW_ok hs h0 hi h1 (by omega) (fun _=>rfl) (fun q=>by omega))
 | succ f ih =>
  intro n h1 h2 h3
  rw [wordG]
  by_cases h:n<(restS s i).size∧letterN (byteAt (restS s i) n.toNat)=true
  · rw [if_pos h]
    exact rnd (P:=True) (fun _=>ih (n+1) (by omega) (by omega) (by omega)) (rJW_ok hs h0 hi h1 (by omega) (fun q=>absurd ⟨by omega,by rw [←hb n h1 (by omega)]; exact h.2⟩ q) (fun _=>trivial))
  · rw [if_neg h]
    exact rnd (P:=False) (fun h=>h.elim) (rJW_ok hs h0 hi h1 (by omega) (fun _=>rfl) (fun q=>absurd ⟨by omega,by rw [hb n h1 q.1]; exact q.2⟩ h))
set_option maxRecDepth 100000 in
theorem XJX_ok (s:ByteArray)(ys:List AV)(i:Int)(hs:s.size≤600)(h0:0≤i)(hi:i<s.size):(XJX s ys i (wordG (restS s i) (restS s i).size 1)).Sound :=
 XJ_ok.addLp (fnOk fXLex (by kernel_rfl)) (show (fn fXLex).body=some (code fXLex) by kernel_rfl) (by kernel_rfl)
  (Spl.ok (l:=[⟨Unit,fun _=>True,fun _=>jw s ys i 1,fun _=>lexHeap ys,fun _=>jwO s ys i (wordG (restS s i) (restS s i).size 1)⟩]) rfl (show ([0,2,3,4,5,6,8]:List Nat).Nodup by decide) fun s' hs' k _=>by
   obtain rfl:=List.mem_singleton.1 hs'
   have hr:=rest_size s i h0 (by omega)
   exact jwL s ys i hs h0 hi _ 1 (by decide) (by omega) (by omega))
theorem jleaf {Q:Int→List AV→Prop}{ex:Ex}{s:ByteArray}{x:AV}{σ:Hp}{ys:List AV}{i:Int}(hs:s.size≤600)(hy:ys.length≤600)(k d:Int)(h0:0≤i)(hd:0≤d)(h1:i+d≤s.size)(hQ:Q (i+d) (ys++[AV.agg [i0 k,i0 i,s0 (s.extract i.toNat (i+d).toNat)]])) :
  inR IntKind.i64 (i+d)=true∧decide (0≤Option.getD (some i) 0∧Option.getD (some i) 0≤Option.getD (some (i+d)) (s.size:Int)∧Option.getD (some (i+d)) (s.size:Int)≤(s.size:Int)∧false=false)=true ∧
  (true&&(true&&Nat.ble (0+ys.length) ys.length)&&(true&&decide ((ys++[AV.agg [i0 k,i0 i,s0 (s.extract i.toNat (i+d).toNat)]]).length*32≤140737488355328∧(ys++[AV.agg [i0 k,i0 i,s0 (s.extract i.toNat (i+d).toNat)]]).length≤1152921504606846976)))=true∧inR IntKind.i64 (i+d)=true ∧
  ∃ q:Int × List AV,(Q q.1 q.2∧Wks [s0 s, .lit (.slice none 0 0),i0 0,i0 0, .slc 1048577 [0,0] 0 (ys++[AV.agg [i0 k,i0 i,s0 (s.extract i.toNat (i+d).toNat)]]).length,i0 (i+d)] [s0 s, .lit (.slice none 0 0),i0 0,i0 0, .slc 1048577 [0,0] 0 q.2.length,i0 q.1] ∧
   lexHeap (ys++[AV.agg [i0 k,i0 i,s0 (s.extract i.toNat (i+d).toNat)]])=lexHeap q.2)∧ex=ex∧Wk x x∧SameH σ σ:=by
 refine ⟨inR_i64 (by omega) (by omega),decide_eq_true ⟨h0,by show i≤i+d; omega,h1,rfl⟩,?_,inR_i64 (by omega) (by omega),(_,_),⟨hQ, .refl _,rfl⟩,rfl, .refl _, .rfl⟩
 simp; omega
theorem jeq {c n:Nat}(h:c=n):((c:Int)==(n:Int))=true:=by rw [h]; exact beq_self_eq_true _
theorem jne {c n:Nat}(h:c≠n):((c:Int)==(n:Int))=false:=beq_eq_false_iff_ne.2 fun q=>h (by omega)
theorem jblank {c:Nat}(h:blankN c=false):((c:Int)==32)=false∧((c:Int)==9)=false∧((c:Int)==10)=false:=by
 unfold blankN at h
 simp only [Bool.or_eq_false_iff,decide_eq_false_iff_not] at h
 exact ⟨jne h.1,jne h.2.1,jne h.2.2⟩
abbrev QT (Q:Int→List AV→Prop)(s:ByteArray)(ys:List AV)(i:Int):Prop:=Q (i+(oneS (restS s i)).2) (ys++[encT (tokAt s i)])
section
variable {Q:Int→List AV→Prop}{ex:Ex}{s:ByteArray}{e j:Int}{ys zs:List AV}{i:Int}
theorem jQ (k d:Int)(ho:oneS (restS s i)=(k,d))(h:QT Q s ys i):Q (i+d) (ys++[AV.agg [i0 k,i0 i,s0 (s.extract i.toNat (i+d).toNat)]]):=by
 unfold QT tokAt at h; rw [ho] at h; exact h
theorem rJXB_ok (hs:s.size≤600)(h0:0≤i)(h:i<s.size)(hb:blankN (byteAt s i.toNat)=true)(hQ:Q (i+1) ys):rJXB orJXB Q ex s e j ys zs i:=by
 rw [rJXB_vc]
 have hr:inR .i64 (i+1)=true:=inR_i64 (by omega) (by omega)
 refine ⟨decide_eq_true h,decide_eq_true ⟨h0,h⟩,fun _=>⟨rfl,rfl,rfl,rfl,hr,(_,ys),⟨hQ, .refl _,rfl⟩,rfl, .refl _, .rfl⟩,fun n1=>⟨rfl,fun _=>⟨rfl,rfl,hr,(_,ys),⟨hQ, .refl _,rfl⟩,rfl, .refl _, .rfl⟩,fun n2=>⟨rfl,?_,hr,(_,ys),⟨hQ, .refl _,rfl⟩,rfl, .refl _, .rfl⟩⟩⟩
 unfold blankN at hb
 have n1:=beq_eq_false_iff_ne.1 n1
 have n2:=beq_eq_false_iff_ne.1 n2
 simp only [Bool.or_eq_true,decide_eq_true_eq] at hb
 rw [beq_iff_eq]; omega
theorem sgn0 {c:Nat}{t:ByteArray}(h:(signC c t).1=0):c≠40∧c≠41∧c≠44∧c≠43∧c≠124∧c≠45∧c≠38∧c≠33:=by
 refine ⟨?_,?_,?_,?_,?_,?_,?_,?_⟩ <;> (rintro rfl; simp [signC] at h)
theorem sgn1 {c:Nat}{t:ByteArray}(h:(signC c t).1≠0)(h1:c≠58)(h2:c≠46)(n:c≠40∧c≠41∧c≠44∧c≠43∧c≠124∧c≠45∧c≠38):c=33:=by
 obtain ⟨n1,n2,n3,n4,n5,n6,n7⟩:=n
 by_cases h33:c=33
 · exact h33
 · unfold signC at h
   rw [if_neg h1,if_neg h2,if_neg n1,if_neg n2,if_neg n3,if_neg (fun q=>q.elim n4 n5),if_neg n6,if_neg n7,if_neg h33] at h
   exact absurd rfl h
theorem take_all (ys:List AV):List.take ys.length (List.drop 0 ys)=ys:=by rw [List.drop_zero,List.take_length]
set_option maxRecDepth 100000 in
theorem rJXW_ok (hs:s.size≤600)(hy:ys.length≤600)(h0:0≤i)(h:i<s.size)(hb:blankN (byteAt s i.toNat)=false)(hl:letterN (byteAt s i.toNat)=true)(hQ:QT Q s ys i) :
  rJXW orJXW Q ex s e j ys zs i (wordG (restS s i) (restS s i).size 1):=by
 have hr:=rest_size s i h0 (by omega)
 have hb0:byteAt (restS s i) 0=byteAt s i.toNat:=rest_byte s i.toNat 0 (by omega)
 obtain ⟨w1,w2⟩:=wordS_yes (s:=restS s i) (by omega) (by rw [hb0]; exact hl)
 have w3:=(wordS_le (restS s i)).2
 obtain ⟨b1,b2,b3⟩:=jblank hb
 have ho:oneS (restS s i)=(wordedS (s.extract i.toNat (i+wordS (restS s i)).toNat),wordS (restS s i)):=by
  unfold oneS
  rw [if_pos w2,ext_ext s i.toNat (wordS (restS s i)).toNat (by omega)]
  congr 3; omega
 rw [rJXW_vc]
 try dsimp only
 rw [take_all,←w1]
 generalize hw:wordS (restS s i)=w at *
 have hr1:inR .i64 (i+w)=true:=inR_i64 (by omega) (by omega)
 refine ⟨decide_eq_true h,decide_eq_true ⟨h0,h⟩,b1,rfl,b2,rfl,b3,_,⟨byteAt_lt _ _, .refl _,rfl⟩,hl,(),⟨trivial, .refl _,rfl⟩,hr1,decide_eq_true ⟨h0,by show i≤i+w; omega,by show i+w≤s.size; omega,rfl⟩,?_⟩
 have leaf:=fun k (hk:wordedS (s.extract i.toNat (i+w).toNat)=k)=>jleaf (ex:=ex) (s:=s) (x := .tup [s0 s, .lit (.slice none 0 0),i0 e,i0 j, .slc 1048577 [0,1] 0 zs.length]) (σ:=hpL [(1048577,⟨[0,1], .row true 3 zs⟩)]) hs hy k w h0 (by omega) (by omega) (jQ k w (by rw [ho,hk]) hQ)
 have eT:s.extract (Int.toNat (Option.getD (some i) 0)) (Int.toNat (Option.getD (some (i+w)) (s.size:Int)))=s.extract i.toNat (i+w).toNat:=rfl
 rw [eT,strEq' _ bOr,strEq' _ bAnd,strEq' _ bNot,strEq' _ bMinus]
 refine ⟨fun g=>leaf 7 ?_,fun n1=>⟨fun g=>leaf 9 ?_,fun n2=>⟨fun g=>leaf 10 ?_,fun n3=>⟨fun g=>leaf 8 ?_,fun n4=>leaf 1 ?_⟩⟩⟩⟩
 all_goals unfold wordedS
 · rw [if_pos (of_decide_eq_true g)]
 · rw [if_neg (of_decide_eq_false n1),if_pos (of_decide_eq_true g)]
 · rw [if_neg (of_decide_eq_false n1),if_neg (of_decide_eq_false n2),if_pos (of_decide_eq_true g)]
 · rw [if_neg (of_decide_eq_false n1),if_neg (of_decide_eq_false n2),if_neg (of_decide_eq_false n3),if_pos (of_decide_eq_true g)]
 · rw [if_neg (of_decide_eq_false n1),if_neg (of_decide_eq_false n2),if_neg (of_decide_eq_false n3),if_neg (of_decide_eq_false n4)]
theorem one_sign (h0:0≤i)(h:i<s.size)(hl:letterN (byteAt s i.toNat)=false):oneS (restS s i)=signC (byteAt s i.toNat) (restS s i):=by
 have hb0:byteAt (restS s i) 0=byteAt s i.toNat:=rest_byte s i.toNat 0 (by omega)
 unfold oneS
 rw [wordS_no (by rw [hb0]; exact hl),if_neg (by decide)]
 unfold signS; rw [hb0]
theorem has2 (h0:0≤i)(h:i<s.size)(a:UInt8)(p:ByteArray)(hp:p=⟨#[a,a]⟩)(hc:byteAt s i.toNat=a.toNat):hasP (restS s i) p=(decide (i+1<s.size)&&decide (byteAt s (i+1).toNat=a.toNat)):=by
 have hr:=rest_size s i h0 (by omega)
 have hb0:byteAt (restS s i) 0=byteAt s i.toNat:=rest_byte s i.toNat 0 (by omega)
 rw [two_bytes (restS s i) a a p hp,hb0,decide_eq_true hc,Bool.true_and]
 by_cases h1:i+1<s.size
 · have hb1 : byteAt (restS s i) 1 = byteAt s (i + 1).toNat := by
     rw [rest_byte s i.toNat 1 (by omega)]; congr 1; omega
   rw [hb1,decide_eq_true h1,decide_eq_true (show 1<(restS s i).size by omega)]
 · rw [decide_eq_false h1,decide_eq_false (show ¬1<(restS s i).size by omega)]; rfl
set_option maxRecDepth 100000 in
theorem rJXR_ok (hs:s.size≤600)(hy:ys.length≤600)(h0:0≤i)(h:i<s.size)(hb:blankN (byteAt s i.toNat)=false)(hl:letterN (byteAt s i.toNat)=false)(h1:i+1<s.size)(hc:byteAt s i.toNat=58)(hd:byteAt s (i+1).toNat=58)(hQ:QT Q s ys i) :
  rJXR orJXR Q ex s e j ys zs i:=by
 obtain ⟨b1,b2,b3⟩:=jblank hb
 have hr:inR .i64 (i+1)=true:=inR_i64 (by omega) (by omega)
 have ho:=one_sign h0 h hl
 rw [hc,show signC 58 (restS s i)=(5,2) from by unfold signC; rw [if_pos rfl,if_pos (by rw [has2 h0 h 58 bCC rfl hc,decide_eq_true h1,decide_eq_true (show byteAt s (i+1).toNat=(58:UInt8).toNat from hd)]; rfl)]] at ho
 rw [rJXR_vc]
 try dsimp only
 rw [take_all]
 exact ⟨decide_eq_true h,decide_eq_true ⟨h0,h⟩,b1,rfl,b2,rfl,b3,_,⟨byteAt_lt _ _, .refl _,rfl⟩,hl,hr,decide_eq_true h1,rfl,jeq hc,rfl,rfl,hr,rfl,decide_eq_true ⟨by omega,h1⟩,rfl,jeq hd,jleaf hs hy 5 2 h0 (by decide) (by omega) (jQ 5 2 ho hQ)⟩
set_option maxRecDepth 100000 in
theorem rJXD_ok (hs:s.size≤600)(hy:ys.length≤600)(h0:0≤i)(h:i<s.size)(hb:blankN (byteAt s i.toNat)=false)(hl:letterN (byteAt s i.toNat)=false)(h1:i+1<s.size)(hc:byteAt s i.toNat=46)(hd:byteAt s (i+1).toNat=46)(hQ:QT Q s ys i) :
  rJXD orJXD Q ex s e j ys zs i:=by
 obtain ⟨b1,b2,b3⟩:=jblank hb
 have hr:inR .i64 (i+1)=true:=inR_i64 (by omega) (by omega)
 have ho:=one_sign h0 h hl
 rw [hc,show signC 46 (restS s i)=(6,2) from by unfold signC; rw [if_neg (by decide),if_pos rfl,if_pos (by rw [has2 h0 h 46 bDD rfl hc,decide_eq_true h1,decide_eq_true (show byteAt s (i+1).toNat=(46:UInt8).toNat from hd)]; rfl)]] at ho
 rw [rJXD_vc]
 try dsimp only
 rw [take_all]
 exact ⟨decide_eq_true h,decide_eq_true ⟨h0,h⟩,b1,rfl,b2,rfl,b3,_,⟨byteAt_lt _ _, .refl _,rfl⟩,hl,hr,decide_eq_true h1,rfl,jne (by rw [hc]; decide),rfl,rfl,rfl,rfl,rfl,hr,decide_eq_true h1,rfl,jeq hc,rfl,rfl,hr,rfl,decide_eq_true ⟨by omega,h1⟩,rfl,jeq hd,jleaf hs hy 6 2 h0 (by decide) (by omega) (jQ 6 2 ho hQ)⟩
theorem oneC {c:Nat}{k:Int}(ho:oneS (restS s i)=signC c (restS s i)){n:Nat}(hc:((c:Int)==(n:Int))=true)(hk:signC n (restS s i)=(k,1)):oneS (restS s i)=(k,1):=by
 have hc:c=n:=by have:=beq_iff_eq.1 hc; omega
 rw [ho,hc,hk]
theorem nei {c n:Nat}(h:((c:Int)==(n:Int))=false):c≠n:=fun q=>beq_eq_false_iff_ne.1 h (by omega)
set_option maxRecDepth 100000 in
theorem rJXS1_ok (hs:s.size≤600)(hy:ys.length≤600)(h0:0≤i)(h:i<s.size)(hb:blankN (byteAt s i.toNat)=false)(hl:letterN (byteAt s i.toNat)=false)(h1:¬i+1<s.size)(hc:byteAt s i.toNat≠58)(hd:byteAt s i.toNat≠46)(hk:(oneS (restS s i)).1≠0)(hQ:QT Q s ys i) :
  rJXS1 orJXS1 Q ex s e j ys zs i:=by
 obtain ⟨b1,b2,b3⟩:=jblank hb
 have hr:inR .i64 (i+1)=true:=inR_i64 (by omega) (by omega)
 have ho:=one_sign h0 h hl
 rw [ho] at hk
 rw [rJXS1_vc]
 try dsimp only
 rw [take_all]
 have leaf:=fun k ho=>jleaf (ex:=ex) (s:=s) (x := .tup [s0 s, .lit (.slice none 0 0),i0 e,i0 j, .slc 1048577 [0,1] 0 zs.length]) (σ:=hpL [(1048577,⟨[0,1], .row true 3 zs⟩)]) hs hy k 1 h0 (by decide) (by omega) (jQ k 1 ho hQ)
 exact ⟨decide_eq_true h,decide_eq_true ⟨h0,h⟩,b1,rfl,b2,rfl,b3,_,⟨byteAt_lt _ _, .refl _,rfl⟩,hl,hr,decide_eq_false h1,rfl,rfl,rfl,rfl,rfl,rfl,rfl,hr,decide_eq_false h1,rfl,rfl,rfl,rfl,rfl,rfl,rfl,
  fun g=>leaf 2 (oneC ho g rfl),fun n1=>⟨fun g=>leaf 3 (oneC ho g rfl),fun n2=>⟨fun g=>leaf 4 (oneC ho g rfl),fun n3=>⟨fun g=>⟨rfl,rfl,leaf 7 (oneC ho g rfl)⟩,fun n4=>⟨rfl,fun g=>leaf 7 (oneC ho g rfl),fun n5=>⟨fun g=>leaf 8 (oneC ho g rfl),fun n6=>⟨fun g=>leaf 9 (oneC ho g rfl),fun n7 =>
   have e:byteAt s i.toNat=33:=sgn1 hk hc hd ⟨nei n1,nei n2,nei n3,nei n4,nei n5,nei n6,nei n7⟩
   ⟨jeq e,leaf 10 (oneC ho (jeq e) rfl)⟩⟩⟩⟩⟩⟩⟩⟩
set_option maxRecDepth 100000 in
theorem rJXS2_ok (hs:s.size≤600)(hy:ys.length≤600)(h0:0≤i)(h:i<s.size)(hb:blankN (byteAt s i.toNat)=false)(hl:letterN (byteAt s i.toNat)=false)(h1:i+1<s.size)(hc:byteAt s i.toNat≠58)(hd:byteAt s i.toNat≠46)(hk:(oneS (restS s i)).1≠0)(hQ:QT Q s ys i) :
  rJXS2 orJXS2 Q ex s e j ys zs i:=by
 obtain ⟨b1,b2,b3⟩:=jblank hb
 have hr:inR .i64 (i+1)=true:=inR_i64 (by omega) (by omega)
 have ho:=one_sign h0 h hl
 rw [ho] at hk
 rw [rJXS2_vc]
 try dsimp only
 rw [take_all]
 have leaf:=fun k ho=>jleaf (ex:=ex) (s:=s) (x := .tup [s0 s, .lit (.slice none 0 0),i0 e,i0 j, .slc 1048577 [0,1] 0 zs.length]) (σ:=hpL [(1048577,⟨[0,1], .row true 3 zs⟩)]) hs hy k 1 h0 (by decide) (by omega) (jQ k 1 ho hQ)
 exact ⟨decide_eq_true h,decide_eq_true ⟨h0,h⟩,b1,rfl,b2,rfl,b3,_,⟨byteAt_lt _ _, .refl _,rfl⟩,hl,hr,decide_eq_true h1,rfl,jne hc,rfl,rfl,rfl,rfl,rfl,hr,decide_eq_true h1,rfl,jne hd,rfl,rfl,rfl,rfl,rfl,
  fun g=>leaf 2 (oneC ho g rfl),fun n1=>⟨fun g=>leaf 3 (oneC ho g rfl),fun n2=>⟨fun g=>leaf 4 (oneC ho g rfl),fun n3=>⟨fun g=>⟨rfl,rfl,leaf 7 (oneC ho g rfl)⟩,fun n4=>⟨rfl,fun g=>leaf 7 (oneC ho g rfl),fun n5=>⟨fun g=>leaf 8 (oneC ho g rfl),fun n6=>⟨fun g=>leaf 9 (oneC ho g rfl),fun n7 =>
   have e:byteAt s i.toNat=33:=sgn1 hk hc hd ⟨nei n1,nei n2,nei n3,nei n4,nei n5,nei n6,nei n7⟩
   ⟨jeq e,leaf 10 (oneC ho (jeq e) rfl)⟩⟩⟩⟩⟩⟩⟩⟩
set_option maxRecDepth 100000 in
theorem rJXX_ok (h0:0≤i)(hs:s.size≤600)(h:i<s.size)(hb:blankN (byteAt s i.toNat)=false)(hk:(oneS (restS s i)).1=0):∃ os,rJXX os Q s ys i:=by
 have hl:letterN (byteAt s i.toNat)=false:=by
  cases hl:letterN (byteAt s i.toNat) with
  | false=>rfl
  | true =>
   have hr:=rest_size s i h0 (by omega)
   have hb0:byteAt (restS s i) 0=byteAt s i.toNat:=rest_byte s i.toNat 0 (by omega)
   obtain ⟨w1,w2⟩:=wordS_yes (s:=restS s i) (by omega) (by rw [hb0]; exact hl)
   unfold oneS at hk
   rw [if_pos w2] at hk
   unfold wordedS at hk
   simp only at hk
   split at hk
   · exact absurd hk (by decide)
   · split at hk
     · exact absurd hk (by decide)
     · split at hk
       · exact absurd hk (by decide)
       · split at hk <;> exact absurd hk (by decide)
 obtain ⟨b1,b2,b3⟩:=jblank hb
 have hr:inR .i64 (i+1)=true:=inR_i64 (by omega) (by omega)
 have ho:=one_sign h0 h hl
 rw [ho] at hk
 obtain ⟨n1,n2,n3,n4,n5,n6,n7,n8⟩:=sgn0 hk
 by_cases h1:i+1<s.size
 · by_cases hc:byteAt s i.toNat=58
   · have hd : byteAt s (i + 1).toNat ≠ 58 := by
       intro hd
       rw [hc] at hk
       unfold signC at hk
       rw [if_pos rfl,if_pos (by rw [has2 h0 h 58 bCC rfl hc,decide_eq_true h1,decide_eq_true (show byteAt s (i+1).toNat=(58:UInt8).toNat from hd)]; rfl)] at hk
       exact absurd hk (by decide)
     exact ⟨_,(rJXX3_vc Q s ys i).mpr ⟨decide_eq_true h,decide_eq_true ⟨h0,h⟩,b1,rfl,b2,rfl,b3,_,⟨byteAt_lt _ _, .refl _,rfl⟩,hl,hr,decide_eq_true h1,rfl,jeq hc,rfl,rfl,hr,rfl,decide_eq_true ⟨by omega,h1⟩,rfl,jne hd,hr,decide_eq_true h1,rfl,jne (by rw [hc]; decide),rfl,rfl,rfl,rfl,rfl,jne n1,jne n2,jne n3,jne n4,rfl,jne n5,jne n6,jne n7,jne n8,rfl, .refl _, .rfl⟩⟩
   · by_cases hd:byteAt s i.toNat=46
     · have hd2 : byteAt s (i + 1).toNat ≠ 46 := by
         intro hd2
         rw [hd] at hk
         unfold signC at hk
         rw [if_neg (by decide),if_pos rfl,if_pos (by rw [has2 h0 h 46 bDD rfl hd,decide_eq_true h1,decide_eq_true (show byteAt s (i+1).toNat=(46:UInt8).toNat from hd2)]; rfl)] at hk
         exact absurd hk (by decide)
       exact ⟨_,(rJXX4_vc Q s ys i).mpr ⟨decide_eq_true h,decide_eq_true ⟨h0,h⟩,b1,rfl,b2,rfl,b3,_,⟨byteAt_lt _ _, .refl _,rfl⟩,hl,hr,decide_eq_true h1,rfl,jne hc,rfl,rfl,rfl,rfl,rfl,hr,decide_eq_true h1,rfl,jeq hd,rfl,rfl,hr,rfl,decide_eq_true ⟨by omega,h1⟩,rfl,jne hd2,jne n1,jne n2,jne n3,jne n4,rfl,jne n5,jne n6,jne n7,jne n8,rfl, .refl _, .rfl⟩⟩
     · exact ⟨_,(rJXX2_vc Q s ys i).mpr ⟨decide_eq_true h,decide_eq_true ⟨h0,h⟩,b1,rfl,b2,rfl,b3,_,⟨byteAt_lt _ _, .refl _,rfl⟩,hl,hr,decide_eq_true h1,rfl,jne hc,rfl,rfl,rfl,rfl,rfl,hr,decide_eq_true h1,rfl,jne hd,rfl,rfl,rfl,rfl,rfl,jne n1,jne n2,jne n3,jne n4,rfl,jne n5,jne n6,jne n7,jne n8,rfl, .refl _, .rfl⟩⟩
 · exact ⟨_,(rJXX1_vc Q s ys i).mpr ⟨decide_eq_true h,decide_eq_true ⟨h0,h⟩,b1,rfl,b2,rfl,b3,_,⟨byteAt_lt _ _, .refl _,rfl⟩,hl,hr,decide_eq_false h1,rfl,rfl,rfl,rfl,rfl,rfl,rfl,hr,decide_eq_false h1,rfl,rfl,rfl,rfl,rfl,rfl,rfl,jne n1,jne n2,jne n3,jne n4,rfl,jne n5,jne n6,jne n7,jne n8,rfl, .refl _, .rfl⟩⟩
end
abbrev BJX (xs:List AV)(σ:Hp)(r:Ex × Back):Prop:=BlkOk Tryz.prog gl0 (fn fXLex).ntmps (loopAt (code fXLex) 0) [0,2,3,4,5,6] (fun _=>[0,2,3,4,5]) xs σ fun _ q=>q=r
abbrev jxSpl (Q:Int→List AV→Prop)(s:ByteArray)(r:Ex × Back):Spl:=⟨Int × List AV,fun q=>Q q.1 q.2,fun q=>jxArgs s q.2 q.1,fun q=>lexHeap q.2,fun _=>r⟩
set_option maxRecDepth 100000 in
theorem jxRound {X:WX}(hX:X.Sound)(hp:X.px=X0){os:Orc}{fc:List Nat}{Q:Int→List AV→Prop}{s:ByteArray}{ys:List AV}{i:Int}{r r':Ex × Back}(ih:∀ i' ys',Q i' ys'→BJX (jxArgs s ys' i') (lexHeap ys') r')(h:rJX X os fc Q s ys i r r'):BJX (jxArgs s ys i) (lexHeap ys) r:=by
 have hP:X.px.P=Tryz.prog:=by rw [hp]; rfl
 have hg:X.px.gl=gl0:=by rw [hp]; rfl
 have:=lp_round (X:=X.ask [fXLex]) (hX.ask _) (f:=fXLex) (fn:=fn fXLex) (code:=code fXLex) (by show X.px.P.funcs[fXLex]?=_; rw [hP]; exact fnOk fXLex (by kernel_rfl)) (show (fn fXLex).body=some (code fXLex) by kernel_rfl) (L:=lpJX Q s r') (L':=lpJX Q s r') (l:=[jxSpl Q s r']) rfl (show ([0,2,3,4,5,6]:List Nat).Nodup by decide)
  (fun s' hs' q hq=>by obtain rfl:=List.mem_singleton.1 hs'; show BlkOk X.px.P X.px.gl _ _ _ _ _ _ _; rw [hP,hg]; exact ih q.1 q.2 hq) h
 show BlkOk Tryz.prog gl0 _ _ _ _ _ _ _
 rw [←hg,←hP]; exact this
theorem jxRen {s:ByteArray}{ex:Ex}{e j:Int}{xs zs:List AV}{σ:Hp}(h:BJX xs σ (jxR 0 ex s e j zs)):BJX xs σ (jxR 1 ex s e j zs):=by
 have hg:∀ (c k:Nat),aget (hpL [(1048577,⟨[0,c], .row true 3 zs⟩)]) k=if k=1048577 then some ⟨[0,c], .row true 3 zs⟩ else none:=by
  intro c k
  simp only [hpL]
  rw [aget_aset,aget_nil]
 refine BlkOk.ren1 (l:=1048577) (i:=[0,0]) (i':=[0,1]) (n:=zs.length) h ?_ ((hg 0 _).trans (if_pos rfl)) ?_ ⟨[0],rfl⟩ (hg 1) (fun k hk=>hk) (List.mem_singleton.2 rfl)
 · intro t z' ht
   simp only [mkSl,aget_aset,aget_nil] at ht ⊢
   by_cases e0:t=0
   · rw [if_pos e0] at ht ⊢; cases ht; exact ⟨_,rfl, .inl ⟨rfl,rfl⟩⟩
   rw [if_neg e0] at ht ⊢
   by_cases e2:t=2
   · rw [if_pos e2] at ht ⊢; cases ht; exact ⟨_,rfl, .inl ⟨rfl,rfl⟩⟩
   rw [if_neg e2] at ht ⊢
   by_cases e3:t=3
   · rw [if_pos e3] at ht ⊢; cases ht; exact ⟨_,rfl, .inl ⟨rfl,rfl⟩⟩
   rw [if_neg e3] at ht ⊢
   by_cases e4:t=4
   · rw [if_pos e4] at ht ⊢; cases ht; exact ⟨_,rfl, .inl ⟨rfl,rfl⟩⟩
   rw [if_neg e4] at ht ⊢
   by_cases e5:t=5
   · rw [if_pos e5] at ht ⊢; cases ht; exact ⟨_,rfl, .inr ⟨rfl,rfl⟩⟩
   rw [if_neg e5] at ht
   exact nomatch ht
 · intro k e hk
   rw [hg] at hk
   split at hk
   · assumption
   · cases hk
def JForm (r:Option Int × List Tk)(ex:Ex)(e j:Int)(zs:List AV):Prop:=match r with
 | (none,ts)=>ex = .exit 0∧e=0∧j=0∧zs=ts.map encT
 | (some j',_)=>ex = .ret∧e=15∧j=j'
attribute [local irreducible] runL in
set_option maxRecDepth 100000 in
theorem jxL (s:ByteArray)(hs:s.size≤600):∀ (f:Nat)(i:Int)(out:List Tk),0≤i→s.size-i≤f→out.length+(s.size-i)≤600→i≤s.size →
  ∃ ex e j zs,JForm (lexG s f i out) ex e j zs∧BJX (jxArgs s (out.map encT) i) (lexHeap (out.map encT)) (jxR 1 ex s e j zs):=by
 intro f
 induction f with
 | zero =>
  intro i out h0 h1 _ _
  exact ⟨_,_,_,_,⟨rfl,rfl,rfl,rfl⟩,jxRen (jxRound XJ_ok rfl (Q:=fun _ _=>False) (r':=jxR 0 (.exit 0) s 0 0 (out.map encT)) (fun _ _ h=>h.elim) (show rJXE (Orc.f Orc.z) _ _ _ _ from by rw [rJXE_vc]; exact ⟨decide_eq_false (by omega),rfl, .refl _, .rfl⟩))⟩
 | succ f ih =>
  intro i out h0 h1 hl h2
  rw [lexG]
  by_cases hi:i<s.size
  · rw [if_pos hi]
    have hr:=rest_size s i h0 h2
    have hy:(out.map encT).length≤600:=by rw [List.length_map]; omega
    by_cases hb:blankN (byteAt s i.toNat)=true
    · rw [if_pos hb]
      obtain ⟨ex,e,j,zs,hF,hB⟩:=ih (i+1) out (by omega) (by omega) (by omega) (by omega)
      exact ⟨ex,e,j,zs,hF,jxRound XJ_ok rfl (Q:=fun i' ys'=>i'=i+1∧ys'=out.map encT) (fun i' ys' h=>by rw [h.1,h.2]; exact hB) (rJXB_ok hs h0 hi hb ⟨rfl,rfl⟩)⟩
    · rw [if_neg hb]
      have hb':blankN (byteAt s i.toNat)=false:=by simpa using hb
      show ∃ ex e j zs,JForm (if (oneS (restS s i)).1=0 then (some i,[]) else lexG s f (i+(oneS (restS s i)).2) (out++[tokAt s i])) ex e j zs∧_
      by_cases ho:(oneS (restS s i)).1=0
      · rw [if_pos ho]
        obtain ⟨os,hx⟩:=rJXX_ok (Q:=fun _ _=>False) (ys:=out.map encT) h0 hs hi hb' ho
        exact ⟨_,_,_,_,⟨rfl,rfl,rfl⟩,jxRen (jxRound XJ_ok rfl (fun _ _ h=>h.elim) hx)⟩
      · rw [if_neg ho]
        have k3:=one_le (restS s i) (by omega) ho
        obtain ⟨ex,e,j,zs,hF,hB⟩:=ih (i+(oneS (restS s i)).2) (out++[tokAt s i]) (by omega) (by omega) (by rw [List.length_append,List.length_singleton]; omega) (by omega)
        have hQ:∀ i' ys',(i'=i+(oneS (restS s i)).2∧ys'=out.map encT++[encT (tokAt s i)])→BJX (jxArgs s ys' i') (lexHeap ys') (jxR 1 ex s e j zs):=fun i' ys' h=>by rw [h.1,h.2]; rw [List.map_append] at hB; exact hB
        refine ⟨ex,e,j,zs,hF,?_⟩
        have hT:QT (fun i' ys'=>i'=i+(oneS (restS s i)).2∧ys'=out.map encT++[encT (tokAt s i)]) s (out.map encT) i:=⟨rfl,rfl⟩
        cases hlt:letterN (byteAt s i.toNat) with
        | true=>exact jxRound (XJX_ok s (out.map encT) i hs h0 hi) rfl hQ (rJXW_ok hs hy h0 hi hb' hlt hT)
        | false =>
          have h1s:=one_sign h0 hi hlt
          by_cases hlen:i+1<s.size
          · by_cases hc:byteAt s i.toNat=58
            · by_cases hd:byteAt s (i+1).toNat=58
              · exact jxRound XJ_ok rfl hQ (rJXR_ok hs hy h0 hi hb' hlt hlen hc hd hT)
              · refine absurd ?_ ho
                have e1:hasP (restS s i) bDD=false:=by
                  rw [two_bytes _ 46 46 bDD rfl,rest_byte s i.toNat 0 (by omega),show byteAt s (i.toNat+0)=58 from hc]
                  simp
                rw [h1s,hc]; unfold signC
                rw [if_pos rfl,if_neg (by rw [has2 h0 hi 58 bCC rfl hc,decide_eq_true hlen,decide_eq_false (show ¬byteAt s (i+1).toNat=(58:UInt8).toNat from hd)]; decide),if_neg (by rw [e1]; decide)]
            · by_cases hd:byteAt s i.toNat=46
              · by_cases hd2:byteAt s (i+1).toNat=46
                · exact jxRound XJ_ok rfl hQ (rJXD_ok hs hy h0 hi hb' hlt hlen hd hd2 hT)
                · refine absurd ?_ ho
                  rw [h1s,hd]; unfold signC
                  rw [if_neg (by decide),if_pos rfl,if_neg (by rw [has2 h0 hi 46 bDD rfl hd,decide_eq_true hlen,decide_eq_false (show ¬byteAt s (i+1).toNat=(46:UInt8).toNat from hd2)]; decide)]
              · exact jxRound XJ_ok rfl hQ (rJXS2_ok hs hy h0 hi hb' hlt hlen hc hd ho hT)
          · have e2 : ∀ a p, p = (⟨#[a, a]⟩ : ByteArray) → hasP (restS s i) p = false := fun a p hp => by
              rw [two_bytes _ a a p hp,decide_eq_false (show ¬1<(restS s i).size by omega)]; rfl
            have hc:byteAt s i.toNat≠58:=by
              intro hc; refine ho ?_
              rw [h1s,hc]; unfold signC
              rw [if_pos rfl,if_neg (by rw [e2 58 bCC rfl]; decide),if_neg (by rw [e2 46 bDD rfl]; decide)]
            have hd:byteAt s i.toNat≠46:=by
              intro hd; refine ho ?_
              rw [h1s,hd]; unfold signC
              rw [if_neg (by decide),if_pos rfl,if_neg (by rw [e2 46 bDD rfl]; decide)]
            exact jxRound XJ_ok rfl hQ (rJXS1_ok hs hy h0 hi hb' hlt hlen hc hd ho hT)
  · rw [if_neg hi]
    exact ⟨_,_,_,_,⟨rfl,rfl,rfl,rfl⟩,jxRen (jxRound XJ_ok rfl (Q:=fun _ _=>False) (r':=jxR 0 (.exit 0) s 0 0 (out.map encT)) (fun _ _ h=>h.elim) (show rJXE (Orc.f Orc.z) _ _ _ _ from by rw [rJXE_vc]; exact ⟨decide_eq_false hi,rfl, .refl _, .rfl⟩))⟩
set_option maxRecDepth 100000 in
theorem jxAdd {s:ByteArray}{q:Ex × Back}(h:BJX (jxArgs s [] 0) (lexHeap []) q):(XJ.addLp fXLex 0 (lpJX (fun i ys=>i=0∧ys=[]) s q)).Sound :=
 XJ_ok.addLp (fnOk fXLex (by kernel_rfl)) (show (fn fXLex).body=some (code fXLex) by kernel_rfl) (by kernel_rfl)
  (Spl.ok (l:=[jxSpl (fun i ys=>i=0∧ys=[]) s q]) rfl (show ([0,2,3,4,5,6]:List Nat).Nodup by decide) fun s' hs' i hi=>by
   obtain rfl:=List.mem_singleton.1 hs'
   obtain ⟨h1,h2⟩:=hi
   show BJX (jxArgs s i.2 i.1) (lexHeap i.2) q
   rw [h1,h2]; exact h)
def encXLex:LexR→AV
 | .long => .tup [.lst false 3 [],i0 5,i0 0]
 | .bad i => .tup [.lst false 3 [],i0 15,i0 i]
 | .ok ts => .tup [.lst false 3 (ts.map encT),i0 0,i0 0]
abbrev FXLex (s:ByteArray)(x:AV):Prop:=F fXLex [s0 s] x
attribute [local irreducible] runF in
set_option maxRecDepth 100000 in
theorem jxFn {s:ByteArray}{q:Ex × Back}{os:Orc}{x:AV}(h:BJX (jxArgs s [] 0) (lexHeap []) q)(hg:gJX os s q x):FXLex s x :=
 fn_ok (X:=(XJ.addLp fXLex 0 (lpJX (fun i ys=>i=0∧ys=[]) s q)).ask [fXLex]) (d:=10) ((jxAdd h).ask _) (f:=fXLex) (fn:=fn fXLex) (code:=code fXLex) (fnOk fXLex (by kernel_rfl)) (show (fn fXLex).body=some (code fXLex) by kernel_rfl) (by kernel_rfl) hg
attribute [local irreducible] runF in
set_option maxRecDepth 100000 in
theorem xlex_ok (s:ByteArray):FXLex s (encXLex (lexS s)):=by
 unfold lexS
 by_cases h:600<s.size
 · rw [if_pos h]
   exact fn_ok (X:=XJ.ask [fXLex]) (d:=10) (XJ_ok.ask _) (f:=fXLex) (fn:=fn fXLex) (code:=code fXLex) (fnOk fXLex (by kernel_rfl)) (show (fn fXLex).body=some (code fXLex) by kernel_rfl) (by kernel_rfl) (show gJXL (Orc.t Orc.z) s from by rw [gJXL_vc]; exact ⟨decide_eq_true (by omega), .tup (.cons .nilS (.refl _)), .rfl⟩)
 · rw [if_neg h]
   have hs:s.size≤600:=by omega
   obtain ⟨ex,e,j,zs,hF,hB⟩:=jxL s hs s.size 0 [] (Int.le_refl _) (by omega) (by show (0:Int)+_≤_; omega) (by omega)
   have hlen:=lexG_length s s.size 0 []
   generalize lexG s s.size 0 []=R at hF hlen
   obtain ⟨_ | j',ts⟩:=R
   · have hl:=hlen ts (Int.le_refl _) (by omega) rfl
     obtain ⟨rfl,rfl,rfl,rfl⟩:=hF
     have hz:ts.length≤600:=by have:((([]:List Tk).length:Nat):Int)=0:=rfl; omega
     show FXLex s (.tup [.lst false 3 ((ts++[(⟨11,s.size,ByteArray.empty⟩:Tk)]).map encT),i0 0,i0 0])
     rw [List.map_append]
     refine jxFn hB (show gJXA (Orc.f Orc.z) s (ts.map encT) from ?_)
     rw [gJXA_vc]
     try dsimp only
     rw [take_all,take_all]
     exact ⟨decide_eq_false (by omega),(_,_),⟨⟨rfl,rfl⟩, .refl _,rfl⟩,by simp; omega,by simp, .refl _, .rfl⟩
   · obtain ⟨rfl,rfl,rfl⟩:=hF
     refine jxFn hB (show gJXC (Orc.f Orc.z) s zs j from ?_)
     rw [gJXC_vc]
     exact ⟨decide_eq_false (by omega),(_,_),⟨⟨rfl,rfl⟩, .refl _,rfl⟩, .tup (.cons .nilS (.refl _)), .rfl⟩
end
end Go.Proofs.YtpofhijgccocpaaGreatDoor
end
section
namespace Go.TP
open Go.AS
mutual
def cleanS:Nd→Bool
 | .mk k _ _ t ks=>!(decide (k=10)&&(decide (t=wAnc)||decide (t=wDesc)))&&cleanL ks
def cleanL:List Nd→Bool
 | []=>true
 | n::r=>cleanS n&&cleanL r
end
def RN.zero:RN:=⟨0,0,0,ByteArray.empty,[]⟩
def ndR (l:List RN)(k:Nat):RN:=l.getD k RN.zero
theorem Rep.inv {l:List RN}{p:Nat}{x:Nd}(h:Rep l p x):p<l.length∧(ndR l p).kind=x.kind∧(ndR l p).at_=x.at_∧(ndR l p).n=x.num∧(ndR l p).text=x.text∧(ndR l p).kids.length=x.kids.length∧(∀ b∈(ndR l p).kids,b<p) ∧
  ∀ (i b:Nat)(y:Nd),(ndR l p).kids[i]?=some b→x.kids[i]?=some y→Rep l b y:=by
 cases h with
 | mk _ x ks hx hl hlt hk =>
  have e:ndR l p=x:=by unfold ndR; rw [List.getD_eq_getElem?_getD,hx]; rfl
  rw [e]
  exact ⟨(List.getElem?_eq_some_iff.1 hx).1,rfl,rfl,rfl,rfl,hl,hlt,hk⟩
theorem Rep.take {l:List RN}{p:Nat}{x:Nd}(h:Rep l p x):∀ {q:Nat},p<q→Rep (l.take q) p x:=by
 induction h with
 | mk a x ks hx hl hlt hk ih =>
  intro q hq
  refine .mk a x ks ?_ hl hlt fun i b k h1 h2=>ih i b k h1 h2 (Nat.lt_trans (hlt b (List.mem_of_getElem? h1)) hq)
  rw [List.getElem?_take,if_pos hq]; exact hx
end Go.TP
end
section
namespace Go.Proofs.YtpofhijgccocpaaGreatDoor
open Go.AS Go.TP
noncomputable section
theorem hpL1 (a:Nat)(e:Ent)(k:Nat):aget (hpL [(a,e)]) k=if k=a then some e else none:=by
 simp only [hpL]; rw [aget_aset,aget_nil]
theorem hpL2 (a b:Nat)(e f:Ent)(k:Nat):aget (hpL [(a,e),(b,f)]) k=if k=a then some e else if k=b then some f else none:=by
 simp only [hpL]; rw [aget_aset,aget_aset,aget_nil]
theorem SameHp.refl (σ:Hp):SameHp σ σ:=fun k=>by
 cases h:aget σ k with
 | none=>exact .inl ⟨rfl,rfl⟩
 | some e=>exact .inr ⟨e,e,rfl,rfl,rfl,fun _ _ _ => .rfl⟩
theorem gl0_noLab:∀ g x,gl0 g=some x→noLab x=true:=by
 intro g x h
 have h:bsel (Nat.beq g gSyntax) (some (.ref (errStr eSyn))) (bsel (Nat.beq g gRange) (some (.ref (errStr eRan))) (bsel (Nat.beq g gPow) (some powA) none))=some x:=h
 cases hb:Nat.beq g gSyntax
 · rw [hb,bsel_false] at h
   cases hb2:Nat.beq g gRange
   · rw [hb2,bsel_false] at h
     cases hb3:Nat.beq g gPow
     · rw [hb3,bsel_false] at h; cases h
     · rw [hb3,bsel_true] at h; cases h; rfl
   · rw [hb2,bsel_true] at h; cases h; rfl
 · rw [hb,bsel_true] at h; cases h; rfl
theorem same_pu (sz:Nat)(xs:List AV)(h:noLabs xs=true):SameObj (.row false sz xs) (.row true sz xs):=by
 intro E w L
 constructor
 · intro g
   cases g with
   | row h1 hx hc hs hn hb hf ho=>exact .row h1 (RR.pure_of hx h) hc hs hn hb hf ho
   | ghost _ _=>exact .ghost _ _
 · intro g
   cases g with
   | row h1 hx hc hs hn hb hf ho=>exact .row h1 ((show RR E.pure .cs xs _ from hx).mono E.pure_le) hc hs hn hb hf ho
   | ghost _ _=>exact .ghost _ _
theorem xHp_nest (ts:List AV)(k d:Int)(xs:List AV)(bad pl:Int):SameHp (xHp 0 ts k d xs bad pl) (xHpN ts k d xs bad pl):=by
 intro q
 unfold xHp xHpN
 rw [hpL2,hpL2]
 by_cases h1:q=1048577
 · rw [if_pos h1,if_pos h1]; exact .inr ⟨_,_,rfl,rfl,rfl,fun _ _ _ => .rfl⟩
 · rw [if_neg h1,if_neg h1]
   by_cases h2:q=1048578
   · rw [if_pos h2,if_pos h2]; exact .inr ⟨_,_,rfl,rfl,rfl,same_flat 6 1048577 0 xs.length [0,0] [.lst false 3 ts,i0 k,i0 d] [i0 bad,i0 pl]⟩
   · rw [if_neg h2,if_neg h2]; exact .inl ⟨rfl,rfl⟩
theorem x_isNest {all:List Tk}{s:RS}(h:XInv all s)(hb:s.bad=none){c:Int}{b:Bool}(hi:isR c s=b):FOk Tryz.prog gl0 fXIs [xArg,i0 c] (xHpN (all.map encT) (plc all s) s.deep (s.out.map xE) 0 0) ⟨b0 b,xHpN (all.map encT) (plc all s) s.deep (s.out.map xE) 0 0,[]⟩ :=
 FOk.same (r:=⟨b0 b,_,[]⟩) (xHp_nest _ _ _ _ _ _) (xHp_nest _ _ _ _ _ _) ⟨fun _ _=>rfl,fun _ e he=>⟨e,he⟩⟩ (x_isN h hb hi)
theorem x_failNest {all:List Tk}{s:RS}(h:XInv all s)(hb:s.bad=none):FOk Tryz.prog gl0 fXFail [xArg,i0 15] (xHpN (all.map encT) (plc all s) s.deep (s.out.map xE) 0 0)
  ⟨i0 0,xHpN (all.map encT) (plc all s) s.deep (s.out.map xE) (badE (failR 15 s)) (badP (failR 15 s)),[1048578]⟩:=by
 refine FOk.same (r:=⟨i0 0,_,[1048578]⟩) (xHp_nest _ _ _ _ _ _) (xHp_nest _ _ _ _ _ _) ⟨fun l hl => ?_,fun l e he => ?_⟩ (x_fail h hb)
 · unfold xHpN
   have:l≠1048578:=fun q=>hl (List.mem_singleton.2 q)
   rw [hpL2,hpL2,if_neg this,if_neg this]
 · unfold xHpN at he ⊢
   rw [hpL2] at he ⊢
   by_cases h1:l=1048577
   · rw [if_pos h1]; exact ⟨_,rfl⟩
   · rw [if_neg h1] at he ⊢
     by_cases h2:l=1048578
     · rw [if_pos h2]; exact ⟨_,rfl⟩
     · rw [if_neg h2] at he; cases he
theorem xExpr0 {ts:List Tk}{q:Nat × RS}(h:FOk Tryz.prog gl0 fXExpr [xArg] (xHp 0 (ts.map encT) 0 0 [] 0 0) ⟨i0 q.1,xS 1 ts q.2,[1048577,1048578]⟩) :
  FOk Tryz.prog gl0 fXExpr [.ptr 1048577 [0,0] 0 0] (xP0 (ts.map encT)) ⟨i0 q.1,xP1 (ts.map encT) (plc ts q.2) q.2.deep (q.2.out.map xE) (badE q.2) (badP q.2),[1048577,1048578]⟩:=by
 have g:=FOk.nil2 (sz:=6) (sz':=5) (n:=(q.2.out.map xE).length) (pre:=[.lst false 3 (ts.map encT),i0 0,i0 0]) (post:=[i0 0,i0 0]) (pre':=[.lst false 3 (ts.map encT),i0 (plc ts q.2),i0 q.2.deep]) (post':=[i0 (badE q.2),i0 (badP q.2)]) (ys:=q.2.out.map xE) gl0_noLab rfl rfl rfl rfl rfl rfl
  (fun k=>by unfold xHp; rw [hpL2]; rfl) (fun k=>xHp_get 1 ts q.2 k) h
 refine FOk.same (r:=⟨i0 q.1,_,[1048577,1048578]⟩) (fun k => ?_) (fun k => ?_) ⟨fun l hl => ?_,fun l e he => ?_⟩ g
 · unfold xP0
   rw [hpL1,hpL1]
   by_cases h1:k=1048577
   · rw [if_pos h1,if_pos h1]; exact .inr ⟨_,_,rfl,rfl,rfl,same_pu 6 _ rfl⟩
   · rw [if_neg h1,if_neg h1]; exact .inl ⟨rfl,rfl⟩
 · unfold xP1
   rw [hpL2,hpL2]
   by_cases h1:k=1048577
   · rw [if_pos h1,if_pos h1]; exact .inr ⟨_,_,rfl,rfl,rfl,same_flat 6 1048578 0 (q.2.out.map xE).length [0,1] [.lst false 3 (ts.map encT),i0 (plc ts q.2),i0 q.2.deep] [i0 (badE q.2),i0 (badP q.2)]⟩
   · rw [if_neg h1,if_neg h1]
     by_cases h2:k=1048578
     · rw [if_pos h2]; exact .inr ⟨_,_,rfl,rfl,rfl,fun _ _ _ => .rfl⟩
     · rw [if_neg h2]; exact .inl ⟨rfl,rfl⟩
 · unfold xP0 xP1
   have n1:l≠1048577:=by rintro rfl; exact hl (by simp)
   have n2:l≠1048578:=by rintro rfl; exact hl (by simp)
   rw [hpL1,hpL2,if_neg n1,if_neg n2,if_neg n1]
 · unfold xP0 at he
   unfold xP1
   rw [hpL1] at he
   rw [hpL2]
   by_cases h1:l=1048577
   · rw [if_pos h1]; exact ⟨_,rfl⟩
   · rw [if_neg h1] at he; cases he
attribute [local irreducible] runF in
set_option maxRecDepth 100000 in
theorem xpFn {X:WX}(hX:X.Sound)(hp:X.px=X0∨X.px=X0P){os:Orc}{fz:Nat}{s:ByteArray}{x:AV}(g:gXP X os fz s x):F fXParse [s0 s] x:=by
 have hP:X.px.P=Tryz.prog:=by rcases hp with hp | hp <;> (rw [hp]; rfl)
 have hg:X.px.gl=gl0:=by rcases hp with hp | hp <;> (rw [hp]; rfl)
 have:=fn_ok (X:=X.ask (fXCut::askX)) (d:=14) (hX.ask _) (f:=fXParse) (fn:=fn fXParse) (code:=code fXParse) (by show X.px.P.funcs[fXParse]?=_; rw [hP]; exact fnOk fXParse (by kernel_rfl)) (show (fn fXParse).body=some (code fXParse) by kernel_rfl) (by kernel_rfl) g
 show FOk Tryz.prog gl0 fXParse _ _ _
 rw [←hg,←hP]; exact this
def XParOk (s:ByteArray):ParR→Prop
 | .long=>F fXParse [s0 s] (.tup [noTree,i0 5,i0 0])
 | .bad k a=>F fXParse [s0 s] (.tup [noTree,i0 k,i0 a])∧k≠0
 | .ok n=>∃ (l:List RN)(p:Nat),l.length=p+1∧l.length≤1000000∧Rep l p n∧F fXParse [s0 s] (.tup [.agg [.lst false 5 (l.map xE)],i0 0,i0 0])
theorem lexS_size {s:ByteArray}{ts:List Tk}(h:lexS s = .ok ts):ts.length≤1000000∧∀ t∈ts,t.text.size≤1000000:=by
 unfold lexS at h
 by_cases hs:600<s.size
 · rw [if_pos hs] at h; cases h
 · rw [if_neg hs] at h
   have hg:=lexG_ok s (by omega) s.size 0 []
   have hn:=lexG_length s s.size 0 []
   generalize lexG s s.size 0 []=R at h hg hn
   obtain ⟨_ | j,us⟩:=R
   · cases h
     have h1:=hn us (Int.le_refl _) (by omega) rfl
     have h0:((([]:List Tk).length:Nat):Int)=0:=rfl
     refine ⟨by rw [List.length_append,List.length_singleton]; omega,fun t ht => ?_⟩
     rcases List.mem_append.1 ht with ht | ht
     · have:=(hg us (fun t ht=>by cases ht) rfl t ht).2; omega
     · rw [List.mem_singleton] at ht; subst ht; exact Nat.zero_le _
   · cases h
theorem spLx_ok {s:ByteArray}{r:AV}(h:F fXLex [s0 s] r):ConOk Tryz.prog gl0 fXLex (Sp.con [spLx s r]):=conOk (s:=spLx s r) fun _ _=>h
set_option maxRecDepth 100000 in
theorem xparse_ok (s:ByteArray):XParOk s (parseS s):=by
 have hl:=xlex_ok s
 have ho:=@lexS_ok s
 have hz:=@lexS_size s
 unfold parseS
 generalize lexS s=L at hl ho hz
 cases L with
 | long =>
  refine xpFn ((XBP_ok.add (spLx_ok hl))) (.inr rfl) (os:=Orc.t Orc.z) (fz:=0) (show gXPL _ s 5 0 from ?_)
  rw [gXPL_vc]; exact ⟨(),⟨trivial, .refl _,rfl⟩,rfl, .tup (.cons (.agg (.cons .nilS .nil)) (.refl _)), .rfl⟩
 | bad i =>
  refine ⟨xpFn ((XBP_ok.add (spLx_ok hl))) (.inr rfl) (os:=Orc.t Orc.z) (fz:=0) (show gXPL _ s 15 i from ?_),by decide⟩
  rw [gXPL_vc]; exact ⟨(),⟨trivial, .refl _,rfl⟩,rfl, .tup (.cons (.agg (.cons .nilS .nil)) (.refl _)), .rfl⟩
 | ok ts =>
  have hts:=ho rfl
  obtain ⟨hlen,hsz⟩:=hz rfl
  show XParOk s (parOf (PF (5*ts.length+5) .expr 0 ts))
  have hI:XInv ts ⟨ts,0,[],none⟩:=⟨List.suffix_refl _,hts,(fun p hp=>by cases hp),Int.le_refl _,by show (0:Int)≤26; decide,by omega,by show 0+ts.length≤_; omega⟩
  have hx:=xLv_ok hsz (5*ts.length+5) .expr ⟨ts,0,[],none⟩ hI rfl (by show (0:Int)≤24; decide) (Nat.le_refl _)
  have hag:=RP_ok (5*ts.length+5) .expr ⟨ts,0,[],none⟩ hts rfl (by show (0:Int)≤24; decide) (Nat.le_refl _)
  have hri:=RP_RI (5*ts.length+5) .expr ⟨ts,0,[],none⟩ hts (fun p hp=>by cases hp)
  unfold LvOk at hx
  rw [xS_none (s:=⟨ts,0,[],none⟩) rfl,show ((ts.length:Int)-((⟨ts,0,[],none⟩:RS).ts.length:Nat))=0 from Int.sub_self _] at hx
  change Agree _ (PF (5*ts.length+5) .expr 0 ts) _ at hag
  generalize RP (5*ts.length+5) .expr ⟨ts,0,[],none⟩=q at hx hag hri
  generalize PF (5*ts.length+5) .expr 0 ts=r at hag
  have hE:=xExpr0 hx
  have hqI:XInv ts q.2:=hI.of_RI (by show (0:Int)≤24; decide) hri
  have hb0:=XBP_ok.add (spLx_ok (s:=s) hl)
  rcases agree_cases hag with ⟨x,e1,e2⟩ | ⟨e1,xs,e2,e3⟩
  · have hne:=hqI.bad x e2
    have hbE:badE q.2=x.1:=by unfold badE; rw [e2]
    have hbP:badP q.2=x.2:=by unfold badP; rw [e2]
    have:parOf r = .bad x.1 x.2:=by unfold parOf; rw [e1]
    rw [this]
    rw [hbE,hbP] at hE
    refine ⟨xpFn (hb0.add (Sp.one (s:=spPE (ts.map encT) q.1 (plc ts q.2) q.2.deep (q.2.out.map xE) x.1 x.2) fun _ _=>hE)) (.inr rfl) (os:=(Orc.f (Orc.f (Orc.f (Orc.f (Orc.f (Orc.t Orc.z))))))) (fz:=0) (show gXPB _ s (ts.map encT) q.1 (plc ts q.2) q.2.deep (q.2.out.map xE) x.1 x.2 from ?_),hne⟩
    rw [gXPB_vc]
    exact ⟨(),⟨trivial, .refl _,rfl⟩,rfl,(),⟨trivial, .refl _,rfl⟩,beq_eq_false_iff_ne.2 hne,rfl,rfl,rfl,bne_iff_ne.2 hne, .tup (.cons (.agg (.cons .nilS .nil)) (.refl _)), .rfl⟩
  · have hqb:q.2.bad=none:=by rw [e2]
    have hqt:q.2.ts=r.ts:=by rw [e2]
    rw [(bad0 hqb).1,(bad0 hqb).2] at hE
    have hb1:=hb0.add (f:=fXExpr) (Sp.one (s:=spPE (ts.map encT) q.1 (plc ts q.2) q.2.deep (q.2.out.map xE) 0 0) fun _ _=>hE)
    by_cases hk:(headT r.ts).kind=11
    · have hp:parOf r = .ok r.n:=by unfold parOf; rw [e1]; exact if_pos hk
      rw [hp]
      have hi:isR 11 q.2=true:=by rw [isR_none hqb,hqt]; exact decide_eq_true hk
      have hlt:q.1<xs.length:=e3.lt
      have hxs:q.2.out=xs:=by rw [e2]; rfl
      have hlo:=hqI.lo
      rw [hxs] at hlo hb1
      refine ⟨xs.take (q.1+1),q.1,by rw [List.length_take]; omega,by rw [List.length_take]; omega,e3.take (Nat.lt_succ_self _),?_⟩
      have hIs:=x_isNest hqI hqb hi
      rw [hxs] at hIs
      refine xpFn (hb1.add (con1 hIs)) (.inr rfl) (os:=(Orc.f (Orc.t (Orc.t (Orc.t (Orc.f (Orc.f Orc.z))))))) (fz:=1) ?_
      have e4:(xs.take (q.1+1)).map xE=(xs.map xE).take ((q.1:Int)+1).toNat:=by rw [List.map_take]; congr 1
      rw [e4]
      show gXPY _ s (ts.map encT) q.1 (plc ts q.2) q.2.deep (xs.map xE)
      have lm:(xs.map xE).length=xs.length:=List.length_map ..
      rw [gXPY_vc]
      refine ⟨(),⟨trivial, .refl _,rfl⟩,rfl,(),⟨trivial, .refl _,rfl⟩,rfl,rfl,(),⟨trivial, .refl _,rfl⟩,rfl,rfl,rfl,inR_i64 (by omega) (by omega),?_,?_,?_,?_,?_,?_,?_, .rfl⟩
      · rw [decide_eq_true ⟨Int.le_refl _,by show (0:Int)≤(q.1:Int)+1; omega,by show (q.1:Int)+1≤_; omega⟩]; rfl
      · show 0+((q.1:Int)+1-0).toNat≤_; omega
      · show 0+((q.1:Int)+1-0).toNat≤_; omega
      · show 0+((q.1:Int)+1-0).toNat≤_; omega
      · omega
      · omega
      · rw [List.drop_zero,show Int.toNat (Option.getD (some ((q.1:Int)+1)) ((xs.map xE).length:Int)-0)=((q.1:Int)+1).toNat from by show ((q.1:Int)+1-0).toNat=_; omega]; exact .refl _
    · have hp:parOf r = .bad 15 (headT r.ts).at_:=by unfold parOf; rw [e1]; exact if_neg hk
      rw [hp]
      have hi:isR 11 q.2=false:=by rw [isR_none hqb,hqt]; exact decide_eq_false hk
      have hF:=x_failNest hqI hqb
      have hfb:=fail_none hqb 15
      have hbE:badE (failR 15 q.2)=15:=by unfold badE; rw [hfb]
      have hbP:badP (failR 15 q.2)=(headT r.ts).at_:=by unfold badP; rw [hfb,hqt]
      rw [hbE,hbP] at hF
      refine ⟨xpFn ((hb1.add (con1 (x_isNest hqI hqb hi))).add (con1 hF)) (.inr rfl) (os:=(Orc.f (Orc.t (Orc.t (Orc.t (Orc.t (Orc.t Orc.z))))))) (fz:=0) (show gXPN _ s (ts.map encT) q.1 (plc ts q.2) q.2.deep (q.2.out.map xE) 15 (headT r.ts).at_ from ?_),by decide⟩
      rw [gXPN_vc]
      exact ⟨(),⟨trivial, .refl _,rfl⟩,rfl,(),⟨trivial, .refl _,rfl⟩,rfl,rfl,(),⟨trivial, .refl _,rfl⟩,rfl,rfl,(),⟨trivial, .refl _,rfl⟩,rfl, .tup (.cons (.agg (.cons .nilS .nil)) (.refl _)), .rfl⟩
end
end Go.Proofs.YtpofhijgccocpaaGreatDoor
end
section
namespace Go.Proofs.YtpofhijgccocpaaGreatDoor
open Go Go.AS Go.TP
theorem gSN0_vc (ns:List AV)(p k:Int)(a m:Int)(t:ByteArray):gSN0 (Orc.f (Orc.f (Orc.f (Orc.f (Orc.f (Orc.f (Orc.f (Orc.f (Orc.f (Orc.f (Orc.f (Orc.f (Orc.f (Orc.f (Orc.f (Orc.f (Orc.f (Orc.f (Orc.f (Orc.f (Orc.f (Orc.f (Orc.f (Orc.f Orc.z)))))))))))))))))))))))) ns p k a m t=((decide ((0:Int)≤p∧p<(↑(List.length ns):Int))&&(true&&(isShp (Cx.B (cxV (WX.askAt (WX.ask XB [fSameN]) fSameN [12,13,65,66]) 12 fSameN)) shN 33 (List.getD ns (Int.toNat p) (AV.lit (Value.tuple { toList:=[] })))&&(true||false))))=true∧(k != intA (nthA 0 (List.getD ns (Int.toNat p) (AV.lit (Value.tuple { toList:=[] })))))=false∧Nf4 ((a != intA (nthA 1 (List.getD ns (Int.toNat p) (AV.lit (Value.tuple { toList:=[] })))))=false∧Nf4 ((m != intA (nthA 2 (List.getD ns (Int.toNat p) (AV.lit (Value.tuple { toList:=[] })))))=false∧Nf4 ((!ByteArray.toList t==ByteArray.toList (strA (nthA 3 (List.getD ns (Int.toNat p) (AV.lit (Value.tuple { toList:=[] }))))))=false∧Nf4 (Nf (Nf (((0:Int) != (↑(List.length (elsA (nthA 4 (List.getD ns (Int.toNat p) (AV.lit (Value.tuple { toList:=[] })))))):Int))=false∧decide ((0:Int)<(↑(List.length (elsA (nthA 4 (List.getD ns (Int.toNat p) (AV.lit (Value.tuple { toList:=[] })))))):Int))=false∧Wk (b0 true) (b0 true)∧SameH (hpL []) (hpL [])))))))):=by kernel_rfl
theorem gSN1_vc (ns:List AV)(p k:Int)(a m:Int)(t:ByteArray)(k1 a1 m1:Int)(t1:ByteArray)(v1:List AV)(b:Int):gSN1 (Orc.f (Orc.f (Orc.f (Orc.f (Orc.f (Orc.f (Orc.f (Orc.f (Orc.f (Orc.f (Orc.f (Orc.f (Orc.f (Orc.f (Orc.f (Orc.f (Orc.f (Orc.f (Orc.f (Orc.f (Orc.f (Orc.f (Orc.f (Orc.t (Orc.f (Orc.f Orc.z)))))))))))))))))))))))))) ns p k a m t k1 a1 m1 t1 v1 b=(let z1:=(Cx.B (cxV (WX.askAt (WX.ask (XSN ns [(nV k1 a1 m1 t1 v1,b)]) [fSameN]) fSameN [12,13,65,66]) 12 fSameN)); let z2:=AV.agg [i0 k1,i0 a1,i0 m1,s0 t1,AV.lst false 5 v1]; (decide ((0:Int)≤p∧p<(↑(List.length ns):Int))&&(Nat.beq 5 5&&(isShp z1 shN 33 (List.getD ns (Int.toNat p) (AV.lit (Value.tuple { toList:=[] })))&&(true||false))))=true∧(k != intA (nthA 0 (List.getD ns (Int.toNat p) (AV.lit (Value.tuple { toList:=[] })))))=false∧Nf4 ((a != intA (nthA 1 (List.getD ns (Int.toNat p) (AV.lit (Value.tuple { toList:=[] })))))=false∧Nf4 ((m != intA (nthA 2 (List.getD ns (Int.toNat p) (AV.lit (Value.tuple { toList:=[] })))))=false∧Nf4 ((!ByteArray.toList t==ByteArray.toList (strA (nthA 3 (List.getD ns (Int.toNat p) (AV.lit (Value.tuple { toList:=[] }))))))=false∧Nf4 (Nf (Nf (((↑(List.length [z2]):Int) != (↑(List.length (elsA (nthA 4 (List.getD ns (Int.toNat p) (AV.lit (Value.tuple { toList:=[] })))))):Int))=false∧decide ((0:Int)<(↑(List.length (elsA (nthA 4 (List.getD ns (Int.toNat p) (AV.lit (Value.tuple { toList:=[] })))))):Int))=true∧(decide ((0:Int)≤(0:Int)∧(0:Int)<(↑(List.length (elsA (nthA 4 (List.getD ns (Int.toNat p) (AV.lit (Value.tuple { toList:=[] })))))):Int))&&(Nat.beq 1 1&&(isShp z1 shN 3 (List.getD (elsA (nthA 4 (List.getD ns (Int.toNat p) (AV.lit (Value.tuple { toList:=[] }))))) 0 (AV.lit (Value.tuple { toList:=[] })))&&(false||true))))=true∧∃ (_:Unit),(True∧Wks [z2,AV.agg [AV.lst false 5 ns],i0 (intA (List.getD (elsA (nthA 4 (List.getD ns (Int.toNat p) (AV.lit (Value.tuple { toList:=[] }))))) 0 (AV.lit (Value.tuple { toList:=[] }))))] [z2,AV.agg [AV.lst false 5 ns],i0 b]∧hpL []=hpL [])∧Nf (Yt (decide ((1:Int)<(↑(List.length (elsA (nthA 4 (List.getD ns (Int.toNat p) (AV.lit (Value.tuple { toList:=[] })))))):Int))=false∧Wk (b0 true) (b0 true)∧SameH (hpL []) (hpL [])))))))))):=by kernel_rfl
theorem gSN2_vc (ns:List AV)(p k:Int)(a m:Int)(t:ByteArray)(k1 a1 m1:Int)(t1:ByteArray)(v1:List AV)(k2 a2 m2:Int)(t2:ByteArray)(v2:List AV)(b c:Int):gSN2 (Orc.f (Orc.f (Orc.f (Orc.f (Orc.f (Orc.f (Orc.f (Orc.f (Orc.f (Orc.f (Orc.f (Orc.f (Orc.f (Orc.f (Orc.f (Orc.f (Orc.f (Orc.f (Orc.f (Orc.f (Orc.f (Orc.f (Orc.f (Orc.t (Orc.alt 0 (Orc.f (Orc.t (Orc.alt 1 (Orc.f (Orc.f Orc.z)))))))))))))))))))))))))))))) ns p k a m t k1 a1 m1 t1 v1 k2 a2 m2 t2 v2 b c=(let z1:=(Cx.B (cxV (WX.askAt (WX.ask (XSN ns [(nV k1 a1 m1 t1 v1,b),(nV k2 a2 m2 t2 v2,c)]) [fSameN]) fSameN [12,13,65,66]) 12 fSameN)); let z2:=AV.agg [i0 k1,i0 a1,i0 m1,s0 t1,AV.lst false 5 v1]; let z3:=AV.agg [i0 k2,i0 a2,i0 m2,s0 t2,AV.lst false 5 v2]; let z4:=AV.agg [AV.lst false 5 ns]; (decide ((0:Int)≤p∧p<(↑(List.length ns):Int))&&(Nat.beq 5 5&&(isShp z1 shN 33 (List.getD ns (Int.toNat p) (AV.lit (Value.tuple { toList:=[] })))&&(true||false))))=true∧(k != intA (nthA 0 (List.getD ns (Int.toNat p) (AV.lit (Value.tuple { toList:=[] })))))=false∧Nf4 ((a != intA (nthA 1 (List.getD ns (Int.toNat p) (AV.lit (Value.tuple { toList:=[] })))))=false∧Nf4 ((m != intA (nthA 2 (List.getD ns (Int.toNat p) (AV.lit (Value.tuple { toList:=[] })))))=false∧Nf4 ((!ByteArray.toList t==ByteArray.toList (strA (nthA 3 (List.getD ns (Int.toNat p) (AV.lit (Value.tuple { toList:=[] }))))))=false∧Nf4 (Nf (Nf (((↑(List.length [z2,z3]):Int) != (↑(List.length (elsA (nthA 4 (List.getD ns (Int.toNat p) (AV.lit (Value.tuple { toList:=[] })))))):Int))=false∧decide ((0:Int)<(↑(List.length (elsA (nthA 4 (List.getD ns (Int.toNat p) (AV.lit (Value.tuple { toList:=[] })))))):Int))=true∧(decide ((0:Int)≤(0:Int)∧(0:Int)<(↑(List.length (elsA (nthA 4 (List.getD ns (Int.toNat p) (AV.lit (Value.tuple { toList:=[] })))))):Int))&&(Nat.beq 1 1&&(isShp z1 shN 3 (List.getD (elsA (nthA 4 (List.getD ns (Int.toNat p) (AV.lit (Value.tuple { toList:=[] }))))) 0 (AV.lit (Value.tuple { toList:=[] })))&&(false||true))))=true∧∃ (_:Unit),(True∧Wks [z2,z4,i0 (intA (List.getD (elsA (nthA 4 (List.getD ns (Int.toNat p) (AV.lit (Value.tuple { toList:=[] }))))) 0 (AV.lit (Value.tuple { toList:=[] }))))] [z2,z4,i0 b]∧hpL []=hpL [])∧Nf (Yt (decide ((1:Int)<(↑(List.length (elsA (nthA 4 (List.getD ns (Int.toNat p) (AV.lit (Value.tuple { toList:=[] })))))):Int))=true∧(decide ((0:Int)≤(1:Int)∧(1:Int)<(↑(List.length (elsA (nthA 4 (List.getD ns (Int.toNat p) (AV.lit (Value.tuple { toList:=[] })))))):Int))&&(Nat.beq 1 1&&(isShp z1 shN 3 (List.getD (elsA (nthA 4 (List.getD ns (Int.toNat p) (AV.lit (Value.tuple { toList:=[] }))))) 1 (AV.lit (Value.tuple { toList:=[] })))&&(false||true))))=true∧∃ (_:Unit),(True∧Wks [z3,z4,i0 (intA (List.getD (elsA (nthA 4 (List.getD ns (Int.toNat p) (AV.lit (Value.tuple { toList:=[] }))))) 1 (AV.lit (Value.tuple { toList:=[] }))))] [z3,z4,i0 c]∧hpL []=hpL [])∧Nf (Yt (decide ((2:Int)<(↑(List.length (elsA (nthA 4 (List.getD ns (Int.toNat p) (AV.lit (Value.tuple { toList:=[] })))))):Int))=false∧Wk (b0 true) (b0 true)∧SameH (hpL []) (hpL [])))))))))))):=by kernel_rfl
end Go.Proofs.YtpofhijgccocpaaGreatDoor
end
section
namespace Go.Proofs.YtpofhijgccocpaaGreatDoor
open Go.AS Go.TP
noncomputable section
theorem nodeAt {l:List RN}{p:Nat}{n:Nd}(h:Rep l p n):(l.map xE).getD (p:Int).toNat (AV.lit (Value.tuple ⟨[]⟩))=rgV n.kind n.at_ n.num n.text ((ndR l p).kids.map fun j:Nat=>i0 (j:Int))∧(p:Int)<((l.map xE).length:Int):=by
 obtain ⟨h1,h2,h3,h4,h5,_⟩:=h.inv
 rw [List.length_map,Int.toNat_natCast,List.getD_eq_getElem?_getD,List.getElem?_map]
 unfold ndR at h2 h3 h4 h5 ⊢
 rw [List.getD_eq_getElem?_getD] at h2 h3 h4 h5 ⊢
 rw [List.getElem?_eq_getElem h1] at h2 h3 h4 h5 ⊢
 refine ⟨?_,by omega⟩
 rw [←h2,←h3,←h4,←h5]; rfl
theorem shpSN (k a m:Int)(t:ByteArray)(vs:List AV):isShp (Cx.B (cxV XB 12 fSameN)) shN 33 (rgV k a m t vs)=true:=by kernel_rfl
theorem shpSI (b:Int):isShp (Cx.B (cxV XB 12 fSameN)) shN 3 (i0 b)=true:=by kernel_rfl
theorem strNe (t:ByteArray):(!(t.toList==t.toList))=false:=by simp
attribute [local irreducible] runF in
set_option maxRecDepth 100000 in
theorem snFn {X:WX}(hX:X.Sound)(hp:X.px=X0){os:Orc}{n:AV}{ns:List AV}{p:Int}(g:gSN X os n ns p):F fSameN [n,treeV ns,i0 p] (b0 true):=by
 have hP:X.px.P=Tryz.prog:=by rw [hp]; rfl
 have hg:X.px.gl=gl0:=by rw [hp]; rfl
 have:=fn_ok (X:=(X.ask [fSameN]).askAt fSameN [12,13,65,66]) (d:=12) ((hX.ask _).askAt _ _) (f:=fSameN) (fn:=fn fSameN) (code:=code fSameN) (by show X.px.P.funcs[fSameN]?=_; rw [hP]; exact fnOk fSameN (by kernel_rfl)) (show (fn fSameN).body=some (code fSameN) by kernel_rfl) (by kernel_rfl) g
 show FOk Tryz.prog gl0 fSameN _ _ _
 rw [←hg,←hP]; exact this
theorem snC {ns:List AV}{ks:List (AV × Int)}(h:∀ q∈ks,F fSameN [q.1,treeV ns,i0 q.2] (b0 true)):(XSN ns ks).Sound :=
 XB_ok.add (Sp.ok fun s hs i _=>by
  rw [List.mem_map] at hs
  obtain ⟨q,hq,rfl⟩:=hs
  exact h q hq)
theorem shortK {n:Nd}(h:rightS n=true):n.kids.length≤2:=by
 obtain ⟨k,a,m,t,ks⟩:=n
 have e:=shape_kids (right_inv.1 h).1
 show ks.length≤2
 unfold kidsN at e
 split at e
 · omega
 · split at e
   · omega
   · split at e
     · omega
     · split at e
       · split at e <;> omega
       · omega
attribute [local irreducible] runF in
set_option maxRecDepth 100000 in
theorem sameN_ok {l:List RN}(n:Nd):rightS n=true→∀ p,Rep l p n→F fSameN [encP n,treeV (l.map xE),i0 (p:Int)] (b0 true):=by
 refine Nd.rec (motive_1:=fun n=>rightS n=true→∀ p,Rep l p n→F fSameN [encP n,treeV (l.map xE),i0 (p:Int)] (b0 true))
  (motive_2:=fun ks=>∀ x∈ks,rightS x=true→∀ p,Rep l p x→F fSameN [encP x,treeV (l.map xE),i0 (p:Int)] (b0 true)) ?_ (fun x hx=>by cases hx) (fun x r h1 h2 y hy => ?_) n
 · intro k a m t ks ih hr p hR
   obtain ⟨e1,e2⟩:=nodeAt hR
   obtain ⟨_,_,_,_,_,hkl,hlt,hk⟩:=hR.inv
   have hks:=shortK hr
   have hkr:=(right_inv.1 hr).2
   have hlen:(ndR l p).kids.length=ks.length:=hkl
   have c1:∀ B:Tb,B=Cx.B (cxV XB 12 fSameN)→(decide ((0:Int)≤p∧(p:Int)<((l.map xE).length:Int))&&(true&&(isShp B shN 33 ((l.map xE).getD (p:Int).toNat (AV.lit (Value.tuple ⟨[]⟩)))&&(true||false))))=true:=by
     intro B hB; subst hB
     rw [e1,shpSN,decide_eq_true ⟨by omega,e2⟩]; rfl
   generalize hkk:(ndR l p).kids=kk at e1 hlen hlt hk
   match ks,kk,hlen,hks with
   | [],[],_,_ =>
     refine snFn XB_ok rfl (os:=(Orc.f (Orc.f (Orc.f (Orc.f (Orc.f (Orc.f (Orc.f (Orc.f (Orc.f (Orc.f (Orc.f (Orc.f (Orc.f (Orc.f (Orc.f (Orc.f (Orc.f (Orc.f (Orc.f (Orc.f (Orc.f (Orc.f (Orc.f (Orc.f Orc.z))))))))))))))))))))))))) (show gSN0 _ (l.map xE) p k a m t from (gSN0_vc (l.map xE) p k a m t).mpr ⟨c1 _ rfl,?_⟩)
     rw [e1]
     exact ⟨bne_self_eq_false _,rfl,rfl,rfl,rfl,bne_self_eq_false _,rfl,rfl,rfl,rfl,bne_self_eq_false _,rfl,rfl,rfl,rfl,strNe t,rfl,rfl,rfl,rfl,rfl,rfl,rfl,rfl, .refl _, .rfl⟩
   | [x],[b],_,_ =>
     obtain ⟨k1,a1,m1,t1,ks1⟩:=x
     have hx:=ih _ (List.mem_cons_self ..) (hkr _ (List.mem_cons_self ..)) b (hk 0 b _ rfl rfl)
     refine snFn (snC (ks:=[(nV k1 a1 m1 t1 (encL ks1),(b:Int))]) fun q hq=>by rw [List.mem_singleton] at hq; subst hq; exact hx) rfl (os:=(Orc.f (Orc.f (Orc.f (Orc.f (Orc.f (Orc.f (Orc.f (Orc.f (Orc.f (Orc.f (Orc.f (Orc.f (Orc.f (Orc.f (Orc.f (Orc.f (Orc.f (Orc.f (Orc.f (Orc.f (Orc.f (Orc.f (Orc.f (Orc.t (Orc.f (Orc.f Orc.z))))))))))))))))))))))))))) (show gSN1 _ (l.map xE) p k a m t k1 a1 m1 t1 (encL ks1) b from (gSN1_vc (l.map xE) p k a m t k1 a1 m1 t1 (encL ks1) b).mpr ⟨c1 _ rfl,?_⟩)
     rw [e1]
     refine ⟨bne_self_eq_false _,rfl,rfl,rfl,rfl,bne_self_eq_false _,rfl,rfl,rfl,rfl,bne_self_eq_false _,rfl,rfl,rfl,rfl,strNe t,rfl,rfl,rfl,rfl,rfl,rfl,rfl,rfl,?_,(),⟨trivial, .refl _,rfl⟩,rfl,rfl,rfl, .refl _, .rfl⟩
     show (true&&(true&&(isShp (Cx.B (cxV XB 12 fSameN)) shN 3 (i0 (b:Int))&&true)))=true
     rw [shpSI]; rfl
   | [x,y],[b,c],_,_ =>
     obtain ⟨k1,a1,m1,t1,ks1⟩:=x
     obtain ⟨k2,a2,m2,t2,ks2⟩:=y
     have hx:=ih _ (List.mem_cons_self ..) (hkr _ (List.mem_cons_self ..)) b (hk 0 b _ rfl rfl)
     have hy:=ih _ (List.mem_cons_of_mem _ (List.mem_cons_self ..)) (hkr _ (List.mem_cons_of_mem _ (List.mem_cons_self ..))) c (hk 1 c _ rfl rfl)
     refine snFn (snC (ks:=[(nV k1 a1 m1 t1 (encL ks1),(b:Int)),(nV k2 a2 m2 t2 (encL ks2),(c:Int))]) fun q hq=>by
       rcases List.mem_cons.1 hq with rfl | hq
       · exact hx
       · rw [List.mem_singleton] at hq; subst hq; exact hy) rfl (os:=(Orc.f (Orc.f (Orc.f (Orc.f (Orc.f (Orc.f (Orc.f (Orc.f (Orc.f (Orc.f (Orc.f (Orc.f (Orc.f (Orc.f (Orc.f (Orc.f (Orc.f (Orc.f (Orc.f (Orc.f (Orc.f (Orc.f (Orc.f (Orc.t (Orc.alt 0 (Orc.f (Orc.t (Orc.alt 1 (Orc.f (Orc.f Orc.z))))))))))))))))))))))))))))))) (show gSN2 _ (l.map xE) p k a m t k1 a1 m1 t1 (encL ks1) k2 a2 m2 t2 (encL ks2) b c from (gSN2_vc (l.map xE) p k a m t k1 a1 m1 t1 (encL ks1) k2 a2 m2 t2 (encL ks2) b c).mpr ⟨c1 _ rfl,?_⟩)
     rw [e1]
     refine ⟨bne_self_eq_false _,rfl,rfl,rfl,rfl,bne_self_eq_false _,rfl,rfl,rfl,rfl,bne_self_eq_false _,rfl,rfl,rfl,rfl,strNe t,rfl,rfl,rfl,rfl,rfl,rfl,rfl,rfl,?_,(),⟨trivial, .refl _,rfl⟩,rfl,rfl,rfl,?_,(),⟨trivial, .refl _,rfl⟩,rfl,rfl,rfl, .refl _, .rfl⟩
     · show (true&&(true&&(isShp (Cx.B (cxV XB 12 fSameN)) shN 3 (i0 (b:Int))&&true)))=true
       rw [shpSI]; rfl
     · show (true&&(true&&(isShp (Cx.B (cxV XB 12 fSameN)) shN 3 (i0 (c:Int))&&true)))=true
       rw [shpSI]; rfl
 · rcases List.mem_cons.1 hy with rfl | hy
   · exact h1
   · exact h2 y hy
end
end Go.Proofs.YtpofhijgccocpaaGreatDoor
end
section
namespace Go.Proofs.YtpofhijgccocpaaGreatDoor
open Go.AS Go.TP
noncomputable section
theorem known18:FE fKnown18 [] (b0 true):=FE_of (n:=1000) (by kernel_rfl)
end
end Go.Proofs.YtpofhijgccocpaaGreatDoor
end
section
namespace Go.Proofs.YtpofhijgccocpaaGreatDoor
open Go.AS Go.TP Go.RowKit Go.Sort
noncomputable section
end
end Go.Proofs.YtpofhijgccocpaaGreatDoor
end
section
namespace Go.Proofs.YtpofhijgccocpaaGreatDoor
open Go.AS Go.TP
noncomputable section
abbrev tErr:Nat:=47
abbrev tErrStr:Nat:=223
abbrev tPowA:Nat:=197
abbrev tU64:Nat:=190
abbrev tInt:Nat:=3
abbrev tInts:Nat:=22
noncomputable def errMs:Array (String × TypeId):=match Tryz.prog.underlying tErr with | some (.interface ms)=>ms | _ => #[]
noncomputable def errF:Field:=match Tryz.prog.underlying tErrStr with | some (.struct fs)=>fs.getD 0 default | _=>default
theorem u_err:Tryz.prog.underlying tErr=some (.interface errMs):=by kernel_rfl
theorem u_errP:Tryz.prog.underlying tErrStrP=some (.pointer tErrStr):=by kernel_rfl
theorem u_errS:Tryz.prog.underlying tErrStr=some (.struct #[errF]):=by kernel_rfl
theorem u_errF:Tryz.prog.underlying errF.type=some .string:=by kernel_rfl
theorem o_errF:errF.offset=0:=by kernel_rfl
theorem c_errS:Tryz.prog.cellsOf tErrStr=1:=by kernel_rfl
theorem c_errF:Tryz.prog.cellsOf errF.type=1:=by kernel_rfl
theorem u_pow:Tryz.prog.underlying tPowA=some (.array 20 tU64):=by kernel_rfl
theorem u_u64:Tryz.prog.underlying tU64=some (.int .u64):=by kernel_rfl
theorem c_u64:Tryz.prog.cellsOf tU64=1:=by kernel_rfl
theorem c_pow:Tryz.prog.cellsOf tPowA=20:=by kernel_rfl
theorem u_ints:Tryz.prog.underlying tInts=some (.slice tInt):=by kernel_rfl
theorem u_int:Tryz.prog.underlying tInt=some (.int .i64):=by kernel_rfl
theorem c_int:Tryz.prog.cellsOf tInt=1:=by kernel_rfl
theorem only_errP:((List.range Tryz.prog.types.size).all fun u=>!(decide (Tryz.prog.typeName? 3 u=some "*errors.errorString"))||Nat.beq u tErrStrP)=true:=by kernel_rfl
theorem no_errS:(Tryz.prog.types.toList.all fun i=>!(decide (i.str = "errors.errorString"))||match i.desc with | .bool | .int _ | .float _ | .string=>false | _=>true)=true:=by kernel_rfl
theorem name_errP (u:TypeId)(h:Tryz.prog.typeName? 3 u=some "*errors.errorString"):u=tErrStrP:=errP_only only_errP no_errS u h
abbrev dErr (bs:List UInt8):DataW Unit := .iface "*errors.errorString" (.ptr (.agg [.lit (.string bs)]))
theorem gl0_of {l:List (String × DataW Unit)}{W:World}(h:laidMet Tryz.prog l W)(m1:("strconv.ErrSyntax",dErr eSyn.data.toList)∈l)(m2:("strconv.ErrRange",dErr eRan.data.toList)∈l)
  (m3:("internal/strconv.uint64pow10",(Lib.tabData .u64 powL:DataW Unit))∈l)(g:Nat)(x:AV)(hx:gl0 g=some x):GV ⟨fun _=>none,fun b=>W.heap[b]?⟩ x g:=by
 have hx:bsel (Nat.beq g gSyntax) (some (.ref (errStr eSyn))) (bsel (Nat.beq g gRange) (some (.ref (errStr eRan))) (bsel (Nat.beq g gPow) (some powA) none))=some x:=hx
 cases hb:Nat.beq g gSyntax
 · rw [hb,bsel_false] at hx
   cases hb2:Nat.beq g gRange
   · rw [hb2,bsel_false] at hx
     cases hb3:Nat.beq g gPow
     · rw [hb3,bsel_false] at hx; cases hx
     · rw [hb3,bsel_true] at hx; cases hx
       obtain rfl:=Nat.eq_of_beq_eq_true hb3
       exact tab_var h m3 (t:=tPowA) (by kernel_rfl) (by kernel_rfl) u_pow u_u64 c_u64 c_pow
   · rw [hb2,bsel_true] at hx; cases hx
     obtain rfl:=Nat.eq_of_beq_eq_true hb2
     exact err_var h m2 (t:=tErr) (by kernel_rfl) (by kernel_rfl) u_err name_errP u_errP u_errS o_errF u_errF c_errS c_errF
 · rw [hb,bsel_true] at hx; cases hx
   obtain rfl:=Nat.eq_of_beq_eq_true hb
   exact err_var h m1 (t:=tErr) (by kernel_rfl) (by kernel_rfl) u_err name_errP u_errP u_errS o_errF u_errF c_errS c_errF
theorem read_xs {H:Type}{enc:TypeId × Value→H}{W:World}{spare:Nat→Bool}{held:Bool}{n:Nat}{v:Value}{d:DataW H}{p:List MemPlace}(h:DataW.trod enc Tryz.prog W 0 spare held n tInts [v]=some (d,p)) :
  ∃ xs:List Int,VR ⟨fun _=>none,fun b=>W.heap[b]?⟩ (.lst false 1 (xs.map i0)) v∧∀ x∈xs,-9223372036854775808≤x∧x<9223372036854775808:=by
 obtain ⟨xs,h1,h2⟩:=read_ints u_ints u_int c_int h
 refine ⟨xs,h1,fun x hx => ?_⟩
 have e1:IntKind.min .i64 = -9223372036854775808:=rfl
 have e2:IntKind.max .i64=9223372036854775807:=rfl
 have:=h2 x hx
 omega
end
end Go.Proofs.YtpofhijgccocpaaGreatDoor
end
section
namespace Go.Proofs.YtpofhijgccocpaaGreatDoor
open Go.AS Go.TP
noncomputable section
theorem sound0E:X0E.Sound:=by
 refine ⟨sound0.1,fun g x h => ?_,fun f g h => ?_⟩
 · exact soundE.2 g x h
 · have h:bsel (Nat.beq f fIndexB3) (some (pureX Tryz.prog Extern.BytealgIndexByte.indexByte)) none=some g:=h
   cases hb:Nat.beq f fIndexB3
   · rw [hb,bsel_false] at h; cases h
   · rw [hb,bsel_true] at h; cases h
     obtain rfl:=Nat.eq_of_beq_eq_true hb
     exact pureX_ok (C:=cx X0E fIndexB3 fun _ _ _ _ _=>none) isExtB
theorem XBE_ok:XBE.Sound := .base sound0E
theorem BlkOk.glob {P:Program}{gl gl':Nat→Option AV}{n:Nat}{x:Code}{ins:List Nat}{outs:Ex→List Nat}{ys:List AV}{σ:Hp}{K:Orc→Ex × Back→Prop}(hg:∀ g x,gl g=some x→gl' g=some x)(h:BlkOk P gl n x ins outs ys σ K):BlkOk P gl' n x ins outs ys σ K :=
 fun E w a hG hh hf hv=>h E w a (fun g x hx=>hG g x (hg g x hx)) hh hf hv
theorem conE {f:Nat}{xs:List AV}{r:AV}(h:FE f xs r):ConOk Tryz.prog glE f (Sp.con [spQ xs r]):=Sp.one (s:=spQ xs r) fun _ _=>h
theorem toE {f:Nat}{xs:List AV}{r:AV}(h:F f xs r):FE f xs r:=FOk.glob glE_of h
set_option maxRecDepth 100000 in
theorem top_ok (ns:List AV)(h:ns.length≤1000000):F fTop [treeV ns] (i0 ((ns.length:Int)-1)) :=
 F_ok XB_ok rfl (by kernel_rfl) (by kernel_rfl) (by kernel_rfl) (show gTop (Orc.z) ns from by rw [gTop_vc]; exact ⟨inR_i64 (by omega) (by omega), .refl _, .rfl⟩)
def nxtD (v:Int)(s e:ByteArray):ByteArray × ByteArray :=
 if v=0 then (s++⟨⟨[40]⟩⟩,⟨⟨[41]⟩⟩++e) else if v=1 then (s++⟨⟨[33]⟩⟩,e) else if v=2 then (s++⟨⟨[104,101,97,100,115,40]⟩⟩,⟨⟨[41]⟩⟩++e)
 else if v=3 then (s++⟨⟨[58,58,40]⟩⟩,⟨⟨[41]⟩⟩++e) else (s++⟨⟨[97,98,43,40]⟩⟩,⟨⟨[41]⟩⟩++e)
theorem nxtD_size (v:Int)(s e:ByteArray):(nxtD v s e).1.size≤s.size+6∧(nxtD v s e).2.size≤e.size+1:=by
 unfold nxtD
 split
 · exact ⟨by rw [ByteArray.size_append]; show s.size+1≤_; omega,by rw [ByteArray.size_append]; show 1+e.size≤_; omega⟩
 · split
   · exact ⟨by rw [ByteArray.size_append]; show s.size+1≤_; omega,Nat.le_succ _⟩
   · split
     · exact ⟨by rw [ByteArray.size_append]; show s.size+6≤_; omega,by rw [ByteArray.size_append]; show 1+e.size≤_; omega⟩
     · split
       · exact ⟨by rw [ByteArray.size_append]; show s.size+3≤_; omega,by rw [ByteArray.size_append]; show 1+e.size≤_; omega⟩
       · exact ⟨by rw [ByteArray.size_append]; show s.size+4≤_; omega,by rw [ByteArray.size_append]; show 1+e.size≤_; omega⟩
theorem shpD (n:Int):isShp (Cx.B (cxV XDp 10 fDeep)) shN 3 (i0 n)=true:=by kernel_rfl
theorem rDA_ok {P:ByteArray→ByteArray→Prop}{xs:List Int}{c:Bool}{s e s' e':ByteArray}{i:Int}(h0:0≤i)(h:i<xs.length)(h40:i<40)(hs:s.size≤1000)(he:e.size≤1000)(hP:P (nxtD (xs.getD i.toNat 0 % 5) s e).1 (nxtD (xs.getD i.toNat 0 % 5) s e).2) :
  rDA orDA P (xs.map i0) c s e i s' e':=by
 have hx:(xs.map i0).getD i.toNat (AV.lit (Value.tuple ⟨[]⟩))=i0 (xs.getD i.toNat 0):=by
  have:i.toNat<xs.length:=by omega
  rw [List.getD_eq_getElem?_getD,List.getD_eq_getElem?_getD,List.getElem?_map,List.getElem?_eq_getElem this]; rfl
 rw [rDA_vc,hx,List.length_map]
 have hr:inR .i64 (i+1)=true:=inR_i64 (by omega) (by omega)
 generalize xs.getD i.toNat 0=x at hP
 unfold nxtD at hP
 refine ⟨decide_eq_true h,rfl,decide_eq_true h40,?_,(x,5),⟨⟨show (0:Int)<5 by decide,show (5:Int)≤1000000 by decide⟩, .refl _,rfl⟩,fun g => ?_,fun n0=>⟨fun g => ?_,fun n1=>⟨fun g => ?_,fun n2=>⟨fun g => ?_,fun n3 => ?_⟩⟩⟩⟩
 · rw [decide_eq_true ⟨h0,h⟩,shpD]; rfl
 · rw [if_pos (beq_iff_eq.1 g)] at hP
   exact ⟨decide_eq_true (by omega),decide_eq_true (by omega),hr,(_,_),⟨hP, .refl _,rfl⟩,rfl, .refl _, .rfl⟩
 · rw [if_neg (beq_eq_false_iff_ne.1 n0),if_pos (beq_iff_eq.1 g)] at hP
   exact ⟨decide_eq_true (by omega),hr,(_,_),⟨hP, .refl _,rfl⟩,rfl, .refl _, .rfl⟩
 · rw [if_neg (beq_eq_false_iff_ne.1 n0),if_neg (beq_eq_false_iff_ne.1 n1),if_pos (beq_iff_eq.1 g)] at hP
   exact ⟨decide_eq_true (by omega),decide_eq_true (by omega),hr,(_,_),⟨hP, .refl _,rfl⟩,rfl, .refl _, .rfl⟩
 · rw [if_neg (beq_eq_false_iff_ne.1 n0),if_neg (beq_eq_false_iff_ne.1 n1),if_neg (beq_eq_false_iff_ne.1 n2),if_pos (beq_iff_eq.1 g)] at hP
   exact ⟨decide_eq_true (by omega),decide_eq_true (by omega),hr,(_,_),⟨hP, .refl _,rfl⟩,rfl, .refl _, .rfl⟩
 · rw [if_neg (beq_eq_false_iff_ne.1 n0),if_neg (beq_eq_false_iff_ne.1 n1),if_neg (beq_eq_false_iff_ne.1 n2),if_neg (beq_eq_false_iff_ne.1 n3)] at hP
   exact ⟨decide_eq_true (by omega),decide_eq_true (by omega),hr,(_,_),⟨hP, .refl _,rfl⟩,rfl, .refl _, .rfl⟩
abbrev BD (xs:List AV)(r:Ex × Back):Prop:=BlkOk Tryz.prog gl0 (fn fDeep).ntmps (loopAt (code fDeep) 0) [0,2,7,8,9] (fun _=>[2,7,8]) xs .nil fun _ q=>q=r
theorem XDp_ok:XDp.Sound:=((XB_ok.add (conOk1 (s:=spPick) fun i h=>pick_ok i.1 i.2 h.1 h.2)).ask _).askAt _ _
set_option maxRecDepth 100000 in
theorem dRound {os:Orc}{P:ByteArray→ByteArray→Prop}{xs:List AV}{c:Bool}{s e s' e':ByteArray}{i:Int}(ih:∀ a b,P a b→BD (dpA xs c a b (i+1)) (dpO c s' e'))(h:rD os P xs c s e i s' e'):BD (dpA xs c s e i) (dpO c s' e') :=
 lp_round (X:=XDp) XDp_ok (f:=fDeep) (fn:=fn fDeep) (code:=code fDeep) (fnOk fDeep (by kernel_rfl)) (show (fn fDeep).body=some (code fDeep) by kernel_rfl) (L:=lpD P xs c (i+1) (dpO c s' e')) (L':=lpD P xs c (i+1) (dpO c s' e')) (l:=[⟨ByteArray × ByteArray,fun q=>P q.1 q.2,fun q=>dpA xs c q.1 q.2 (i+1),fun _ => .nil,fun _=>dpO c s' e'⟩]) rfl (show ([0,2,7,8,9]:List Nat).Nodup by decide)
  (fun s' hs' q hq=>by obtain rfl:=List.mem_singleton.1 hs'; exact ih q.1 q.2 hq) h
attribute [local irreducible] runL in
set_option maxRecDepth 100000 in
theorem dL (xs:List Int)(c:Bool):∀ (f:Nat)(i:Int)(s e:ByteArray),0≤i→i≤40→40-i≤f→(s.size:Int)≤6*i→(e.size:Int)≤i→∃ s' e',s'.size≤240∧e'.size≤40∧BD (dpA (xs.map i0) c s e i) (dpO c s' e'):=by
 have fin:∀ (i:Int)(s e:ByteArray),¬(i<xs.length∧i<40)→BD (dpA (xs.map i0) c s e i) (dpO c s e):=by
  intro i s e h
  by_cases hl:i<xs.length
  · have h40:¬i<40:=fun q=>h ⟨hl,q⟩
    refine dRound (os:=(Orc.t (Orc.t (Orc.f Orc.z)))) (P:=fun _ _=>False) (fun _ _ q=>q.elim) (show rDF _ (fun _ _=>False) (xs.map i0) c s e i from ?_)
    rw [rDF_vc,List.length_map]; exact ⟨decide_eq_true hl,rfl,decide_eq_false h40,rfl, .refl _, .rfl⟩
  · refine dRound (os:=(Orc.f (Orc.f (Orc.f Orc.z)))) (P:=fun _ _=>False) (fun _ _ q=>q.elim) (show rDE _ (fun _ _=>False) (xs.map i0) c s e i from ?_)
    rw [rDE_vc,List.length_map]; exact ⟨decide_eq_false hl,rfl,rfl,rfl, .refl _, .rfl⟩
 intro f
 induction f with
 | zero=>intro i s e h0 h1 h2 hs he; exact ⟨s,e,by omega,by omega,fin i s e (by omega)⟩
 | succ f ih =>
  intro i s e h0 h1 h2 hs he
  by_cases h:i<xs.length∧i<40
  · obtain ⟨n1,n2⟩:=nxtD_size (xs.getD i.toNat 0 % 5) s e
    obtain ⟨s',e',g1,g2,hB⟩:=ih (i+1) (nxtD (xs.getD i.toNat 0 % 5) s e).1 (nxtD (xs.getD i.toNat 0 % 5) s e).2 (by omega) (by omega) (by omega) (by omega) (by omega)
    exact ⟨s',e',g1,g2,dRound (P:=fun a b=>a=(nxtD (xs.getD i.toNat 0 % 5) s e).1∧b=(nxtD (xs.getD i.toNat 0 % 5) s e).2) (fun a b q=>by rw [q.1,q.2]; exact hB) (rDA_ok h0 h.1 h.2 (by omega) (by omega) ⟨rfl,rfl⟩)⟩
  · exact ⟨s,e,by omega,by omega,fin i s e h⟩
def DeepGoal (xs:List AV)(nm:Int)(c:Bool):Prop:=∃ X os,X.Sound∧X.px=X0E∧lawW X 12 fDeep (fn fDeep) (code fDeep) os [.lst false 1 xs,i0 nm,b0 c]
theorem long_size {s:ByteArray}(h:parseS s = .long):600<s.size:=by
 unfold parseS at h
 by_cases hs:600<s.size
 · exact hs
 · unfold lexS at h
   rw [if_neg hs] at h
   generalize lexG s s.size 0 []=R at h
   obtain ⟨_ | j,us⟩:=R
   · change parOf _ = .long at h
     unfold parOf at h
     split at h
     · cases h
     · split at h <;> cases h
   · cases h
theorem parse_right {s:ByteArray}{n:Nd}(h:parseS s = .ok n):rightS n=true:=by
 have ho:=@lexS_ok s
 unfold parseS at h
 generalize lexS s=L at h ho
 cases L with
 | long=>cases h
 | bad i=>cases h
 | ok us =>
  have hk:=ho rfl
  have g:=PF_rt (5*us.length+5) .expr 0 us hk (Nat.le_refl _)
  change parOf (PF (5*us.length+5) .expr 0 us) = .ok n at h
  generalize PF (5*us.length+5) .expr 0 us=r at h g
  unfold parOf at h
  cases he:r.e with
  | some x=>obtain ⟨a,b⟩:=x; rw [he] at h; cases h
  | none =>
   rw [he] at h
   by_cases h11:(headT r.ts).kind=11
   · have h:(if (headT r.ts).kind=11 then ParR.ok r.n else .bad 15 (headT r.ts).at_) = .ok n:=h
     rw [if_pos h11] at h; cases h
     exact g he
   · have h:(if (headT r.ts).kind=11 then ParR.ok r.n else .bad 15 (headT r.ts).at_) = .ok n:=h
     rw [if_neg h11] at h; cases h
def tDeep (c:Bool)(s e:ByteArray):ByteArray:=match c with
 | true=>s++⟨⟨[97,98]⟩⟩++e
 | false=>s++⟨⟨[97,98]⟩⟩
theorem tDeep_size (c:Bool)(s e:ByteArray):(tDeep c s e).size≤s.size+2+e.size:=by
 cases c with
 | true=>show (s++(⟨⟨[97,98]⟩⟩:ByteArray)++e).size≤_; rw [ByteArray.size_append,ByteArray.size_append]; exact Nat.le_refl _
 | false=>show (s++(⟨⟨[97,98]⟩⟩:ByteArray)).size≤_; rw [ByteArray.size_append]; exact Nat.le_add_right _ _
attribute [local irreducible] runF runL lawW
set_option maxRecDepth 100000 in
theorem deep_goal (xs:List Int)(nm:Int)(c:Bool):DeepGoal (xs.map i0) nm c:=by
 obtain ⟨s,e,hs,he,hB⟩:=dL xs c 40 0 ByteArray.empty ByteArray.empty (Int.le_refl _) (by decide) (by decide) (by decide) (by decide)
 have hsz:=tDeep_size c s e
 have z1:decide (s.size+2≤9223372036854775807)=true:=decide_eq_true (by omega)
 have z2:decide ((s++(⟨⟨[97,98]⟩⟩:ByteArray)).size+e.size≤9223372036854775807)=true:=by
  rw [ByteArray.size_append]; exact decide_eq_true (by show s.size+2+e.size≤_; omega)
 have hX0:(XBE.addLp fDeep 0 (Lp1 [0,2,7,8,9] [] (fun _=>[2,7,8]) True (dpA (xs.map i0) c ByteArray.empty ByteArray.empty 0) .nil (dpO c s e))).Sound :=
  XBE_ok.addLp (fnOk fDeep (by kernel_rfl)) (show (fn fDeep).body=some (code fDeep) by kernel_rfl) (by kernel_rfl)
   (Spl.ok (l:=[⟨Unit,fun _=>True,fun _=>dpA (xs.map i0) c ByteArray.empty ByteArray.empty 0,fun _ => .nil,fun _=>dpO c s e⟩]) rfl (show ([0,2,7,8,9]:List Nat).Nodup by decide) fun s' hs' i _=>by
    obtain rfl:=List.mem_singleton.1 hs'
    exact BlkOk.glob glE_of hB)
 have hX:∀ {q r kd:AV}{k:Int},F fParse [s0 (tDeep c s e)] q→F fXParse [s0 (tDeep c s e)] r→FE fKind [kd] (i0 k)→(XLD (xs.map i0) c s e (tDeep c s e) q r kd k).Sound:=fun hq hr hk=>(((hX0.add (conE (toE hq))).add (conE (toE hr))).add (conE known18)).add (conE hk)
 have hp:=parse_ok (tDeep c s e)
 have hx:=xparse_ok (tDeep c s e)
 cases hq:parseS (tDeep c s e) with
 | long=>have:=long_size hq; omega
 | bad k a =>
  rw [hq] at hp hx
  obtain ⟨hx,hk⟩:=hx
  have hY:=(hX hp hx (kind_err k a)).add (conE (at_err k a))
  cases c with
  | true =>
   refine ⟨_,(Orc.t (Orc.t (Orc.t (Orc.t (Orc.t (Orc.t (Orc.t (Orc.t (Orc.f (Orc.f (Orc.f (Orc.f (Orc.f (Orc.t (Orc.t (Orc.f (Orc.f (Orc.f (Orc.t (Orc.t (Orc.t (Orc.t (Orc.f (Orc.t Orc.z)))))))))))))))))))))))),hY.ask [fDeep],rfl,show gDpB1 _ (xs.map i0) nm s e (tDeep true s e) k a from ?_⟩
   rw [gDpB1_vc]
   exact ⟨(),⟨trivial, .refl _,rfl⟩,z1,rfl,z2,(),⟨trivial, .refl _,rfl⟩,(),⟨trivial, .refl _,rfl⟩,(),⟨trivial, .refl _,rfl⟩,rfl,rfl,(),⟨trivial, .refl _,rfl⟩,rfl,rfl,beq_self_eq_true _,rfl,rfl,beq_eq_false_iff_ne.2 hk,rfl,rfl,rfl,rfl,rfl,rfl,rfl,rfl,rfl,bne_iff_ne.2 hk,rfl,(),⟨trivial, .refl _,rfl⟩,rfl,rfl,rfl,rfl,by rw [beq_self_eq_true]⟩
  | false =>
   refine ⟨_,(Orc.f (Orc.t (Orc.t (Orc.t (Orc.t (Orc.t (Orc.t (Orc.t (Orc.f (Orc.f (Orc.f (Orc.f (Orc.f (Orc.t (Orc.t (Orc.f (Orc.f (Orc.f (Orc.t (Orc.t (Orc.t (Orc.t (Orc.f (Orc.t Orc.z)))))))))))))))))))))))),hY.ask [fDeep],rfl,show gDpB0 _ (xs.map i0) nm s e (tDeep false s e) k a from ?_⟩
   rw [gDpB0_vc]
   exact ⟨(),⟨trivial, .refl _,rfl⟩,z1,rfl,(),⟨trivial, .refl _,rfl⟩,(),⟨trivial, .refl _,rfl⟩,(),⟨trivial, .refl _,rfl⟩,rfl,rfl,(),⟨trivial, .refl _,rfl⟩,rfl,rfl,beq_self_eq_true _,rfl,rfl,beq_eq_false_iff_ne.2 hk,rfl,rfl,rfl,rfl,rfl,rfl,rfl,rfl,rfl,bne_iff_ne.2 hk,rfl,(),⟨trivial, .refl _,rfl⟩,rfl,rfl,rfl,rfl,by rw [beq_self_eq_true]⟩
 | ok n =>
  rw [hq] at hp hx
  obtain ⟨l,p,hl,hle,hR,hx⟩:=hx
  have hsn:=sameN_ok n (parse_right hq) p hR
  have ht:=top_ok (l.map xE) (by rw [List.length_map]; exact hle)
  have ep:(p:Int)=((l.map xE).length:Int)-1:=by rw [List.length_map]; omega
  rw [ep] at hsn
  obtain ⟨k,a,m,w,ks⟩:=n
  have hY:=((hX hp hx kind_nil).add (conE (toE hsn))).add (conE (toE ht))
  cases c with
  | true =>
   refine ⟨_,(Orc.t (Orc.t (Orc.t (Orc.t (Orc.t (Orc.t (Orc.t (Orc.t (Orc.t (Orc.t (Orc.t (Orc.t (Orc.t (Orc.t (Orc.t (Orc.t (Orc.t (Orc.t (Orc.t (Orc.t Orc.z)))))))))))))))))))),hY.ask [fDeep],rfl,show gDpO1 _ (xs.map i0) nm s e (tDeep true s e) k a m w (encL ks) (l.map xE) from ?_⟩
   rw [gDpO1_vc]
   exact ⟨(),⟨trivial, .refl _,rfl⟩,z1,rfl,z2,(),⟨trivial, .refl _,rfl⟩,(),⟨trivial, .refl _,rfl⟩,(),⟨trivial, .refl _,rfl⟩,rfl,rfl,(),⟨trivial, .refl _,rfl⟩,rfl,rfl,rfl,rfl,rfl,rfl,rfl,rfl,rfl,(),⟨trivial, .refl _,rfl⟩,rfl,(),⟨trivial, .refl _,rfl⟩,rfl,rfl,rfl,rfl,rfl,rfl,rfl,rfl⟩
  | false =>
   refine ⟨_,(Orc.f (Orc.t (Orc.t (Orc.t (Orc.t (Orc.t (Orc.t (Orc.t (Orc.t (Orc.t (Orc.t (Orc.t (Orc.t (Orc.t (Orc.t (Orc.t (Orc.t (Orc.t (Orc.t (Orc.t Orc.z)))))))))))))))))))),hY.ask [fDeep],rfl,show gDpO0 _ (xs.map i0) nm s e (tDeep false s e) k a m w (encL ks) (l.map xE) from ?_⟩
   rw [gDpO0_vc]
   exact ⟨(),⟨trivial, .refl _,rfl⟩,z1,rfl,(),⟨trivial, .refl _,rfl⟩,(),⟨trivial, .refl _,rfl⟩,(),⟨trivial, .refl _,rfl⟩,rfl,rfl,(),⟨trivial, .refl _,rfl⟩,rfl,rfl,rfl,rfl,rfl,rfl,rfl,rfl,rfl,(),⟨trivial, .refl _,rfl⟩,rfl,(),⟨trivial, .refl _,rfl⟩,rfl,rfl,rfl,rfl,rfl,rfl,rfl,rfl⟩
set_option maxRecDepth 100000 in
theorem deep_run {l:List (String × DataW Unit)}{W:World}(h:laidMet Tryz.prog l W)(m1:("strconv.ErrSyntax",dErr eSyn.data.toList)∈l)(m2:("strconv.ErrRange",dErr eRan.data.toList)∈l)
  (m3:("internal/strconv.uint64pow10",(Lib.tabData .u64 powL:DataW Unit))∈l){t:TypeId}{fz:Nat × Nat}(hh:W.heap[gErrT]?=some (.cells #[.iface tRty (.agg #[.pointer (some ⟨7,tErrI,none⟩)])] t fz)){xs:List Int}{v:Value}(nm:Int)(c:Bool)(hv:VR ⟨fun _=>none,fun b=>W.heap[b]?⟩ (.lst false 1 (xs.map i0)) v) :
  Calls Tryz.prog fDeep #[v, .int .i64 nm, .bool c] W fun e W'=>e = .returned (.bool true)∧W'.os=W.os∧W'.tape=W.tape∧W'.output=W.output∧W.heap.size≤W'.heap.size∧∀ b,b<W.heap.size→W'.heap[b]?=W.heap[b]?:=by
 obtain ⟨X,os,hX,hp,hg⟩:=deep_goal xs nm c
 have hP:X.px.P=Tryz.prog:=by rw [hp]; rfl
 have hgl:X.px.gl=glE:=by rw [hp]; rfl
 have:=law_calls hX (d:=12) (f:=fDeep) (fn:=fn fDeep) (code:=code fDeep) (by rw [hP]; exact fnOk fDeep (by kernel_rfl)) (show (fn fDeep).body=some (code fDeep) by kernel_rfl) (by kernel_rfl) hg (m:=fun b=>W.heap[b]?) (w:=W) (fun b o h=>h) (by
  rw [hgl]
  intro g x hx
  have hx:bsel (Nat.beq g gErrT) (some errT) (gl0 g)=some x:=hx
  cases hb:Nat.beq g gErrT
  · rw [hb,bsel_false] at hx; exact gl0_of h m1 m2 m3 g x hx
  · rw [hb,bsel_true] at hx; cases hx
    obtain rfl:=Nat.eq_of_beq_eq_true hb
    exact ⟨handle_ref hh,fun vs hvs=>(by cases hvs)⟩) (vals:=[v, .int .i64 nm, .bool c]) (.vcons hv (.vcons (.lit _) (.vcons (.lit _) .vnil)))
 rw [hP] at this
 exact this
end
end Go.Proofs.YtpofhijgccocpaaGreatDoor
end
