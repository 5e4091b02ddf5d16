/- Parts of the proof of ParseTells. -/
import Derived.Test.YtpofhijgccocpaaGreatDoorIb
import Derived.Test.YtpofhijgccocpaaGreatDoorIa
import Derived.Lib.ItoaNum
import Derived.Test.YtpofhijgccocpaaGreatDoorAWnil
import Derived.Test.YtpofhijgccocpaaGreatDoorAWnil2
import Derived.Test.YtpofhijgccocpaaGreatDoorASvar
set_option maxRecDepth 100000
section
namespace Go.Proofs.YtpofhijgccocpaaGreatDoor
open Go Go.AS Go.TP
noncomputable abbrev zaod (xs:List AV) (ts:List AV) (k:Int) (d:Int):=[eR 1048577 [0,0] 5 xs,eF 1048578 [1,0] 6 [AV.agg [L3 ts,i0 k,i0 d,AV.slc 1048577 [0,0] 0 (List.length xs),i0 0,i0 0]]]
noncomputable abbrev zawA (xs:List AV) (ts:List AV) (k:Int) (d:Int):=(True/\Wks [AV.ptr 1048578 [1,0] 0 0] [AV.ptr 1048578 [1,0] 0 0]/\hpL [eR 1048577 [0,0] 5 xs,eF 1048578 [1,0] 6 [AV.agg [L3 ts,i0 (k+1),i0 d,AV.slc 1048577 [0,0] 0 (List.length xs),i0 0,i0 0]]]=hpL [eR 1048577 [0,0] 5 xs,eF 1048578 [1,0] 6 [AV.agg [L3 ts,i0 (k+1),i0 d,AV.slc 1048577 [0,0] 0 (List.length xs),i0 0,i0 0]]])
noncomputable abbrev zanq (ts:List AV) (k:Int) (d:Int) (xs:List AV):=(WX.add XB fXIs (Sp.con [spI (2:Int) false (xHp 0 ts k d xs (0:Int) (0:Int)),spI (1:Int) true (xHp 0 ts k d xs (0:Int) (0:Int))]))
noncomputable abbrev zalF (xs:List AV) (ts:List AV) (k:Int) (d:Int):=(True/\Wks [AV.ptr 1048578 [1,0] 0 0,i0 2] [AV.ptr 1048578 [1,0] 0 0,i0 2]/\hpL (zaod xs ts k d)=hpL (zaod xs ts k d))
noncomputable abbrev zawz (xs:List AV) (ts:List AV) (k1:Int) (d:Int):=[eR 1048577 [0,0] 5 xs,eF 1048578 [1,0] 6 [AV.agg [L3 ts,i0 k1,i0 (d+1),AV.slc 1048577 [0,0] 0 (List.length xs),i0 0,i0 0]]]
noncomputable abbrev zaCi (xs2:List AV) (ts:List AV) (k4:Int) (d2:Int):=[eR 1048577 [0,0] 5 xs2,eF 1048578 [1,0] 6 [AV.agg [L3 ts,i0 k4,i0 d2,AV.slc 1048577 [0,0] 0 (List.length xs2),i0 0,i0 0]]]
noncomputable abbrev zaob (xs:List AV) (ts:List AV) (k:Int) (d:Int):=(True/\Wks [AV.ptr 1048578 [1,0] 0 0,i0 1] [AV.ptr 1048578 [1,0] 0 0,i0 1]/\hpL (zaod xs ts k d)=hpL (zaod xs ts k d))
noncomputable abbrev zawy (ts:List AV) (k:Int) (d:Int) (xs:List AV) (k1:Int):=(Sp.con [spD true (xHp 0 ts (k+1) d xs (0:Int) (0:Int)) (xHp 0 ts k1 (d+1) xs (0:Int) (0:Int))])
noncomputable abbrev zaEf (ts:List AV) (k:Int) (d:Int) (xs:List AV) (k4:Int) (d2:Int) (xs2:List AV):=(WX.add XB fXIs (Sp.con [spI (2:Int) false (xHp 0 ts k d xs (0:Int) (0:Int)),spI (1:Int) true (xHp 0 ts k d xs (0:Int) (0:Int)),spI (1:Int) true (xHp 0 ts k4 d2 xs2 (0:Int) (0:Int))]))
noncomputable abbrev zap3 (xs:List AV) (ts:List AV) (k:Int) (d:Int) (bad':Int) (pl':Int):=(hpL [eR 1048577 [0,0] 5 xs,eF 1048578 [1,0] 6 [AV.agg [L3 ts,i0 k,i0 d,AV.slc 1048577 [0,0] 0 (List.length xs),i0 bad',i0 pl']]])
noncomputable abbrev zaoc (xs2:List AV) (ts:List AV) (k2:Int) (d2:Int) (bad2:Int) (pl2:Int):=[eR 1048577 [0,0] 5 xs2,eF 1048578 [1,0] 6 [AV.agg [L3 ts,i0 k2,i0 d2,AV.slc 1048577 [0,0] 0 (List.length xs2),i0 bad2,i0 pl2]]]
noncomputable abbrev zahk (ts:List AV) (k:Int) (t:ByteArray):=(True/\Wks [s0 (strA (nthA 2 (List.getD ts (Int.toNat k) uu)))] [s0 t]/\hpL []=hpL [])
theorem zat6 (ts:List AV)(k d:Int)(xs:List AV)(bad' pl':Int):zaGl (Orc.t (Orc.t Orc.z)) ts k d xs bad' pl'=(∃ (_:Unit),(zalF xs ts k d)/\Yt (U1 [AV.ptr 1048578 [1,0] 0 0] (zaod xs ts k d) (Yt (Wk (i0 0) (i0 0)/\SameH (zap3 xs ts k d bad' pl') (zap3 xs ts k d bad' pl'))))):=by kernel_rfl
theorem zat5 (ts:List AV)(k d:Int)(xs:List AV)(k1 k2 d2:Int)(xs2:List AV)(bad2 pl2:Int)(v k3:Int)(bad3 pl3:Int)(b:Bool):zaGk (Orc.t (Orc.f Orc.z)) ts k d xs k1 k2 d2 xs2 bad2 pl2 v k3 bad3 pl3 b=(let z1:=(hpL [eR 1048577 [0,1] 5 xs2,eF 1048578 [1,0] 6 [AV.agg [L3 ts,i0 k3,i0 (d2-1),AV.slc 1048577 [0,1] 0 (List.length xs2),i0 bad3,i0 pl3]]]);let z2:=AV.ptr 1048578 [1,0] 0 0;∃ (_:Unit),(zalF xs ts k d)/\Yt (U1 [z2] (zaod xs ts k d) (Nf (U1 [z2] (zawz xs ts k1 d) (U1 [z2,i0 3] (zaoc xs2 ts k2 d2 bad2 pl2) (inR IntKind.i64 (d2-1)=true/\Wk (i0 v) (i0 v)/\SameH z1 z1)))))):=by kernel_rfl
theorem zaAd (ts:List AV)(k d:Int)(xs:List AV)(bad' pl':Int):gAtX (Orc.alt 0 (Orc.f (Orc.alt 1 (Orc.t Orc.z)))) ts k d xs bad' pl'=(let z1:=[AV.ptr 1048578 [1,0] 0 0,i0 15];∃ (_:Unit),(zalF xs ts k d)/\Nf (∃ (_:Unit),(zaob xs ts k d)/\Yt (U1 z1 (zaod xs ts k d) (Wk (i0 0) (i0 0)/\SameH (zap3 xs ts k d bad' pl') (zap3 xs ts k d bad' pl'))))):=by kernel_rfl
theorem zat4 (ts:List AV)(k d:Int)(xs:List AV)(bad' pl':Int)(t:ByteArray):zaGj (Orc.alt 0 (Orc.f (Orc.alt 1 (Orc.f (Orc.t (Orc.t Orc.z)))))) ts k d xs bad' pl' t=(let z1:=(xHp 0 ts k d xs (0:Int) (0:Int));let z2:=(List.getD ts (Int.toNat (k+1)) uu);let z3:=[AV.ptr 1048578 [1,0] 0 0,i0 15];∃ (_:Unit),(zalF xs ts k d)/\Nf (∃ (_:Unit),(zaob xs ts k d)/\Nf ((decide ((0:Int)<=k/\k<(↑(List.length ts):Int))&&(Nat.beq 3 3&&(zaaF (Cx.B (cxV (XQn (WX.add (WX.add (zanq ts k d xs) zaaH (Sp.con [Sp.pure Unit (fun (x:Unit)=>True) (fun (x:Unit)=>[s0 t]) fun (x:Unit)=>b0 false])) zabG (Sp.con [spX [i0 15] z1 { x:=i0 0,σ:=xHp 0 ts k d xs bad' pl',ws:=[1048578] }])) zaac [38,39,49,51,117,119]) 14 zaac)) shN 124 (List.getD ts (Int.toNat k) uu)&&(true||false))))=true/\inR IntKind.i64 (k+1)=true/\(decide ((0:Int)<=k+1/\k+1<(↑(List.length ts):Int))&&(Nat.beq 3 3&&(zaaF (Cx.B (cxV (XQn (WX.add (WX.add (zanq ts k d xs) zaaH (Sp.con [Sp.pure Unit (fun (x:Unit)=>True) (fun (x:Unit)=>[s0 t]) fun (x:Unit)=>b0 false])) zabG (Sp.con [spX [i0 15] z1 { x:=i0 0,σ:=xHp 0 ts k d xs bad' pl',ws:=[1048578] }])) zaac [38,39,49,51,117,119]) 14 zaac)) shN 124 z2&&(true||false))))=true/\(intA (nthA 0 z2) != 2)=true/\∃ (_:Unit),(zahk ts k t)/\Yt (U1 z3 (zaod xs ts k d) (Wk (i0 0) (i0 0)/\SameH (zap3 xs ts k d bad' pl') (zap3 xs ts k d bad' pl')))))):=by kernel_rfl
theorem zat3 (ts:List AV)(k d:Int)(xs:List AV)(a:Int)(t:ByteArray):zaGi (Orc.alt 0 (Orc.f (Orc.alt 1 (Orc.f (Orc.t (Orc.f Orc.z)))))) ts k d xs a t=(let z1:=(hpL [eR 1048577 [0,1] 5 (xs++[AV.agg [i0 1,i0 a,i0 0,s0 t,L1 []]]),eF 1048578 [1,0] 6 [AV.agg [L3 ts,i0 (k+1),i0 d,AV.slc 1048577 [0,1] 0 (List.length (xs++[AV.agg [i0 1,i0 a,i0 0,s0 t,L1 []]])),i0 0,i0 0]]]);let z2:=(Sp.con [spA (rgV (1:Int) a (0:Int) t []) (↑(List.length xs):Int) (xHp 0 ts (k+1) d xs (0:Int) (0:Int)) (xHp 1 ts (k+1) d (xs++[rgV (1:Int) a (0:Int) t []]) (0:Int) (0:Int))]);let z3:=[eR 1048577 [0,0] 5 xs,eF 1048578 [1,0] 6 [AV.agg [L3 ts,i0 (k+1),i0 d,AV.slc 1048577 [0,0] 0 (List.length xs),i0 0,i0 0]]];let z4:=(List.getD ts (Int.toNat k) uu);let z5:=(List.getD ts (Int.toNat (k+1)) uu);∃ (_:Unit),(zalF xs ts k d)/\Nf (∃ (_:Unit),(zaob xs ts k d)/\Nf ((decide ((0:Int)<=k/\k<(↑(List.length ts):Int))&&(Nat.beq 3 3&&(zaaF (Cx.B (cxV (XQn (WX.add (WX.add (zanq ts k d xs) zaaH (Sp.con [Sp.pure Unit (fun (x:Unit)=>True) (fun (x:Unit)=>[s0 t]) fun (x:Unit)=>b0 true])) zabN z2) zaac [38,39,49,51,117,119]) 14 zaac)) shN 124 z4&&(true||false))))=true/\inR IntKind.i64 (k+1)=true/\(decide ((0:Int)<=k+1/\k+1<(↑(List.length ts):Int))&&(Nat.beq 3 3&&(zaaF (Cx.B (cxV (XQn (WX.add (WX.add (zanq ts k d xs) zaaH (Sp.con [Sp.pure Unit (fun (x:Unit)=>True) (fun (x:Unit)=>[s0 t]) fun (x:Unit)=>b0 true])) zabN z2) zaac [38,39,49,51,117,119]) 14 zaac)) shN 124 z5&&(true||false))))=true/\(intA (nthA 0 z5) != 2)=true/\∃ (_:Unit),(zahk ts k t)/\Nf (inR IntKind.i64 (k+1)=true/\∃ (_:Unit),(True/\Wks [AV.ptr 1048578 [1,0] 0 0,AV.agg [i0 1,i0 (intA (nthA 1 z4)),i0 0,s0 (strA (nthA 2 z4)),AV.lit (Value.slice none 0 0)]] [AV.ptr 1048578 [1,0] 0 0,AV.agg [i0 1,i0 a,i0 0,s0 t,L1 []]]/\hpL z3=hpL z3)/\Wk (i0 (↑(List.length xs):Int)) (i0 (↑(List.length xs):Int))/\SameH z1 z1)))):=by kernel_rfl
theorem zau (ts:List AV)(k d:Int)(xs:List AV)(bad' pl':Int)(t:ByteArray):zaGp (Orc.alt 0 (Orc.f (Orc.alt 1 (Orc.f (Orc.f (Orc.t Orc.z)))))) ts k d xs bad' pl' t=(let z1:=(xHp 0 ts k d xs (0:Int) (0:Int));let z2:=(List.getD ts (Int.toNat (k+1)) uu);let z3:=[AV.ptr 1048578 [1,0] 0 0,i0 15];∃ (_:Unit),(zalF xs ts k d)/\Nf (∃ (_:Unit),(zaob xs ts k d)/\Nf ((decide ((0:Int)<=k/\k<(↑(List.length ts):Int))&&(Nat.beq 3 3&&(zaaF (Cx.B (cxV (XQn (WX.add (WX.add (zanq ts k d xs) zabe (Sp.con [Sp.pure Unit (fun (x:Unit)=>True) (fun (x:Unit)=>[s0 t]) fun (x:Unit)=>AV.tup [i0 (-1:Int),b0 false]])) zabG (Sp.con [spX [i0 15] z1 { x:=i0 0,σ:=xHp 0 ts k d xs bad' pl',ws:=[1048578] }])) zaac [38,39,49,51,117,119]) 14 zaac)) shN 124 (List.getD ts (Int.toNat k) uu)&&(true||false))))=true/\inR IntKind.i64 (k+1)=true/\(decide ((0:Int)<=k+1/\k+1<(↑(List.length ts):Int))&&(Nat.beq 3 3&&(zaaF (Cx.B (cxV (XQn (WX.add (WX.add (zanq ts k d xs) zabe (Sp.con [Sp.pure Unit (fun (x:Unit)=>True) (fun (x:Unit)=>[s0 t]) fun (x:Unit)=>AV.tup [i0 (-1:Int),b0 false]])) zabG (Sp.con [spX [i0 15] z1 { x:=i0 0,σ:=xHp 0 ts k d xs bad' pl',ws:=[1048578] }])) zaac [38,39,49,51,117,119]) 14 zaac)) shN 124 z2&&(true||false))))=true/\(intA (nthA 0 z2) != 2)=false/\∃ (_:Unit),(zahk ts k t)/\Yt (U1 z3 (zaod xs ts k d) (Wk (i0 0) (i0 0)/\SameH (zap3 xs ts k d bad' pl') (zap3 xs ts k d bad' pl')))))):=by kernel_rfl
theorem zat7 (ts:List AV)(k d:Int)(xs:List AV)(bad' pl':Int)(t:ByteArray)(n:Int)(b:Bool):zaGm (Orc.alt 0 (Orc.f (Orc.alt 1 (Orc.f (Orc.f (Orc.f (Orc.t Orc.z))))))) ts k d xs bad' pl' t n b=(let z1:=(hpL [eR 1048577 [0,0] 5 xs,eF 1048578 [1,0] 6 [AV.agg [L3 ts,i0 (k+1),i0 d,AV.slc 1048577 [0,0] 0 (List.length xs),i0 bad',i0 pl']]]);let z2:=(Sp.con [spD false (xHp 0 ts (k+1) d xs (0:Int) (0:Int)) (xHp 0 ts (k+1) d xs bad' pl')]);let z3:=(List.getD ts (Int.toNat (k+1)) uu);∃ (_:Unit),(zalF xs ts k d)/\Nf (∃ (_:Unit),(zaob xs ts k d)/\Nf ((decide ((0:Int)<=k/\k<(↑(List.length ts):Int))&&(Nat.beq 3 3&&(zaaF (Cx.B (cxV (XQn (WX.add (WX.add (zanq ts k d xs) zabe (Sp.con [Sp.pure Unit (fun (x:Unit)=>True) (fun (x:Unit)=>[s0 t]) fun (x:Unit)=>AV.tup [i0 n,b0 b]])) zaar z2) zaac [38,39,49,51,117,119]) 14 zaac)) shN 124 (List.getD ts (Int.toNat k) uu)&&(true||false))))=true/\inR IntKind.i64 (k+1)=true/\(decide ((0:Int)<=k+1/\k+1<(↑(List.length ts):Int))&&(Nat.beq 3 3&&(zaaF (Cx.B (cxV (XQn (WX.add (WX.add (zanq ts k d xs) zabe (Sp.con [Sp.pure Unit (fun (x:Unit)=>True) (fun (x:Unit)=>[s0 t]) fun (x:Unit)=>AV.tup [i0 n,b0 b]])) zaar z2) zaac [38,39,49,51,117,119]) 14 zaac)) shN 124 z3&&(true||false))))=true/\(intA (nthA 0 z3) != 2)=false/\∃ (_:Unit),(zahk ts k t)/\decide (n<0)=false/\inR IntKind.i64 (k+1)=true/\∃ (_:Unit),(zawA xs ts k d)/\Yt (Wk (i0 0) (i0 0)/\SameH z1 z1)))):=by kernel_rfl
theorem zat9 (ts:List AV)(k d:Int)(xs:List AV)(t:ByteArray)(a k1:Int)(k3 bad3 pl3:Int)(b:Bool):zaGo (Orc.alt 0 (Orc.f (Orc.alt 1 (Orc.f (Orc.f (Orc.f (Orc.f (Orc.f (Orc.f (Orc.f (Orc.f Orc.z))))))))))) ts k d xs t a k1 k3 bad3 pl3 b=(let z1:=(hpL [eR 1048577 [0,1] 5 (xs++[AV.agg [i0 10,i0 a,i0 0,s0 t,L1 []]]),eF 1048578 [1,0] 6 [AV.agg [L3 ts,i0 k3,i0 (d+1-(1:Int)),AV.slc 1048577 [0,1] 0 (List.length (xs++[AV.agg [i0 10,i0 a,i0 0,s0 t,L1 []]])),i0 bad3,i0 pl3]]]);let z2:=(Sp.con [spA (rgV (10:Int) a (0:Int) t []) (↑(List.length xs):Int) (xHp 0 ts k3 (d+1-(1:Int)) xs bad3 pl3) (xHp 1 ts k3 (d+1-(1:Int)) (xs++[rgV (10:Int) a (0:Int) t []]) bad3 pl3)]);let z3:=[eR 1048577 [0,0] 5 xs,eF 1048578 [1,0] 6 [AV.agg [L3 ts,i0 k3,i0 (d+1-(1:Int)),AV.slc 1048577 [0,0] 0 (List.length xs),i0 bad3,i0 pl3]]];let z4:=AV.ptr 1048578 [1,0] 0 0;let z5:=(List.getD ts (Int.toNat k) uu);let z6:=(xHp 0 ts k1 (d+1) xs (0:Int) (0:Int));let z7:=(List.getD ts (Int.toNat (k+1)) uu);∃ (_:Unit),(zalF xs ts k d)/\Nf (∃ (_:Unit),(zaob xs ts k d)/\Nf ((decide ((0:Int)<=k/\k<(↑(List.length ts):Int))&&(Nat.beq 3 3&&(zaaF (Cx.B (cxV (XQn (WX.add (WX.add (WX.add (WX.add (zanq ts k d xs) zabe (Sp.con [Sp.pure Unit (fun (x:Unit)=>True) (fun (x:Unit)=>[s0 t]) fun (x:Unit)=>AV.tup [i0 0,b0 false]])) zaar (zawy ts k d xs k1)) zabt (Sp.con [spX [i0 3] z6 { x:=b0 b,σ:=xHp 0 ts k3 (d+1) xs bad3 pl3,ws:=[1048578] }])) zabN z2) zaac [38,39,49,51,117,119]) 14 zaac)) shN 124 z5&&(true||false))))=true/\inR IntKind.i64 (k+1)=true/\(decide ((0:Int)<=k+1/\k+1<(↑(List.length ts):Int))&&(Nat.beq 3 3&&(zaaF (Cx.B (cxV (XQn (WX.add (WX.add (WX.add (WX.add (zanq ts k d xs) zabe (Sp.con [Sp.pure Unit (fun (x:Unit)=>True) (fun (x:Unit)=>[s0 t]) fun (x:Unit)=>AV.tup [i0 0,b0 false]])) zaar (zawy ts k d xs k1)) zabt (Sp.con [spX [i0 3] z6 { x:=b0 b,σ:=xHp 0 ts k3 (d+1) xs bad3 pl3,ws:=[1048578] }])) zabN z2) zaac [38,39,49,51,117,119]) 14 zaac)) shN 124 z7&&(true||false))))=true/\(intA (nthA 0 z7) != 2)=false/\∃ (_:Unit),(zahk ts k t)/\Nf (inR IntKind.i64 (k+1)=true/\∃ (_:Unit),(zawA xs ts k d)/\Nf4 (Nf (U1 [z4,i0 3] (zawz xs ts k1 d) (inR IntKind.i64 (d+1-(1:Int))=true/\∃ (_:Unit),(True/\Wks [z4,AV.agg [i0 10,i0 (intA (nthA 1 z5)),i0 0,s0 (strA (nthA 2 z5)),AV.lit (Value.slice none 0 0)]] [z4,AV.agg [i0 10,i0 a,i0 0,s0 t,L1 []]]/\hpL z3=hpL z3)/\Wk (i0 (↑(List.length xs):Int)) (i0 (↑(List.length xs):Int))/\SameH z1 z1))))))):=by kernel_rfl
theorem zat8 (ts:List AV)(k d:Int)(xs:List AV)(t:ByteArray)(a k1:Int)(k2 d2:Int)(xs2:List AV)(bad2 pl2:Int)(v k3:Int)(bad3 pl3:Int)(b:Bool):zaGn (Orc.alt 0 (Orc.f (Orc.alt 1 (Orc.f (Orc.f (Orc.f (Orc.f (Orc.t (Orc.f (Orc.f (Orc.f Orc.z))))))))))) ts k d xs t a k1 k2 d2 xs2 bad2 pl2 v k3 bad3 pl3 b=(let z1:=[eR 1048577 [0,0] 5 xs,eF 1048578 [1,0] 6 [AV.agg [L3 ts,i0 k,i0 d,AV.slc 1048577 [0,0] 0 (List.length xs),i0 0,i0 0]]];let z2:=(hpL [eR 1048577 [0,1] 5 (xs2++[AV.agg [i0 10,i0 a,i0 0,s0 t,L1 [i0 v]]]),eF 1048578 [1,0] 6 [AV.agg [L3 ts,i0 k3,i0 (d2-1),AV.slc 1048577 [0,1] 0 (List.length (xs2++[AV.agg [i0 10,i0 a,i0 0,s0 t,L1 [i0 v]]])),i0 bad3,i0 pl3]]]);let z3:=AV.ptr 1048578 [1,0] 0 0;let z4:=(Sp.con [spA (rgV (10:Int) a (0:Int) t [i0 v]) (↑(List.length xs2):Int) (xHp 0 ts k3 (d2-1) xs2 bad3 pl3) (xHp 1 ts k3 (d2-1) (xs2++[rgV (10:Int) a (0:Int) t [i0 v]]) bad3 pl3)]);let z5:=(WX.add XB fXIs (Sp.con [spI (2:Int) false (xHp 0 ts k d xs (0:Int) (0:Int)),spI (1:Int) true (xHp 0 ts k d xs (0:Int) (0:Int))]));let z6:=[eR 1048577 [0,0] 5 xs2,eF 1048578 [1,0] 6 [AV.agg [L3 ts,i0 k3,i0 (d2-1),AV.slc 1048577 [0,0] 0 (List.length xs2),i0 bad3,i0 pl3]]];let z7:=[eR 1048577 [0,0] 5 xs2,eF 1048578 [1,0] 6 [AV.agg [L3 ts,i0 k2,i0 d2,AV.slc 1048577 [0,0] 0 (List.length xs2),i0 bad2,i0 pl2]]];let z8:=[eR 1048577 [0,0] 5 xs,eF 1048578 [1,0] 6 [AV.agg [L3 ts,i0 k1,i0 (d+1),AV.slc 1048577 [0,0] 0 (List.length xs),i0 0,i0 0]]];let z9:=[eR 1048577 [0,0] 5 xs,eF 1048578 [1,0] 6 [AV.agg [L3 ts,i0 (k+1),i0 d,AV.slc 1048577 [0,0] 0 (List.length xs),i0 0,i0 0]]];let z10:=(xHp 0 ts k1 (d+1) xs (0:Int) (0:Int));let z11:=(List.getD ts (Int.toNat k) uu);let z12:=(Sp.con [spD true (xHp 0 ts (k+1) d xs (0:Int) (0:Int)) z10]);let z13:=(Sp.con [spV v z10 (xHp 1 ts k2 d2 xs2 bad2 pl2)]);let z14:=(List.getD ts (Int.toNat (k+1)) uu);U1 [z3,i0 2] z1 (Nf (U1 [z3,i0 1] z1 (Nf ((decide ((0:Int)<=k/\k<(↑(List.length ts):Int))&&(Nat.beq 3 3&&(zaaF (Cx.B (cxV (XQn (WX.add (WX.add (WX.add (WX.add (WX.add z5 zabe (Sp.con [Sp.pure Unit (fun (x:Unit)=>True) (fun (x:Unit)=>[s0 t]) fun (x:Unit)=>AV.tup [i0 1,b0 false]])) zaar z12) zaap z13) zabt (Sp.con [spX [i0 3] (xHp 0 ts k2 d2 xs2 bad2 pl2) { x:=b0 b,σ:=xHp 0 ts k3 d2 xs2 bad3 pl3,ws:=[1048578] }])) zabN z4) zaac [38,39,49,51,117,119]) 14 zaac)) shN 124 z11&&(true||false))))=true/\inR IntKind.i64 (k+1)=true/\(decide ((0:Int)<=k+1/\k+1<(↑(List.length ts):Int))&&(Nat.beq 3 3&&(zaaF (Cx.B (cxV (XQn (WX.add (WX.add (WX.add (WX.add (WX.add z5 zabe (Sp.con [Sp.pure Unit (fun (x:Unit)=>True) (fun (x:Unit)=>[s0 t]) fun (x:Unit)=>AV.tup [i0 1,b0 false]])) zaar z12) zaap z13) zabt (Sp.con [spX [i0 3] (xHp 0 ts k2 d2 xs2 bad2 pl2) { x:=b0 b,σ:=xHp 0 ts k3 d2 xs2 bad3 pl3,ws:=[1048578] }])) zabN z4) zaac [38,39,49,51,117,119]) 14 zaac)) shN 124 z14&&(true||false))))=true/\(intA (nthA 0 z14) != 2)=false/\∃ (_:Unit),(True/\Wks [s0 (strA (nthA 2 z11))] [s0 t]/\hpL []=hpL [])/\Nf (inR IntKind.i64 (k+1)=true/\U1 [z3] z9 (Nf (Yt (U1 [z3] z8 (Nf (Nf (Nf (U1 [z3,i0 3] z7 (inR IntKind.i64 (d2-1)=true/\∃ (_:Unit),(True/\Wks [z3,AV.agg [i0 10,i0 (intA (nthA 1 z11)),i0 0,s0 (strA (nthA 2 z11)),AV.lst true 1 [i0 v]]] [z3,AV.agg [i0 10,i0 a,i0 0,s0 t,L1 [i0 v]]]/\hpL z6=hpL z6)/\Wk (i0 (↑(List.length xs2):Int)) (i0 (↑(List.length xs2):Int))/\SameH z2 z2)))))))))))))):=by kernel_rfl
theorem zaoT (ts:List AV)(k d:Int)(xs:List AV)(t:ByteArray)(a k1:Int)(k2 d2:Int)(xs2:List AV)(bad2 pl2:Int)(v k3:Int)(bad3 pl3:Int)(k4 bad4 pl4:Int)(b:Bool):zaAf (Orc.alt 0 (Orc.f (Orc.alt 1 (Orc.f (Orc.f (Orc.f (Orc.f (Orc.t (Orc.t (Orc.t (Orc.alt 0 (Orc.f (Orc.alt 1 Orc.z))))))))))))) ts k d xs t a k1 k2 d2 xs2 bad2 pl2 v k3 bad3 pl3 k4 bad4 pl4 b=(let z1:=[eR 1048577 [0,0] 5 xs,eF 1048578 [1,0] 6 [AV.agg [L3 ts,i0 k,i0 d,AV.slc 1048577 [0,0] 0 (List.length xs),i0 0,i0 0]]];let z2:=AV.ptr 1048578 [1,0] 0 0;let z3:=(hpL [eR 1048577 [0,1] 5 (xs2++[AV.agg [i0 10,i0 a,i0 0,s0 t,L1 [i0 v]]]),eF 1048578 [1,0] 6 [AV.agg [L3 ts,i0 k3,i0 (d2-1),AV.slc 1048577 [0,1] 0 (List.length (xs2++[AV.agg [i0 10,i0 a,i0 0,s0 t,L1 [i0 v]]])),i0 bad3,i0 pl3]]]);let z4:=(Sp.con [spA (rgV (10:Int) a (0:Int) t [i0 v]) (↑(List.length xs2):Int) (xHp 0 ts k3 (d2-1) xs2 bad3 pl3) (xHp 1 ts k3 (d2-1) (xs2++[rgV (10:Int) a (0:Int) t [i0 v]]) bad3 pl3)]);let z5:=AV.slc 1048577 [0,0] 0 (List.length xs2);let z6:=(WX.add XB fXIs (Sp.con [spI (2:Int) false (xHp 0 ts k d xs (0:Int) (0:Int)),spI (1:Int) true (xHp 0 ts k d xs (0:Int) (0:Int))]));let z7:=[eR 1048577 [0,0] 5 xs,eF 1048578 [1,0] 6 [AV.agg [L3 ts,i0 k1,i0 (d+1),AV.slc 1048577 [0,0] 0 (List.length xs),i0 0,i0 0]]];let z8:=[eR 1048577 [0,0] 5 xs,eF 1048578 [1,0] 6 [AV.agg [L3 ts,i0 (k+1),i0 d,AV.slc 1048577 [0,0] 0 (List.length xs),i0 0,i0 0]]];let z9:=(xHp 0 ts k1 (d+1) xs (0:Int) (0:Int));let z10:=[eR 1048577 [0,0] 5 xs2,eF 1048578 [1,0] 6 [AV.agg [L3 ts,i0 k3,i0 (d2-1),z5,i0 bad3,i0 pl3]]];let z11:=[eR 1048577 [0,0] 5 xs2,eF 1048578 [1,0] 6 [AV.agg [L3 ts,i0 k2,i0 d2,z5,i0 bad2,i0 pl2]]];let z12:=[eR 1048577 [0,0] 5 xs2,eF 1048578 [1,0] 6 [AV.agg [L3 ts,i0 k4,i0 d2,z5,i0 bad4,i0 pl4]]];let z13:=(List.getD ts (Int.toNat k) uu);let z14:=(Sp.con [spD true (xHp 0 ts (k+1) d xs (0:Int) (0:Int)) z9]);let z15:=(Sp.con [spV v z9 (xHp 1 ts k2 d2 xs2 bad2 pl2)]);let z16:=(List.getD ts (Int.toNat (k+1)) uu);U1 [z2,i0 2] z1 (Nf (U1 [z2,i0 1] z1 (Nf ((decide ((0:Int)<=k/\k<(↑(List.length ts):Int))&&(Nat.beq 3 3&&(zaaF (Cx.B (cxV (XQn (WX.add (WX.add (WX.add (WX.add (WX.add z6 zabe (Sp.con [Sp.pure Unit (fun (x:Unit)=>True) (fun (x:Unit)=>[s0 t]) fun (x:Unit)=>AV.tup [i0 1,b0 true]])) zaar z14) zaap z15) zabt (Sp.con [spX [i0 4] (xHp 0 ts k2 d2 xs2 bad2 pl2) { x:=b0 false,σ:=xHp 0 ts k4 d2 xs2 bad4 pl4,ws:=[1048578] },spX [i0 3] (xHp 0 ts k4 d2 xs2 bad4 pl4) { x:=b0 b,σ:=xHp 0 ts k3 d2 xs2 bad3 pl3,ws:=[1048578] }])) zabN z4) zaac [38,39,49,51,117,119]) 14 zaac)) shN 124 z13&&(true||false))))=true/\inR IntKind.i64 (k+1)=true/\(decide ((0:Int)<=k+1/\k+1<(↑(List.length ts):Int))&&(Nat.beq 3 3&&(zaaF (Cx.B (cxV (XQn (WX.add (WX.add (WX.add (WX.add (WX.add z6 zabe (Sp.con [Sp.pure Unit (fun (x:Unit)=>True) (fun (x:Unit)=>[s0 t]) fun (x:Unit)=>AV.tup [i0 1,b0 true]])) zaar z14) zaap z15) zabt (Sp.con [spX [i0 4] (xHp 0 ts k2 d2 xs2 bad2 pl2) { x:=b0 false,σ:=xHp 0 ts k4 d2 xs2 bad4 pl4,ws:=[1048578] },spX [i0 3] (xHp 0 ts k4 d2 xs2 bad4 pl4) { x:=b0 b,σ:=xHp 0 ts k3 d2 xs2 bad3 pl3,ws:=[1048578] }])) zabN z4) zaac [38,39,49,51,117,119]) 14 zaac)) shN 124 z16&&(true||false))))=true/\(intA (nthA 0 z16) != 2)=false/\∃ (_:Unit),(True/\Wks [s0 (strA (nthA 2 z13))] [s0 t]/\hpL []=hpL [])/\Nf (inR IntKind.i64 (k+1)=true/\U1 [z2] z8 (Nf (Yt (U1 [z2] z7 (Yt (Yt (U1 [z2,i0 4] z11 (Nf (U1 [z2,i0 3] z12 (inR IntKind.i64 (d2-1)=true/\∃ (_:Unit),(True/\Wks [z2,AV.agg [i0 10,i0 (intA (nthA 1 z13)),i0 0,s0 (strA (nthA 2 z13)),AV.lst true 1 [i0 v]]] [z2,AV.agg [i0 10,i0 a,i0 0,s0 t,L1 [i0 v]]]/\hpL z10=hpL z10)/\Wk (i0 (↑(List.length xs2):Int)) (i0 (↑(List.length xs2):Int))/\SameH z3 z3))))))))))))))):=by kernel_rfl
theorem zaoV (ts:List AV)(k d:Int)(xs:List AV)(t tn:ByteArray)(a m:Int)(k1 k2 d2:Int)(xs2:List AV)(bad2 pl2:Int)(v k3:Int)(bad3 pl3:Int)(k4 bad' pl':Int):zaAh (Orc.alt 0 (Orc.f (Orc.alt 1 (Orc.f (Orc.f (Orc.f (Orc.f (Orc.t (Orc.t (Orc.t (Orc.t (Orc.alt 2 (Orc.t (Orc.t (Orc.t (Orc.t Orc.z)))))))))))))))) ts k d xs t tn a m k1 k2 d2 xs2 bad2 pl2 v k3 bad3 pl3 k4 bad' pl'=(let z1:=(WX.add XB fXIs (Sp.con [spI (2:Int) false (xHp 0 ts k d xs (0:Int) (0:Int)),spI (1:Int) true (xHp 0 ts k d xs (0:Int) (0:Int)),spI (1:Int) false (xHp 0 ts k4 d2 xs2 (0:Int) (0:Int))]));let z2:=(Sp.con [spV v (xHp 0 ts k1 (d+1) xs (0:Int) (0:Int)) (xHp 1 ts k2 d2 xs2 bad2 pl2)]);let z3:=AV.ptr 1048578 [1,0] 0 0;let z4:=(hpL [eR 1048577 [0,1] 5 xs2,eF 1048578 [1,0] 6 [AV.agg [L3 ts,i0 k4,i0 d2,AV.slc 1048577 [0,1] 0 (List.length xs2),i0 bad',i0 pl']]]);let z5:=(xHp 0 ts k4 d2 xs2 (0:Int) (0:Int));let z6:=(xHp 0 ts k2 d2 xs2 bad2 pl2);let z7:=(zaCi xs2 ts k4 d2);let z8:=[38,39,49,51,117,119];let z9:=(↑(List.length ts):Int);let z10:=(List.getD ts (Int.toNat (k+1)) uu);let z11:=(zawy ts k d xs k1);∃ (_:Unit),(zalF xs ts k d)/\Nf (∃ (_:Unit),(zaob xs ts k d)/\Nf ((decide ((0:Int)<=k/\k<z9)&&(Nat.beq 3 3&&(zaaF (Cx.B (cxV (XQn (WX.add (WX.add (WX.add (WX.add (WX.add (WX.add z1 zabe (Sp.con [Sp.pure Unit (fun (x:Unit)=>True) (fun (x:Unit)=>[s0 t]) fun (x:Unit)=>AV.tup [i0 1,b0 true]])) zaar z11) zaap z2) zabt (Sp.con [spX [i0 4] z6 { x:=b0 true,σ:=xHp 0 ts k4 d2 xs2 (0:Int) (0:Int),ws:=[1048578] }])) zaae (Sp.con [Sp.pure Unit (fun (x:Unit)=>True) (fun (x:Unit)=>[s0 tn]) fun (x:Unit)=>i0 m])) zabG (Sp.con [spX [i0 15] z5 { x:=i0 0,σ:=xHp 0 ts k4 d2 xs2 bad' pl',ws:=[1048578] }])) zaac z8) 14 zaac)) shN 124 (List.getD ts (Int.toNat k) uu)&&(true||false))))=true/\inR IntKind.i64 (k+1)=true/\(decide ((0:Int)<=k+1/\k+1<z9)&&(Nat.beq 3 3&&(zaaF (Cx.B (cxV (XQn (WX.add (WX.add (WX.add (WX.add (WX.add (WX.add z1 zabe (Sp.con [Sp.pure Unit (fun (x:Unit)=>True) (fun (x:Unit)=>[s0 t]) fun (x:Unit)=>AV.tup [i0 1,b0 true]])) zaar z11) zaap z2) zabt (Sp.con [spX [i0 4] z6 { x:=b0 true,σ:=xHp 0 ts k4 d2 xs2 (0:Int) (0:Int),ws:=[1048578] }])) zaae (Sp.con [Sp.pure Unit (fun (x:Unit)=>True) (fun (x:Unit)=>[s0 tn]) fun (x:Unit)=>i0 m])) zabG (Sp.con [spX [i0 15] z5 { x:=i0 0,σ:=xHp 0 ts k4 d2 xs2 bad' pl',ws:=[1048578] }])) zaac z8) 14 zaac)) shN 124 z10&&(true||false))))=true/\(intA (nthA 0 z10) != 2)=false/\∃ (_:Unit),(zahk ts k t)/\Nf (inR IntKind.i64 (k+1)=true/\∃ (_:Unit),(zawA xs ts k d)/\Nf (Yt (U1 [z3] (zawz xs ts k1 d) (Yt (Yt (U1 [z3,i0 4] (zaoc xs2 ts k2 d2 bad2 pl2) (Yt ((decide ((0:Int)<=k4/\k4<z9)&&(Nat.beq 3 3&&(zaaF (Cx.B (cxV (XQn (WX.add (WX.add (WX.add (WX.add (WX.add (WX.add z1 zabe (Sp.con [Sp.pure Unit (fun (x:Unit)=>True) (fun (x:Unit)=>[s0 t]) fun (x:Unit)=>AV.tup [i0 1,b0 true]])) zaar z11) zaap z2) zabt (Sp.con [spX [i0 4] z6 { x:=b0 true,σ:=xHp 0 ts k4 d2 xs2 (0:Int) (0:Int),ws:=[1048578] }])) zaae (Sp.con [Sp.pure Unit (fun (x:Unit)=>True) (fun (x:Unit)=>[s0 tn]) fun (x:Unit)=>i0 m])) zabG (Sp.con [spX [i0 15] z5 { x:=i0 0,σ:=xHp 0 ts k4 d2 xs2 bad' pl',ws:=[1048578] }])) zaac z8) 14 zaac)) shN 124 (List.getD ts (Int.toNat k4) uu)&&(true||false))))=true/\∃ (_:Unit),(True/\Wks [s0 (strA (nthA 2 (List.getD ts (Int.toNat k4) uu)))] [s0 tn]/\hpL []=hpL [])/\U1 [z3,i0 1] z7 (Yt4 (U1 [z3,i0 15] z7 (Wk (i0 0) (i0 0)/\SameH z4 z4)))))))))))))):=by kernel_rfl
theorem zaoU (ts:List AV)(k d:Int)(xs:List AV)(t tn:ByteArray)(a m:Int)(k1 k2 d2:Int)(xs2:List AV)(bad2 pl2:Int)(v k3:Int)(bad3 pl3:Int)(k4 bad' pl':Int):zaAg (Orc.alt 0 (Orc.f (Orc.alt 1 (Orc.f (Orc.f (Orc.f (Orc.f (Orc.t (Orc.t (Orc.t (Orc.t (Orc.alt 2 (Orc.f (Orc.f (Orc.f (Orc.t Orc.z)))))))))))))))) ts k d xs t tn a m k1 k2 d2 xs2 bad2 pl2 v k3 bad3 pl3 k4 bad' pl'=(let z1:=(Sp.con [spV v (xHp 0 ts k1 (d+1) xs (0:Int) (0:Int)) (xHp 1 ts k2 d2 xs2 bad2 pl2)]);let z2:=AV.ptr 1048578 [1,0] 0 0;let z3:=(hpL [eR 1048577 [0,1] 5 xs2,eF 1048578 [1,0] 6 [AV.agg [L3 ts,i0 k4,i0 d2,AV.slc 1048577 [0,1] 0 (List.length xs2),i0 bad',i0 pl']]]);let z4:=(xHp 0 ts k4 d2 xs2 (0:Int) (0:Int));let z5:=(xHp 0 ts k2 d2 xs2 bad2 pl2);let z6:=(zaCi xs2 ts k4 d2);let z7:=(zaEf ts k d xs k4 d2 xs2);let z8:=[38,39,49,51,117,119];let z9:=(↑(List.length ts):Int);let z10:=(List.getD ts (Int.toNat (k+1)) uu);let z11:=(zawy ts k d xs k1);∃ (_:Unit),(zalF xs ts k d)/\Nf (∃ (_:Unit),(zaob xs ts k d)/\Nf ((decide ((0:Int)<=k/\k<z9)&&(Nat.beq 3 3&&(zaaF (Cx.B (cxV (XQn (WX.add (WX.add (WX.add (WX.add (WX.add (WX.add z7 zabe (Sp.con [Sp.pure Unit (fun (x:Unit)=>True) (fun (x:Unit)=>[s0 t]) fun (x:Unit)=>AV.tup [i0 1,b0 true]])) zaar z11) zaap z1) zabt (Sp.con [spX [i0 4] z5 { x:=b0 true,σ:=xHp 0 ts k4 d2 xs2 (0:Int) (0:Int),ws:=[1048578] }])) zaae (Sp.con [Sp.pure Unit (fun (x:Unit)=>True) (fun (x:Unit)=>[s0 tn]) fun (x:Unit)=>i0 m])) zabG (Sp.con [spX [i0 15] z4 { x:=i0 0,σ:=xHp 0 ts k4 d2 xs2 bad' pl',ws:=[1048578] }])) zaac z8) 14 zaac)) shN 124 (List.getD ts (Int.toNat k) uu)&&(true||false))))=true/\inR IntKind.i64 (k+1)=true/\(decide ((0:Int)<=k+1/\k+1<z9)&&(Nat.beq 3 3&&(zaaF (Cx.B (cxV (XQn (WX.add (WX.add (WX.add (WX.add (WX.add (WX.add z7 zabe (Sp.con [Sp.pure Unit (fun (x:Unit)=>True) (fun (x:Unit)=>[s0 t]) fun (x:Unit)=>AV.tup [i0 1,b0 true]])) zaar z11) zaap z1) zabt (Sp.con [spX [i0 4] z5 { x:=b0 true,σ:=xHp 0 ts k4 d2 xs2 (0:Int) (0:Int),ws:=[1048578] }])) zaae (Sp.con [Sp.pure Unit (fun (x:Unit)=>True) (fun (x:Unit)=>[s0 tn]) fun (x:Unit)=>i0 m])) zabG (Sp.con [spX [i0 15] z4 { x:=i0 0,σ:=xHp 0 ts k4 d2 xs2 bad' pl',ws:=[1048578] }])) zaac z8) 14 zaac)) shN 124 z10&&(true||false))))=true/\(intA (nthA 0 z10) != 2)=false/\∃ (_:Unit),(zahk ts k t)/\Nf (inR IntKind.i64 (k+1)=true/\∃ (_:Unit),(zawA xs ts k d)/\Nf (Yt (U1 [z2] (zawz xs ts k1 d) (Yt (Yt (U1 [z2,i0 4] (zaoc xs2 ts k2 d2 bad2 pl2) (Yt ((decide ((0:Int)<=k4/\k4<z9)&&(Nat.beq 3 3&&(zaaF (Cx.B (cxV (XQn (WX.add (WX.add (WX.add (WX.add (WX.add (WX.add z7 zabe (Sp.con [Sp.pure Unit (fun (x:Unit)=>True) (fun (x:Unit)=>[s0 t]) fun (x:Unit)=>AV.tup [i0 1,b0 true]])) zaar z11) zaap z1) zabt (Sp.con [spX [i0 4] z5 { x:=b0 true,σ:=xHp 0 ts k4 d2 xs2 (0:Int) (0:Int),ws:=[1048578] }])) zaae (Sp.con [Sp.pure Unit (fun (x:Unit)=>True) (fun (x:Unit)=>[s0 tn]) fun (x:Unit)=>i0 m])) zabG (Sp.con [spX [i0 15] z4 { x:=i0 0,σ:=xHp 0 ts k4 d2 xs2 bad' pl',ws:=[1048578] }])) zaac z8) 14 zaac)) shN 124 (List.getD ts (Int.toNat k4) uu)&&(true||false))))=true/\∃ (_:Unit),(True/\Wks [s0 (strA (nthA 2 (List.getD ts (Int.toNat k4) uu)))] [s0 tn]/\hpL []=hpL [])/\U1 [z2,i0 1] z6 (Nf (Nf (Nf (decide (m<0)=true/\U1 [z2,i0 15] z6 (Wk (i0 0) (i0 0)/\SameH z3 z3)))))))))))))))):=by kernel_rfl
theorem zaoS (ts:List AV)(k d:Int)(xs:List AV)(t tn:ByteArray)(a m:Int)(k1 k2 d2:Int)(xs2:List AV)(bad2 pl2:Int)(v k3:Int)(bad3 pl3 k4:Int)(b:Bool):zaAe (Orc.alt 0 (Orc.f (Orc.alt 1 (Orc.f (Orc.f (Orc.f (Orc.f (Orc.t (Orc.t (Orc.t (Orc.alt 0 (Orc.t (Orc.alt 2 (Orc.f (Orc.f (Orc.f (Orc.f (Orc.alt 1 Orc.z)))))))))))))))))) ts k d xs t tn a m k1 k2 d2 xs2 bad2 pl2 v k3 bad3 pl3 k4 b=(let z1:=(Sp.con [spA (rgV (10:Int) a m t [i0 v]) (↑(List.length xs2):Int) (xHp 0 ts k3 (d2-1) xs2 bad3 pl3) (xHp 1 ts k3 (d2-1) (xs2++[rgV (10:Int) a m t [i0 v]]) bad3 pl3)]);let z2:=(hpL [eR 1048577 [0,1] 5 (xs2++[AV.agg [i0 10,i0 a,i0 m,s0 t,L1 [i0 v]]]),eF 1048578 [1,0] 6 [AV.agg [L3 ts,i0 k3,i0 (d2-1),AV.slc 1048577 [0,1] 0 (List.length (xs2++[AV.agg [i0 10,i0 a,i0 m,s0 t,L1 [i0 v]]])),i0 bad3,i0 pl3]]]);let z3:=AV.ptr 1048578 [1,0] 0 0;let z4:=(Sp.con [spV v (xHp 0 ts k1 (d+1) xs (0:Int) (0:Int)) (xHp 1 ts k2 d2 xs2 bad2 pl2)]);let z5:=[eR 1048577 [0,0] 5 xs2,eF 1048578 [1,0] 6 [AV.agg [L3 ts,i0 k3,i0 (d2-1),AV.slc 1048577 [0,0] 0 (List.length xs2),i0 bad3,i0 pl3]]];let z6:=[eR 1048577 [0,0] 5 xs2,eF 1048578 [1,0] 6 [AV.agg [L3 ts,i0 (k4+1),i0 d2,AV.slc 1048577 [0,0] 0 (List.length xs2),i0 0,i0 0]]];let z7:=(xHp 0 ts (k4+1) d2 xs2 (0:Int) (0:Int));let z8:=(List.getD ts (Int.toNat k) uu);let z9:=(xHp 0 ts k2 d2 xs2 bad2 pl2);let z10:=(zaEf ts k d xs k4 d2 xs2);let z11:=[38,39,49,51,117,119];let z12:=(↑(List.length ts):Int);let z13:=(List.getD ts (Int.toNat (k+1)) uu);let z14:=(zawy ts k d xs k1);∃ (_:Unit),(zalF xs ts k d)/\Nf (∃ (_:Unit),(zaob xs ts k d)/\Nf ((decide ((0:Int)<=k/\k<z12)&&(Nat.beq 3 3&&(zaaF (Cx.B (cxV (XQn (WX.add (WX.add (WX.add (WX.add (WX.add (WX.add z10 zabe (Sp.con [Sp.pure Unit (fun (x:Unit)=>True) (fun (x:Unit)=>[s0 t]) fun (x:Unit)=>AV.tup [i0 1,b0 true]])) zaar z14) zaap z4) zabt (Sp.con [spX [i0 4] z9 { x:=b0 true,σ:=xHp 0 ts k4 d2 xs2 (0:Int) (0:Int),ws:=[1048578] },spX [i0 3] z7 { x:=b0 b,σ:=xHp 0 ts k3 d2 xs2 bad3 pl3,ws:=[1048578] }])) zaae (Sp.con [Sp.pure Unit (fun (x:Unit)=>True) (fun (x:Unit)=>[s0 tn]) fun (x:Unit)=>i0 m])) zabN z1) zaac z11) 14 zaac)) shN 124 z8&&(true||false))))=true/\inR IntKind.i64 (k+1)=true/\(decide ((0:Int)<=k+1/\k+1<z12)&&(Nat.beq 3 3&&(zaaF (Cx.B (cxV (XQn (WX.add (WX.add (WX.add (WX.add (WX.add (WX.add z10 zabe (Sp.con [Sp.pure Unit (fun (x:Unit)=>True) (fun (x:Unit)=>[s0 t]) fun (x:Unit)=>AV.tup [i0 1,b0 true]])) zaar z14) zaap z4) zabt (Sp.con [spX [i0 4] z9 { x:=b0 true,σ:=xHp 0 ts k4 d2 xs2 (0:Int) (0:Int),ws:=[1048578] },spX [i0 3] z7 { x:=b0 b,σ:=xHp 0 ts k3 d2 xs2 bad3 pl3,ws:=[1048578] }])) zaae (Sp.con [Sp.pure Unit (fun (x:Unit)=>True) (fun (x:Unit)=>[s0 tn]) fun (x:Unit)=>i0 m])) zabN z1) zaac z11) 14 zaac)) shN 124 z13&&(true||false))))=true/\(intA (nthA 0 z13) != 2)=false/\∃ (_:Unit),(zahk ts k t)/\Nf (inR IntKind.i64 (k+1)=true/\∃ (_:Unit),(zawA xs ts k d)/\Nf (Yt (U1 [z3] (zawz xs ts k1 d) (Yt (Yt (U1 [z3,i0 4] (zaoc xs2 ts k2 d2 bad2 pl2) (Yt ((decide ((0:Int)<=k4/\k4<z12)&&(Nat.beq 3 3&&(zaaF (Cx.B (cxV (XQn (WX.add (WX.add (WX.add (WX.add (WX.add (WX.add z10 zabe (Sp.con [Sp.pure Unit (fun (x:Unit)=>True) (fun (x:Unit)=>[s0 t]) fun (x:Unit)=>AV.tup [i0 1,b0 true]])) zaar z14) zaap z4) zabt (Sp.con [spX [i0 4] z9 { x:=b0 true,σ:=xHp 0 ts k4 d2 xs2 (0:Int) (0:Int),ws:=[1048578] },spX [i0 3] z7 { x:=b0 b,σ:=xHp 0 ts k3 d2 xs2 bad3 pl3,ws:=[1048578] }])) zaae (Sp.con [Sp.pure Unit (fun (x:Unit)=>True) (fun (x:Unit)=>[s0 tn]) fun (x:Unit)=>i0 m])) zabN z1) zaac z11) 14 zaac)) shN 124 (List.getD ts (Int.toNat k4) uu)&&(true||false))))=true/\∃ (_:Unit),(True/\Wks [s0 (strA (nthA 2 (List.getD ts (Int.toNat k4) uu)))] [s0 tn]/\hpL []=hpL [])/\U1 [z3,i0 1] (zaCi xs2 ts k4 d2) (Nf (Nf (Nf (decide (m<0)=false/\inR IntKind.i64 (k4+1)=true/\U1 [z3,i0 3] z6 (inR IntKind.i64 (d2-1)=true/\∃ (_:Unit),(True/\Wks [z3,AV.agg [i0 10,i0 (intA (nthA 1 z8)),i0 m,s0 (strA (nthA 2 z8)),AV.lst true 1 [i0 v]]] [z3,AV.agg [i0 10,i0 a,i0 m,s0 t,L1 [i0 v]]]/\hpL z5=hpL z5)/\Wk (i0 (↑(List.length xs2):Int)) (i0 (↑(List.length xs2):Int))/\SameH z2 z2)))))))))))))))):=by kernel_rfl
end Go.Proofs.YtpofhijgccocpaaGreatDoor
end
section
namespace Go.Proofs.YtpofhijgccocpaaGreatDoor
open Go.AS Go.TP
noncomputable section
def zaFT (os:Orc)(ts:List AV)(k d:Int)(xs:List AV)(bad' pl':Int):Prop :=
 runF (XQn ((XB.add fXIs (Sp.con [spI 5 true (xHp 0 ts k d xs 0 0)])).add zaar (Sp.con [spD false (xHp 0 ts k d xs 0 0) (xHp 0 ts k d xs bad' pl')])) zaat [17,19,50,52,91,93]) 14 zaat (fn zaat) (code zaat) os 0 [] [xArg] (xHp 0 ts k d xs 0 0) ⟨i0 0,xHp 0 ts k d xs bad' pl',[1048577,1048578]⟩
def zaFS (os:Orc)(ts:List AV)(k d:Int)(xs:List AV)(k1 k2 d2:Int)(xs2:List AV)(bad2 pl2 v a:Int):Prop :=
 runF (XQn ((((XB.add fXIs (Sp.con [spI 5 true (xHp 0 ts k d xs 0 0)])).add zaar (Sp.con [spD true (xHp 0 ts k d xs 0 0) (xHp 0 ts k1 (d+1) xs 0 0)])).add zaac (Sp.con [spV v (xHp 0 ts k1 (d+1) xs 0 0) (xHp 1 ts k2 d2 xs2 bad2 pl2)])).add zabN (Sp.con [spA (rgV 6 a 0 ByteArray.empty [i0 v]) xs2.length (xHp 0 ts k2 (d2-1) xs2 bad2 pl2) (xHp 1 ts k2 (d2-1) (xs2++[(rgV 6 a 0 ByteArray.empty [i0 v])]) bad2 pl2)])) zaat [17,19,50,52,91,93]) 14 zaat (fn zaat) (code zaat) os 0 [1048577] [xArg] (xHp 0 ts k d xs 0 0) ⟨i0 xs2.length,xHp 1 ts k2 (d2-1) (xs2++[(rgV 6 a 0 ByteArray.empty [i0 v])]) bad2 pl2,[1048577,1048578]⟩
def gRaA (os:Orc)(ts:List AV)(k d:Int)(xs:List AV)(ka da:Int)(xsa:List AV)(bada pla va:Int):Prop :=
 runF (XQn ((XB.add fXIs (Sp.con [spI 5 false (xHp 0 ts k d xs 0 0),spI 5 false (xHp 0 ts ka da xsa bada pla),spI 6 false (xHp 0 ts ka da xsa bada pla)])).add zaac (Sp.con [spV va (xHp 0 ts k d xs 0 0) (xHp 1 ts ka da xsa bada pla)])) zaat [17,19,50,52,91,93]) 14 zaat (fn zaat) (code zaat) os 0 [1048577] [xArg] (xHp 0 ts k d xs 0 0) ⟨i0 va,xHp 1 ts ka da xsa bada pla,[1048577,1048578]⟩
def zaFW (os:Orc)(ts:List AV)(k d:Int)(xs:List AV)(ka da:Int)(xsa:List AV)(va:Int)(bad' pl':Int):Prop :=
 runF (XQn (((XB.add fXIs (Sp.con [spI 5 false (xHp 0 ts k d xs 0 0),spI 5 true (xHp 0 ts ka da xsa 0 0)])).add zaac (Sp.con [spV va (xHp 0 ts k d xs 0 0) (xHp 1 ts ka da xsa 0 0)])).add zaar (Sp.con [spD false (xHp 0 ts ka da xsa 0 0) (xHp 0 ts ka da xsa bad' pl')])) zaat [17,19,50,52,91,93]) 14 zaat (fn zaat) (code zaat) os 0 [1048577] [xArg] (xHp 0 ts k d xs 0 0) ⟨i0 0,xHp 1 ts ka da xsa bad' pl',[1048577,1048578]⟩
def zaFX (os:Orc)(ts:List AV)(k d:Int)(xs:List AV)(ka da:Int)(xsa:List AV)(va:Int)(k1 a:Int):Prop :=
 runF (XQn ((((XB.add fXIs (Sp.con [spI 5 false (xHp 0 ts k d xs 0 0),spI 5 true (xHp 0 ts ka da xsa 0 0),spI 2 false (xHp 0 ts k1 (da+1) xsa 0 0),spI 1 false (xHp 0 ts k1 (da+1) xsa 0 0)])).add zaac (Sp.con [spV va (xHp 0 ts k d xs 0 0) (xHp 1 ts ka da xsa 0 0)])).add zaar (Sp.con [spD true (xHp 0 ts ka da xsa 0 0) (xHp 0 ts k1 (da+1) xsa 0 0)])).add zabN (Sp.con [spA (rgV 7 a 0 ByteArray.empty [i0 va]) xsa.length (xHp 0 ts k1 (da+1-1) xsa 0 0) (xHp 1 ts k1 (da+1-1) (xsa++[(rgV 7 a 0 ByteArray.empty [i0 va])]) 0 0)])) zaat [17,19,50,52,91,93]) 14 zaat (fn zaat) (code zaat) os 0 [1048577] [xArg] (xHp 0 ts k d xs 0 0) ⟨i0 xsa.length,xHp 1 ts k1 (da+1-1) (xsa++[(rgV 7 a 0 ByteArray.empty [i0 va])]) 0 0,[1048577,1048578]⟩
def zaFV (os:Orc)(ts:List AV)(k d:Int)(xs:List AV)(ka da:Int)(xsa:List AV)(va:Int)(k1 k2 d2:Int)(xs2:List AV)(bad2 pl2 v a:Int):Prop :=
 runF (XQn ((((XB.add fXIs (Sp.con [spI 5 false (xHp 0 ts k d xs 0 0),spI 5 true (xHp 0 ts ka da xsa 0 0),spI 2 true (xHp 0 ts k1 (da+1) xsa 0 0)])).add zaac (Sp.con [spV va (xHp 0 ts k d xs 0 0) (xHp 1 ts ka da xsa 0 0),spV v (xHp 0 ts k1 (da+1) xsa 0 0) (xHp 1 ts k2 d2 xs2 bad2 pl2)])).add zaar (Sp.con [spD true (xHp 0 ts ka da xsa 0 0) (xHp 0 ts k1 (da+1) xsa 0 0)])).add zabN (Sp.con [spA (rgV 8 a 0 ByteArray.empty [i0 va,i0 v]) xs2.length (xHp 0 ts k2 (d2-1) xs2 bad2 pl2) (xHp 1 ts k2 (d2-1) (xs2++[(rgV 8 a 0 ByteArray.empty [i0 va,i0 v])]) bad2 pl2)])) zaat [17,19,50,52,91,93]) 14 zaat (fn zaat) (code zaat) os 0 [1048577] [xArg] (xHp 0 ts k d xs 0 0) ⟨i0 xs2.length,xHp 1 ts k2 (d2-1) (xs2++[(rgV 8 a 0 ByteArray.empty [i0 va,i0 v])]) bad2 pl2,[1048577,1048578]⟩
def zaFU (os:Orc)(ts:List AV)(k d:Int)(xs:List AV)(ka da:Int)(xsa:List AV)(va:Int)(k1 k2 d2:Int)(xs2:List AV)(bad2 pl2 v a:Int):Prop :=
 runF (XQn ((((XB.add fXIs (Sp.con [spI 5 false (xHp 0 ts k d xs 0 0),spI 5 true (xHp 0 ts ka da xsa 0 0),spI 2 false (xHp 0 ts k1 (da+1) xsa 0 0),spI 1 true (xHp 0 ts k1 (da+1) xsa 0 0)])).add zaac (Sp.con [spV va (xHp 0 ts k d xs 0 0) (xHp 1 ts ka da xsa 0 0),spV v (xHp 0 ts k1 (da+1) xsa 0 0) (xHp 1 ts k2 d2 xs2 bad2 pl2)])).add zaar (Sp.con [spD true (xHp 0 ts ka da xsa 0 0) (xHp 0 ts k1 (da+1) xsa 0 0)])).add zabN (Sp.con [spA (rgV 8 a 0 ByteArray.empty [i0 va,i0 v]) xs2.length (xHp 0 ts k2 (d2-1) xs2 bad2 pl2) (xHp 1 ts k2 (d2-1) (xs2++[(rgV 8 a 0 ByteArray.empty [i0 va,i0 v])]) bad2 pl2)])) zaat [17,19,50,52,91,93]) 14 zaat (fn zaat) (code zaat) os 0 [1048577] [xArg] (xHp 0 ts k d xs 0 0) ⟨i0 xs2.length,xHp 1 ts k2 (d2-1) (xs2++[(rgV 8 a 0 ByteArray.empty [i0 va,i0 v])]) bad2 pl2,[1048577,1048578]⟩
def gRaO (os:Orc)(ts:List AV)(k d:Int)(xs:List AV)(ka da:Int)(xsa:List AV)(va:Int)(k2 d2:Int)(xs2:List AV)(bad2 pl2 v a:Int):Prop :=
 runF (XQn (((XB.add fXIs (Sp.con [spI 5 false (xHp 0 ts k d xs 0 0),spI 5 false (xHp 0 ts ka da xsa 0 0),spI 6 true (xHp 0 ts ka da xsa 0 0)])).add zaac (Sp.con [spV va (xHp 0 ts k d xs 0 0) (xHp 1 ts ka da xsa 0 0),spV v (xHp 0 ts (ka+1) da xsa 0 0) (xHp 1 ts k2 d2 xs2 bad2 pl2)])).add zabN (Sp.con [spA (rgV 9 a 0 ByteArray.empty [i0 va,i0 v]) xs2.length (xHp 0 ts k2 d2 xs2 bad2 pl2) (xHp 1 ts k2 d2 (xs2++[(rgV 9 a 0 ByteArray.empty [i0 va,i0 v])]) bad2 pl2)])) zaat [17,19,50,52,91,93]) 14 zaat (fn zaat) (code zaat) os 0 [1048577] [xArg] (xHp 0 ts k d xs 0 0) ⟨i0 xs2.length,xHp 1 ts k2 d2 (xs2++[(rgV 9 a 0 ByteArray.empty [i0 va,i0 v])]) bad2 pl2,[1048577,1048578]⟩
end
end Go.Proofs.YtpofhijgccocpaaGreatDoor
end
section
namespace Go.Proofs.YtpofhijgccocpaaGreatDoor
open Go Go.AS Go.TP
noncomputable abbrev zap4 (xs:List AV) (ts:List AV) (k:Int) (d:Int):=[eR 1048577 [0,0] 5 xs,eF 1048578 [1,0] 6 [AV.agg [L3 ts,i0 k,i0 d,AV.slc 1048577 [0,0] 0 (List.length xs),i0 0,i0 0]]]
noncomputable abbrev zaCj (xsa:List AV) (ts:List AV) (ka:Int) (da:Int):=[eR 1048577 [0,0] 5 xsa,eF 1048578 [1,0] 6 [AV.agg [L3 ts,i0 ka,i0 da,AV.slc 1048577 [0,0] 0 (List.length xsa),i0 0,i0 0]]]
noncomputable abbrev zauQ (xs:List AV) (ts:List AV) (k:Int) (d:Int):=(True/\Wks [AV.ptr 1048578 [1,0] 0 0,i0 5] [AV.ptr 1048578 [1,0] 0 0,i0 5]/\hpL (zap4 xs ts k d)=hpL (zap4 xs ts k d))
theorem zatj (ts:List AV)(k d:Int)(xs:List AV)(bad' pl':Int):zaFT (Orc.t (Orc.t Orc.z)) ts k d xs bad' pl'=(let z1:=(hpL [eR 1048577 [0,0] 5 xs,eF 1048578 [1,0] 6 [AV.agg [L3 ts,i0 k,i0 d,AV.slc 1048577 [0,0] 0 (List.length xs),i0 bad',i0 pl']]]);let z2:=(xHp 0 ts k d xs (0:Int) (0:Int));∃ (_:Unit),(zauQ xs ts k d)/\Yt ((decide ((0:Int)<=k/\k<(↑(List.length ts):Int))&&(Nat.beq 3 3&&(zaaF (Cx.B (cxV (XQn (WX.add (WX.add XB fXIs (Sp.con [spI (5:Int) true z2])) zaar (Sp.con [spD false z2 (xHp 0 ts k d xs bad' pl')])) zaat [17,19,50,52,91,93]) 14 zaat)) shN 124 (List.getD ts (Int.toNat k) uu)&&(true||false))))=true/\U1 [AV.ptr 1048578 [1,0] 0 0] (zap4 xs ts k d) (Yt (Wk (i0 0) (i0 0)/\SameH z1 z1)))):=by kernel_rfl
theorem zati (ts:List AV)(k d:Int)(xs:List AV)(k1 k2 d2:Int)(xs2:List AV)(bad2 pl2:Int)(v a:Int):zaFS (Orc.t (Orc.f Orc.z)) ts k d xs k1 k2 d2 xs2 bad2 pl2 v a=(let z1:=(hpL [eR 1048577 [0,1] 5 (xs2++[AV.agg [i0 6,i0 a,i0 0,s0 ByteArray.empty,L1 [i0 v]]]),eF 1048578 [1,0] 6 [AV.agg [L3 ts,i0 k2,i0 (d2-1),AV.slc 1048577 [0,1] 0 (List.length (xs2++[AV.agg [i0 6,i0 a,i0 0,s0 ByteArray.empty,L1 [i0 v]]])),i0 bad2,i0 pl2]]]);let z2:=[eR 1048577 [0,0] 5 xs2,eF 1048578 [1,0] 6 [AV.agg [L3 ts,i0 k2,i0 (d2-1),AV.slc 1048577 [0,0] 0 (List.length xs2),i0 bad2,i0 pl2]]];let z3:=[eR 1048577 [0,0] 5 xs,eF 1048578 [1,0] 6 [AV.agg [L3 ts,i0 k1,i0 (d+1),AV.slc 1048577 [0,0] 0 (List.length xs),i0 0,i0 0]]];let z4:=AV.ptr 1048578 [1,0] 0 0;let z5:=(↑(List.length xs2):Int);let z6:=(xHp 0 ts k1 (d+1) xs (0:Int) (0:Int));let z7:=(xHp 0 ts k d xs (0:Int) (0:Int));∃ (_:Unit),(zauQ xs ts k d)/\Yt ((decide ((0:Int)<=k/\k<(↑(List.length ts):Int))&&(Nat.beq 3 3&&(zaaF (Cx.B (cxV (XQn (WX.add (WX.add (WX.add (WX.add XB fXIs (Sp.con [spI (5:Int) true z7])) zaar (Sp.con [spD true z7 z6])) zaac (Sp.con [spV v z6 (xHp 1 ts k2 d2 xs2 bad2 pl2)])) zabN (Sp.con [spA (rgV (6:Int) a (0:Int) ByteArray.empty [i0 v]) z5 (xHp 0 ts k2 (d2-1) xs2 bad2 pl2) (xHp 1 ts k2 (d2-1) (xs2++[rgV (6:Int) a (0:Int) ByteArray.empty [i0 v]]) bad2 pl2)])) zaat [17,19,50,52,91,93]) 14 zaat)) shN 124 (List.getD ts (Int.toNat k) uu)&&(true||false))))=true/\U1 [z4] (zap4 xs ts k d) (Nf (U1 [z4] z3 (inR IntKind.i64 (d2-1)=true/\∃ (_:Unit),(True/\Wks [z4,AV.agg [i0 6,i0 (intA (nthA 1 (List.getD ts (Int.toNat k) uu))),i0 0,s0 ⟨⟨[]⟩⟩,AV.lst true 1 [i0 v]]] [z4,AV.agg [i0 6,i0 a,i0 0,s0 ByteArray.empty,L1 [i0 v]]]/\hpL z2=hpL z2)/\Wk (i0 z5) (i0 z5)/\SameH z1 z1))))):=by kernel_rfl
theorem zayZ (ts:List AV)(k d:Int)(xs:List AV)(ka da:Int)(xsa:List AV)(bada pla va:Int):gRaA (Orc.alt 0 (Orc.f (Orc.alt 1 (Orc.f (Orc.alt 2 (Orc.f Orc.z)))))) ts k d xs ka da xsa bada pla va=(let z1:=[eR 1048577 [0,0] 5 xsa,eF 1048578 [1,0] 6 [AV.agg [L3 ts,i0 ka,i0 da,AV.slc 1048577 [0,0] 0 (List.length xsa),i0 bada,i0 pla]]];let z2:=(hpL [eR 1048577 [0,1] 5 xsa,eF 1048578 [1,0] 6 [AV.agg [L3 ts,i0 ka,i0 da,AV.slc 1048577 [0,1] 0 (List.length xsa),i0 bada,i0 pla]]]);let z3:=AV.ptr 1048578 [1,0] 0 0;∃ (_:Unit),(zauQ xs ts k d)/\Nf (U1 [z3] (zap4 xs ts k d) (U1 [z3,i0 5] z1 (Nf (U1 [z3,i0 6] z1 (Nf (Wk (i0 va) (i0 va)/\SameH z2 z2))))))):=by kernel_rfl
theorem zatm (ts:List AV)(k d:Int)(xs:List AV)(ka da:Int)(xsa:List AV)(va bad' pl':Int):zaFW (Orc.alt 0 (Orc.f (Orc.alt 1 (Orc.t (Orc.t Orc.z))))) ts k d xs ka da xsa va bad' pl'=(let z1:=(hpL [eR 1048577 [0,1] 5 xsa,eF 1048578 [1,0] 6 [AV.agg [L3 ts,i0 ka,i0 da,AV.slc 1048577 [0,1] 0 (List.length xsa),i0 bad',i0 pl']]]);let z2:=AV.ptr 1048578 [1,0] 0 0;let z3:=(zaCj xsa ts ka da);let z4:=(xHp 0 ts ka da xsa (0:Int) (0:Int));let z5:=(xHp 0 ts k d xs (0:Int) (0:Int));∃ (_:Unit),(zauQ xs ts k d)/\Nf (U1 [z2] (zap4 xs ts k d) (U1 [z2,i0 5] z3 (Yt ((decide ((0:Int)<=ka/\ka<(↑(List.length ts):Int))&&(Nat.beq 3 3&&(zaaF (Cx.B (cxV (XQn (WX.add (WX.add (WX.add XB fXIs (Sp.con [spI (5:Int) false z5,spI (5:Int) true z4])) zaac (Sp.con [spV va z5 (xHp 1 ts ka da xsa (0:Int) (0:Int))])) zaar (Sp.con [spD false z4 (xHp 0 ts ka da xsa bad' pl')])) zaat [17,19,50,52,91,93]) 14 zaat)) shN 124 (List.getD ts (Int.toNat ka) uu)&&(true||false))))=true/\U1 [z2] z3 (Yt (Wk (i0 0) (i0 0)/\SameH z1 z1))))))):=by kernel_rfl
theorem zatn (ts:List AV)(k d:Int)(xs:List AV)(ka da:Int)(xsa:List AV)(va k1 a:Int):zaFX (Orc.alt 0 (Orc.f (Orc.alt 1 (Orc.t (Orc.f (Orc.alt 2 (Orc.f (Orc.f (Orc.alt 3 (Orc.f Orc.z)))))))))) ts k d xs ka da xsa va k1 a=(let z1:=[eR 1048577 [0,0] 5 xsa,eF 1048578 [1,0] 6 [AV.agg [L3 ts,i0 k1,i0 (da+1),AV.slc 1048577 [0,0] 0 (List.length xsa),i0 0,i0 0]]];let z2:=(hpL [eR 1048577 [0,1] 5 (xsa++[AV.agg [i0 7,i0 a,i0 0,s0 ByteArray.empty,L1 [i0 va]]]),eF 1048578 [1,0] 6 [AV.agg [L3 ts,i0 k1,i0 (da+1-(1:Int)),AV.slc 1048577 [0,1] 0 (List.length (xsa++[AV.agg [i0 7,i0 a,i0 0,s0 ByteArray.empty,L1 [i0 va]]])),i0 0,i0 0]]]);let z3:=AV.ptr 1048578 [1,0] 0 0;let z4:=[eR 1048577 [0,0] 5 xsa,eF 1048578 [1,0] 6 [AV.agg [L3 ts,i0 k1,i0 (da+1-(1:Int)),AV.slc 1048577 [0,0] 0 (List.length xsa),i0 0,i0 0]]];let z5:=(xHp 0 ts k1 (da+1) xsa (0:Int) (0:Int));let z6:=(zaCj xsa ts ka da);let z7:=(↑(List.length xsa):Int);let z8:=(xHp 0 ts ka da xsa (0:Int) (0:Int));let z9:=(xHp 0 ts k d xs (0:Int) (0:Int));let z10:=(da+1-(1:Int));∃ (_:Unit),(zauQ xs ts k d)/\Nf (U1 [z3] (zap4 xs ts k d) (U1 [z3,i0 5] z6 (Yt ((decide ((0:Int)<=ka/\ka<(↑(List.length ts):Int))&&(Nat.beq 3 3&&(zaaF (Cx.B (cxV (XQn (WX.add (WX.add (WX.add (WX.add XB fXIs (Sp.con [spI (5:Int) false z9,spI (5:Int) true z8,spI (2:Int) false z5,spI (1:Int) false z5])) zaac (Sp.con [spV va z9 (xHp 1 ts ka da xsa (0:Int) (0:Int))])) zaar (Sp.con [spD true z8 z5])) zabN (Sp.con [spA (rgV (7:Int) a (0:Int) ByteArray.empty [i0 va]) z7 (xHp 0 ts k1 z10 xsa (0:Int) (0:Int)) (xHp 1 ts k1 z10 (xsa++[rgV (7:Int) a (0:Int) ByteArray.empty [i0 va]]) (0:Int) (0:Int))])) zaat [17,19,50,52,91,93]) 14 zaat)) shN 124 (List.getD ts (Int.toNat ka) uu)&&(true||false))))=true/\U1 [z3] z6 (Nf (U1 [z3,i0 2] z1 (Nf (Nf (U1 [z3,i0 1] z1 (Nf (inR IntKind.i64 z10=true/\∃ (_:Unit),(True/\Wks [z3,AV.agg [i0 7,i0 (intA (nthA 1 (List.getD ts (Int.toNat ka) uu))),i0 0,s0 ⟨⟨[]⟩⟩,AV.lst true 1 [i0 va]]] [z3,AV.agg [i0 7,i0 a,i0 0,s0 ByteArray.empty,L1 [i0 va]]]/\hpL z4=hpL z4)/\Wk (i0 z7) (i0 z7)/\SameH z2 z2)))))))))))):=by kernel_rfl
theorem zatl (ts:List AV)(k d:Int)(xs:List AV)(ka da:Int)(xsa:List AV)(va k1:Int)(k2 d2:Int)(xs2:List AV)(bad2 pl2:Int)(v a:Int):zaFV (Orc.alt 0 (Orc.f (Orc.alt 0 (Orc.alt 1 (Orc.t (Orc.f (Orc.alt 2 (Orc.t (Orc.t (Orc.t (Orc.alt 1 Orc.z))))))))))) ts k d xs ka da xsa va k1 k2 d2 xs2 bad2 pl2 v a=(let z1:=[eR 1048577 [0,0] 5 xsa,eF 1048578 [1,0] 6 [AV.agg [L3 ts,i0 k1,i0 (da+1),AV.slc 1048577 [0,0] 0 (List.length xsa),i0 0,i0 0]]];let z2:=[eR 1048577 [0,0] 5 xsa,eF 1048578 [1,0] 6 [AV.agg [L3 ts,i0 ka,i0 da,AV.slc 1048577 [0,0] 0 (List.length xsa),i0 0,i0 0]]];let z3:=[eR 1048577 [0,0] 5 xs,eF 1048578 [1,0] 6 [AV.agg [L3 ts,i0 k,i0 d,AV.slc 1048577 [0,0] 0 (List.length xs),i0 0,i0 0]]];let z4:=(hpL [eR 1048577 [0,1] 5 (xs2++[AV.agg [i0 8,i0 a,i0 0,s0 ByteArray.empty,L1 [i0 va,i0 v]]]),eF 1048578 [1,0] 6 [AV.agg [L3 ts,i0 k2,i0 (d2-1),AV.slc 1048577 [0,1] 0 (List.length (xs2++[AV.agg [i0 8,i0 a,i0 0,s0 ByteArray.empty,L1 [i0 va,i0 v]]])),i0 bad2,i0 pl2]]]);let z5:=AV.ptr 1048578 [1,0] 0 0;let z6:=[eR 1048577 [0,0] 5 xs2,eF 1048578 [1,0] 6 [AV.agg [L3 ts,i0 k2,i0 (d2-1),AV.slc 1048577 [0,0] 0 (List.length xs2),i0 bad2,i0 pl2]]];let z7:=(xHp 0 ts k1 (da+1) xsa (0:Int) (0:Int));let z8:=(↑(List.length xs2):Int);let z9:=(xHp 0 ts ka da xsa (0:Int) (0:Int));let z10:=(xHp 0 ts k d xs (0:Int) (0:Int));U1 [z5,i0 5] z3 (Nf (U1 [z5] z3 (U1 [z5,i0 5] z2 (Yt ((decide ((0:Int)<=ka/\ka<(↑(List.length ts):Int))&&(Nat.beq 3 3&&(zaaF (Cx.B (cxV (XQn (WX.add (WX.add (WX.add (WX.add XB fXIs (Sp.con [spI (5:Int) false z10,spI (5:Int) true z9,spI (2:Int) true z7])) zaac (Sp.con [spV va z10 (xHp 1 ts ka da xsa (0:Int) (0:Int)),spV v z7 (xHp 1 ts k2 d2 xs2 bad2 pl2)])) zaar (Sp.con [spD true z9 z7])) zabN (Sp.con [spA (rgV (8:Int) a (0:Int) ByteArray.empty [i0 va,i0 v]) z8 (xHp 0 ts k2 (d2-1) xs2 bad2 pl2) (xHp 1 ts k2 (d2-1) (xs2++[rgV (8:Int) a (0:Int) ByteArray.empty [i0 va,i0 v]]) bad2 pl2)])) zaat [17,19,50,52,91,93]) 14 zaat)) shN 124 (List.getD ts (Int.toNat ka) uu)&&(true||false))))=true/\U1 [z5] z2 (Nf (U1 [z5,i0 2] z1 (Yt (Yt (Yt (U1 [z5] z1 (inR IntKind.i64 (d2-1)=true/\∃ (_:Unit),(True/\Wks [z5,AV.agg [i0 8,i0 (intA (nthA 1 (List.getD ts (Int.toNat ka) uu))),i0 0,s0 ⟨⟨[]⟩⟩,AV.lst true 1 [i0 va,i0 v]]] [z5,AV.agg [i0 8,i0 a,i0 0,s0 ByteArray.empty,L1 [i0 va,i0 v]]]/\hpL z6=hpL z6)/\Wk (i0 z8) (i0 z8)/\SameH z4 z4))))))))))))):=by kernel_rfl
theorem zatk (ts:List AV)(k d:Int)(xs:List AV)(ka da:Int)(xsa:List AV)(va k1:Int)(k2 d2:Int)(xs2:List AV)(bad2 pl2:Int)(v a:Int):zaFU (Orc.alt 0 (Orc.f (Orc.alt 0 (Orc.alt 1 (Orc.t (Orc.f (Orc.alt 2 (Orc.f (Orc.f (Orc.alt 3 (Orc.t (Orc.alt 1 Orc.z)))))))))))) ts k d xs ka da xsa va k1 k2 d2 xs2 bad2 pl2 v a=(let z1:=[eR 1048577 [0,0] 5 xsa,eF 1048578 [1,0] 6 [AV.agg [L3 ts,i0 k1,i0 (da+1),AV.slc 1048577 [0,0] 0 (List.length xsa),i0 0,i0 0]]];let z2:=[eR 1048577 [0,0] 5 xsa,eF 1048578 [1,0] 6 [AV.agg [L3 ts,i0 ka,i0 da,AV.slc 1048577 [0,0] 0 (List.length xsa),i0 0,i0 0]]];let z3:=[eR 1048577 [0,0] 5 xs,eF 1048578 [1,0] 6 [AV.agg [L3 ts,i0 k,i0 d,AV.slc 1048577 [0,0] 0 (List.length xs),i0 0,i0 0]]];let z4:=AV.ptr 1048578 [1,0] 0 0;let z5:=(hpL [eR 1048577 [0,1] 5 (xs2++[AV.agg [i0 8,i0 a,i0 0,s0 ByteArray.empty,L1 [i0 va,i0 v]]]),eF 1048578 [1,0] 6 [AV.agg [L3 ts,i0 k2,i0 (d2-1),AV.slc 1048577 [0,1] 0 (List.length (xs2++[AV.agg [i0 8,i0 a,i0 0,s0 ByteArray.empty,L1 [i0 va,i0 v]]])),i0 bad2,i0 pl2]]]);let z6:=[eR 1048577 [0,0] 5 xs2,eF 1048578 [1,0] 6 [AV.agg [L3 ts,i0 k2,i0 (d2-1),AV.slc 1048577 [0,0] 0 (List.length xs2),i0 bad2,i0 pl2]]];let z7:=(xHp 0 ts k1 (da+1) xsa (0:Int) (0:Int));let z8:=(↑(List.length xs2):Int);let z9:=(xHp 0 ts ka da xsa (0:Int) (0:Int));let z10:=(xHp 0 ts k d xs (0:Int) (0:Int));U1 [z4,i0 5] z3 (Nf (U1 [z4] z3 (U1 [z4,i0 5] z2 (Yt ((decide ((0:Int)<=ka/\ka<(↑(List.length ts):Int))&&(Nat.beq 3 3&&(zaaF (Cx.B (cxV (XQn (WX.add (WX.add (WX.add (WX.add XB fXIs (Sp.con [spI (5:Int) false z10,spI (5:Int) true z9,spI (2:Int) false z7,spI (1:Int) true z7])) zaac (Sp.con [spV va z10 (xHp 1 ts ka da xsa (0:Int) (0:Int)),spV v z7 (xHp 1 ts k2 d2 xs2 bad2 pl2)])) zaar (Sp.con [spD true z9 z7])) zabN (Sp.con [spA (rgV (8:Int) a (0:Int) ByteArray.empty [i0 va,i0 v]) z8 (xHp 0 ts k2 (d2-1) xs2 bad2 pl2) (xHp 1 ts k2 (d2-1) (xs2++[rgV (8:Int) a (0:Int) ByteArray.empty [i0 va,i0 v]]) bad2 pl2)])) zaat [17,19,50,52,91,93]) 14 zaat)) shN 124 (List.getD ts (Int.toNat ka) uu)&&(true||false))))=true/\U1 [z4] z2 (Nf (U1 [z4,i0 2] z1 (Nf (Nf (U1 [z4,i0 1] z1 (Yt (U1 [z4] z1 (inR IntKind.i64 (d2-1)=true/\∃ (_:Unit),(True/\Wks [z4,AV.agg [i0 8,i0 (intA (nthA 1 (List.getD ts (Int.toNat ka) uu))),i0 0,s0 ⟨⟨[]⟩⟩,AV.lst true 1 [i0 va,i0 v]]] [z4,AV.agg [i0 8,i0 a,i0 0,s0 ByteArray.empty,L1 [i0 va,i0 v]]]/\hpL z6=hpL z6)/\Wk (i0 z8) (i0 z8)/\SameH z5 z5)))))))))))))):=by kernel_rfl
theorem zayY (ts:List AV)(k d:Int)(xs:List AV)(ka da:Int)(xsa:List AV)(va k2 d2:Int)(xs2:List AV)(bad2 pl2:Int)(v a:Int):gRaO (Orc.alt 0 (Orc.f (Orc.alt 0 (Orc.alt 1 (Orc.f (Orc.alt 2 (Orc.t (Orc.alt 1 Orc.z)))))))) ts k d xs ka da xsa va k2 d2 xs2 bad2 pl2 v a=(let z1:=(hpL [eR 1048577 [0,1] 5 (xs2++[AV.agg [i0 9,i0 a,i0 0,s0 ByteArray.empty,L1 [i0 va,i0 v]]]),eF 1048578 [1,0] 6 [AV.agg [L3 ts,i0 k2,i0 d2,AV.slc 1048577 [0,1] 0 (List.length (xs2++[AV.agg [i0 9,i0 a,i0 0,s0 ByteArray.empty,L1 [i0 va,i0 v]]])),i0 bad2,i0 pl2]]]);let z2:=AV.ptr 1048578 [1,0] 0 0;let z3:=[eR 1048577 [0,0] 5 xsa,eF 1048578 [1,0] 6 [AV.agg [L3 ts,i0 (ka+1),i0 da,AV.slc 1048577 [0,0] 0 (List.length xsa),i0 0,i0 0]]];let z4:=[eR 1048577 [0,0] 5 xs2,eF 1048578 [1,0] 6 [AV.agg [L3 ts,i0 k2,i0 d2,AV.slc 1048577 [0,0] 0 (List.length xs2),i0 bad2,i0 pl2]]];let z5:=(zaCj xsa ts ka da);let z6:=(↑(List.length xs2):Int);let z7:=(xHp 0 ts ka da xsa (0:Int) (0:Int));let z8:=(xHp 0 ts k d xs (0:Int) (0:Int));∃ (_:Unit),(zauQ xs ts k d)/\Nf (U1 [z2] (zap4 xs ts k d) (U1 [z2,i0 5] z5 (Nf (U1 [z2,i0 6] z5 (Yt ((decide ((0:Int)<=ka/\ka<(↑(List.length ts):Int))&&(Nat.beq 3 3&&(zaaF (Cx.B (cxV (XQn (WX.add (WX.add (WX.add XB fXIs (Sp.con [spI (5:Int) false z8,spI (5:Int) false z7,spI (6:Int) true z7])) zaac (Sp.con [spV va z8 (xHp 1 ts ka da xsa (0:Int) (0:Int)),spV v (xHp 0 ts (ka+1) da xsa (0:Int) (0:Int)) (xHp 1 ts k2 d2 xs2 bad2 pl2)])) zabN (Sp.con [spA (rgV (9:Int) a (0:Int) ByteArray.empty [i0 va,i0 v]) z6 (xHp 0 ts k2 d2 xs2 bad2 pl2) (xHp 1 ts k2 d2 (xs2++[rgV (9:Int) a (0:Int) ByteArray.empty [i0 va,i0 v]]) bad2 pl2)])) zaat [17,19,50,52,91,93]) 14 zaat)) shN 124 (List.getD ts (Int.toNat ka) uu)&&(true||false))))=true/\inR IntKind.i64 (ka+1)=true/\U1 [z2] z3 (∃ (_:Unit),(True/\Wks [z2,AV.agg [i0 9,i0 (intA (nthA 1 (List.getD ts (Int.toNat ka) uu))),i0 0,s0 ⟨⟨[]⟩⟩,AV.lst true 1 [i0 va,i0 v]]] [z2,AV.agg [i0 9,i0 a,i0 0,s0 ByteArray.empty,L1 [i0 va,i0 v]]]/\hpL z4=hpL z4)/\Wk (i0 z6) (i0 z6)/\SameH z1 z1)))))))):=by kernel_rfl
end Go.Proofs.YtpofhijgccocpaaGreatDoor
end
section
namespace Go.Proofs.YtpofhijgccocpaaGreatDoor
open Go Go.AS Go.TP
theorem zay1 (ts:List AV)(k d:Int)(xs:List AV)(k' d':Int)(xs':List AV)(bad' pl' v:Int):gPaR (Orc.t Orc.z) ts k d xs k' d' xs' bad' pl' v=(let z1:=[eR 1048577 [0,0] 5 xs,eF 1048578 [1,0] 6 [AV.agg [L3 ts,i0 k,i0 d,AV.slc 1048577 [0,0] 0 (List.length xs),i0 0,i0 0]]];let z2:=(hpL [eR 1048577 [0,1] 5 xs',eF 1048578 [1,0] 6 [AV.agg [L3 ts,i0 k',i0 d',AV.slc 1048577 [0,1] 0 (List.length xs'),i0 bad',i0 pl']]]);let z3:=AV.ptr 1048578 [1,0] 0 0;U1 [z3,i0 10] z1 (Yt (U1 [z3] z1 (Wk (i0 v) (i0 v)/\SameH z2 z2)))):=by kernel_rfl
theorem zay2 (ts:List AV)(k d:Int)(xs:List AV)(bad' pl':Int):gPaN (Orc.f (Orc.t Orc.z)) ts k d xs bad' pl'=(let z1:=[eR 1048577 [0,0] 5 xs,eF 1048578 [1,0] 6 [AV.agg [L3 ts,i0 k,i0 d,AV.slc 1048577 [0,0] 0 (List.length xs),i0 0,i0 0]]];let z2:=(hpL [eR 1048577 [0,0] 5 xs,eF 1048578 [1,0] 6 [AV.agg [L3 ts,i0 k,i0 d,AV.slc 1048577 [0,0] 0 (List.length xs),i0 bad',i0 pl']]]);let z3:=AV.ptr 1048578 [1,0] 0 0;let z4:=(xHp 0 ts k d xs (0:Int) (0:Int));U1 [z3,i0 10] z1 (Nf ((decide ((0:Int)<=k/\k<(↑(List.length ts):Int))&&(Nat.beq 3 3&&(zaaF (Cx.B (cxV (XQn (WX.add (WX.add XB fXIs (Sp.con [spI (10:Int) true z4])) zaar (Sp.con [spD false z4 (xHp 0 ts k d xs bad' pl')])) zaaU [17,19]) 14 zaaU)) shN 124 (List.getD ts (Int.toNat k) uu)&&(true||false))))=true/\U1 [z3] z1 (Yt (Wk (i0 0) (i0 0)/\SameH z2 z2))))):=by kernel_rfl
theorem zay0 (ts:List AV)(k d:Int)(xs:List AV)(k1 k2 d2:Int)(xs2:List AV)(bad2 pl2:Int)(v a:Int):gPaY (Orc.f (Orc.f Orc.z)) ts k d xs k1 k2 d2 xs2 bad2 pl2 v a=(let z1:=[eR 1048577 [0,0] 5 xs,eF 1048578 [1,0] 6 [AV.agg [L3 ts,i0 k,i0 d,AV.slc 1048577 [0,0] 0 (List.length xs),i0 0,i0 0]]];let z2:=(hpL [eR 1048577 [0,1] 5 (xs2++[AV.agg [i0 5,i0 a,i0 0,s0 ByteArray.empty,L1 [i0 v]]]),eF 1048578 [1,0] 6 [AV.agg [L3 ts,i0 k2,i0 (d2-1),AV.slc 1048577 [0,1] 0 (List.length (xs2++[AV.agg [i0 5,i0 a,i0 0,s0 ByteArray.empty,L1 [i0 v]]])),i0 bad2,i0 pl2]]]);let z3:=AV.ptr 1048578 [1,0] 0 0;let z4:=[eR 1048577 [0,0] 5 xs2,eF 1048578 [1,0] 6 [AV.agg [L3 ts,i0 k2,i0 (d2-1),AV.slc 1048577 [0,0] 0 (List.length xs2),i0 bad2,i0 pl2]]];let z5:=[eR 1048577 [0,0] 5 xs,eF 1048578 [1,0] 6 [AV.agg [L3 ts,i0 k1,i0 (d+1),AV.slc 1048577 [0,0] 0 (List.length xs),i0 0,i0 0]]];let z6:=(↑(List.length xs2):Int);let z7:=(xHp 0 ts k1 (d+1) xs (0:Int) (0:Int));let z8:=(xHp 0 ts k d xs (0:Int) (0:Int));U1 [z3,i0 10] z1 (Nf ((decide ((0:Int)<=k/\k<(↑(List.length ts):Int))&&(Nat.beq 3 3&&(zaaF (Cx.B (cxV (XQn (WX.add (WX.add (WX.add (WX.add XB fXIs (Sp.con [spI (10:Int) true z8])) zaar (Sp.con [spD true z8 z7])) zaaU (Sp.con [spV v z7 (xHp 1 ts k2 d2 xs2 bad2 pl2)])) zabN (Sp.con [spA (rgV (5:Int) a (0:Int) ByteArray.empty [i0 v]) z6 (xHp 0 ts k2 (d2-1) xs2 bad2 pl2) (xHp 1 ts k2 (d2-1) (xs2++[rgV (5:Int) a (0:Int) ByteArray.empty [i0 v]]) bad2 pl2)])) zaaU [17,19]) 14 zaaU)) shN 124 (List.getD ts (Int.toNat k) uu)&&(true||false))))=true/\U1 [z3] z1 (Nf (U1 [z3] z5 (inR IntKind.i64 (d2-1)=true/\∃ (_:Unit),(True/\Wks [z3,AV.agg [i0 5,i0 (intA (nthA 1 (List.getD ts (Int.toNat k) uu))),i0 0,s0 ⟨⟨[]⟩⟩,AV.lst true 1 [i0 v]]] [z3,AV.agg [i0 5,i0 a,i0 0,s0 ByteArray.empty,L1 [i0 v]]]/\hpL z4=hpL z4)/\Wk (i0 z6) (i0 z6)/\SameH z2 z2)))))):=by kernel_rfl
end Go.Proofs.YtpofhijgccocpaaGreatDoor
end
section
namespace Go.Proofs.YtpofhijgccocpaaGreatDoor
open Go.AS Go.TP
noncomputable section
variable {all:List Tk} {s:RS}
theorem XInv.of_RI {n:Nat}{t:RS}(h:XInv all s)(hd:s.deep<=24)(g:RI n 0 s t):XInv all t:=by
 have l:=g.len
 have l2:=h.lo
 have d0:=g.d0
 have d1:=g.d1
 have h0:=h.d0
 exact ⟨g.suf.trans h.suf,g.ok,g.bad,by omega,by omega,h.la,by omega⟩
theorem zabD (hb:s.bad=none)(c:Nat):xS c all s=xHp c (all.map encT) ((all.length:Int)-s.ts.length) s.deep (s.out.map xE) 0 0:=by
 unfold xS badE badP;rw [hb]
theorem xRen {f:Nat}{t:RS}{ys:List AV}{σ:Hp}{v:Int}{ws:List Nat}(h:FOk Tryz.prog gl0 f (xArg::ys) σ ⟨i0 v,xS 0 all t,ws⟩)(hw:∀ k,k∈ws->k=1048577∨k=1048578) :
  FOk Tryz.prog gl0 f (xArg::ys) σ ⟨i0 v,xS 1 all t,[1048577,1048578]⟩:=by
 have hg:∀ (c k:Nat),aget (xS c all t) k=if k=1048577 then some ⟨[0,c],.row true 5 (t.out.map xE)⟩ else if k=1048578 then some ⟨[1,0],.row false 6 [.agg ([.lst false 3 (all.map encT),i0 ((all.length:Int)-t.ts.length),i0 t.deep] ++ .slc 1048577 [0,c] 0 (t.out.map xE).length::[i0 (badE t),i0 (badP t)])]⟩ else none:=by
  intro c k
  unfold xS xHp
  simp only [hpL]
  rw [zaad,zaad,zaax];rfl
 refine FOk.ren (l:=1048577) (lp:=1048578) (r:=⟨i0 v,xS 0 all t,ws⟩) (i:=[0,0]) (i':=[0,1]) (ip:=[1,0]) rfl ((hg 0 _).trans (if_pos rfl)) ((hg 0 _).trans ((if_neg (by decide)).trans (if_pos rfl))) ?_ rfl rfl ⟨[0],rfl⟩ (by decide) (by decide) (hg 1) ?_ ?_ ?_ h
 · intro k e hk
   have hk:=(hg 0 k).symm.trans hk
   split at hk
   · exact .inl ‹_›
   · split at hk
     · exact .inr ‹_›
     · cases hk
 · intro k hk
   rcases hw k hk with rfl|rfl<;>decide
 · decide
 · decide
abbrev fLv:Lv->Nat
 | .expr=>zaap
 | .term=>zaaY
 | .part=>zaaU
 | .ranged=>zaat
 | .atom=>zaac
def LvOk (all:List Tk)(f:Nat)(lv:Lv)(s:RS):Prop:=FOk Tryz.prog gl0 (fLv lv) [xArg] (xS 0 all s) ⟨i0 (RP f lv s).1,xS 1 all (RP f lv s).2,[1048577,1048578]⟩
abbrev IH (all:List Tk)(f:Nat):Prop:=∀ (lv:Lv) (s:RS),XInv all s->s.bad=none->s.deep<=24->5*s.ts.length+offL lv<=f->LvOk all f lv s
theorem zaDT (k a:Int)(x:ByteArray):zaaF (Cx.B (cxV XB 14 zaaU)) shN 124 (.agg [i0 k,i0 a,s0 x])=true:=by kernel_rfl
attribute [local irreducible] runF in
theorem zare {f:Nat}(ih:IH all f)(h:XInv all s)(hb:s.bad=none)(hd:s.deep<=24)(hf:5*s.ts.length+3<=f+1):LvOk all (f+1) .part s:=by
 unfold LvOk
 obtain ⟨t1,t2,t3⟩:=zanv h (AV.lit (Value.tuple ⟨[]⟩))
 have hI:=zarf h 10
 rw [zabD hb] at hI ⊢
 rw [RP]
 cases hi:isR 10 s with
 | false =>
  rw [hi] at hI
  have hr:LvOk all f .ranged s:=ih .ranged s h hb hd (by show _+2<=_;omega)
  unfold LvOk at hr
  rw [zabD hb] at hr
  simp only [Bool.false_eq_true,if_false]
  have q:gPaR _ _ _ _ _ _ _ _ _ _ _:=(zay1 (all.map encT) ((all.length:Int)-s.ts.length) s.deep (s.out.map xE) ((all.length:Int)-(RP f .ranged s).2.ts.length) (RP f .ranged s).2.deep ((RP f .ranged s).2.out.map xE) (badE (RP f .ranged s).2) (badP (RP f .ranged s).2) (RP f .ranged s).1).mpr
   ⟨(),⟨trivial,.refl _,rfl⟩,rfl,(),⟨trivial,.refl _,rfl⟩,.refl _,.rfl⟩
  have hX:=((zaaR.add (con1 hI)).add (con1 (f:=zaat) hr))
  exact zade (d:=14) ((hX.ask askX).askAt zaaU [17,19]) (f:=zaaU) (fn:=fn zaaU) (code:=code zaaU) (fnOk zaaU (by kernel_rfl)) (by kernel_rfl) (by kernel_rfl) q
 | true =>
  rw [hi] at hI
  have hk:(zaab s.ts).kind≠11:=by rw [(zaaA hi).2];decide
  have hD:=zah6 h hk
  simp only [if_true]
  have tok:∀ B:Tb,B=Cx.B (cxV XB 14 zaaU)->(decide ((0:Int)<=(all.length:Int)-s.ts.length/\(all.length:Int)-s.ts.length<((all.map encT).length:Int))&&(Nat.beq 3 3&&(zaaF B shN 124 ((all.map encT).getD ((all.length:Int)-s.ts.length).toNat (AV.lit (Value.tuple ⟨[]⟩)))&&(true||false))))=true:=by
   intro B hB
   subst hB
   rw [t1,decide_eq_true ⟨t2,t3⟩]
   show (true&&(true&&(zaaF _ shN 124 (.agg [i0 _,i0 _,s0 _])&&(true||false))))=true
   rw [zaDT];rfl
  by_cases h24:24<=s.deep
  · have e:downR s=(false,zaa1 16 s):=if_pos h24
    rw [e] at hD ⊢
    simp only [Bool.false_eq_true,if_false]
    rw [zabD hb] at hD
    have hD':=hD
    rw [zacy] at hD'
    have q:gPaN _ _ _ _ _ _ _:=(zay2 (all.map encT) ((all.length:Int)-s.ts.length) s.deep (s.out.map xE) (badE (zaa1 16 s)) (badP (zaa1 16 s))).mpr
      ⟨(),⟨trivial,.refl _,rfl⟩,rfl,tok _ rfl,(),⟨trivial,.refl _,rfl⟩,rfl,.refl _,.rfl⟩
    have hX:=((zaaR.add (con1 hI)).add (con1 (f:=zaar) hD'))
    have g:=zade (d:=14) ((hX.ask askX).askAt zaaU [17,19]) (f:=zaaU) (fn:=fn zaaU) (code:=code zaaU) (fnOk zaaU (by kernel_rfl)) (by kernel_rfl) (by kernel_rfl) q
    refine xRen (t:=zaa1 16 s) (v:=0) (ws:=[1048577,1048578]) ?_ (by intro k hk;simpa using hk)
    rw [zacy]
    exact g
  · have e:downR s=(true,{ s with deep:=s.deep+1,ts:=zaal s.ts }):=if_neg h24
    rw [e] at hD ⊢
    simp only [if_true]
    have g0:RI 0 0 s s := .refl h.ok h.bad
    have gu:=g0.down hk
    generalize hu:({ s with deep:=s.deep+1,ts:=zaal s.ts }:RS)=u at hD gu ⊢
    have ub:u.bad=none:=by rw [<-hu];exact hb
    have ul:u.ts.length+1=s.ts.length:=by rw [<-hu];exact zabo h.ok hk
    have ud:u.deep=s.deep+1:=by rw [<-hu]
    have uo:u.out=s.out:=by rw [<-hu]
    have uI:XInv all u:=by
      have:=h.lo
      have:=h.d0
      exact ⟨gu.suf.trans h.suf,gu.ok,gu.bad,by omega,by omega,h.la,by rw [uo];omega⟩
    have hp:LvOk all f .part u:=ih .part u uI ub (by omega) (by show _+3<=_;omega)
    have gp:=zadQ f .part u uI.ok uI.bad
    have gz:RI 1 0 s (upR (RP f .part u).2):=RI.up (k:=0) (gu.trans ub gp)
    unfold LvOk at hp
    rw [zabD ub] at hp hD
    rw [zabD hb] at hD
    generalize RP f .part u=q at hp gp gz ⊢
    have zI:XInv all (upR q.2):=h.of_RI hd gz
    have hA:=zakS zI ⟨5,(zaab s.ts).at_,0,ByteArray.empty,[q.1]⟩
    have dq:inR .i64 (q.2.deep-1)=true:=by
      have:=zI.d0;have:=zI.d1
      exact zaag (by show _<=(upR q.2).deep;omega) (by show (upR q.2).deep<_;omega)
    have lm:(q.2.out.map xE).length=q.2.out.length:=List.length_map ..
    have hA':FOk Tryz.prog gl0 zabN (xArg::[rgV 5 (zaab s.ts).at_ 0 ByteArray.empty [i0 (q.1:Int)]]) (xHp 0 (all.map encT) ((all.length:Int)-q.2.ts.length) (q.2.deep-1) (q.2.out.map xE) (badE q.2) (badP q.2))
        ⟨i0 ((q.2.out.map xE).length:Int),xHp 1 (all.map encT) ((all.length:Int)-q.2.ts.length) (q.2.deep-1) (q.2.out.map xE++[rgV 5 (zaab s.ts).at_ 0 ByteArray.empty [i0 (q.1:Int)]]) (badE q.2) (badP q.2),[1048577,1048578]⟩:=by
      rw [lm]
      have hA2:FOk Tryz.prog gl0 zabN (xArg::[rgV 5 (zaab s.ts).at_ 0 ByteArray.empty [i0 (q.1:Int)]]) (xHp 0 (all.map encT) ((all.length:Int)-q.2.ts.length) (q.2.deep-1) (q.2.out.map xE) (badE q.2) (badP q.2))
        ⟨i0 (q.2.out.length:Int),xHp 1 (all.map encT) ((all.length:Int)-q.2.ts.length) (q.2.deep-1) ((q.2.out++[(⟨5,(zaab s.ts).at_,0,ByteArray.empty,[q.1]⟩:RN)]).map xE) (badE q.2) (badP q.2),[1048577,1048578]⟩:=hA
      rw [List.map_append] at hA2
      exact hA2
    have hD2:FOk Tryz.prog gl0 zaar [xArg] (xHp 0 (all.map encT) ((all.length:Int)-s.ts.length) s.deep (s.out.map xE) 0 0) ⟨b0 true,xHp 0 (all.map encT) ((all.length:Int)-u.ts.length) (s.deep+1) (s.out.map xE) 0 0,[1048578]⟩:=by
      rw [ud,uo] at hD;exact hD
    have hP2:FOk Tryz.prog gl0 zaaU [xArg] (xHp 0 (all.map encT) ((all.length:Int)-u.ts.length) (s.deep+1) (s.out.map xE) 0 0) ⟨i0 (q.1:Int),xHp 1 (all.map encT) ((all.length:Int)-q.2.ts.length) q.2.deep (q.2.out.map xE) (badE q.2) (badP q.2),[1048577,1048578]⟩:=by
      rw [ud,uo] at hp;exact hp
    have hX:=(((zaaR.add (con1 hI)).add (con1 (f:=zaar) hD2)).add (con1 (f:=zaaU) hP2)).add (con1 (f:=zabN) hA')
    have z:gPaY _ _ _ _ _ _ _ _ _ _ _ _ _:=(zay0 (all.map encT) ((all.length:Int)-s.ts.length) s.deep (s.out.map xE) ((all.length:Int)-u.ts.length) ((all.length:Int)-q.2.ts.length) q.2.deep (q.2.out.map xE) (badE q.2) (badP q.2) q.1 (zaab s.ts).at_).mpr (by
      refine ⟨(),⟨trivial,.refl _,rfl⟩,rfl,tok _ rfl,(),⟨trivial,.refl _,rfl⟩,rfl,(),⟨trivial,.refl _,rfl⟩,dq,(),⟨trivial,?_,rfl⟩,.refl _,.rfl⟩
      rw [t1]
      exact .cons (.refl _) (.cons (.agg (.cons (.refl _) (.cons (.refl _) (.cons (.refl _) (.cons (.refl _) (.cons .lst .nil)))))) .nil))
    have g:=zade (d:=14) ((hX.ask askX).askAt zaaU [17,19]) (f:=zaaU) (fn:=fn zaaU) (code:=code zaaU) (fnOk zaaU (by kernel_rfl)) (by kernel_rfl) (by kernel_rfl) z
    show FOk _ _ _ _ _ ⟨i0 (q.2.out.length:Int),xHp 1 _ ((all.length:Int)-q.2.ts.length) (q.2.deep-1) ((q.2.out++[(⟨5,(zaab s.ts).at_,0,ByteArray.empty,[q.1]⟩:RN)]).map xE) (badE q.2) (badP q.2),_⟩
    rw [List.map_append,<-lm]
    exact g
variable {f:Nat} {all:List Tk} {s:RS}
theorem conC {ys:List AV}{σ:Hp}{r:Back}{l:List Sp}(h:FOk Tryz.prog gl0 f (xArg::ys) σ r)(k:zagZ Tryz.prog gl0 f (Sp.con l)):zagZ Tryz.prog gl0 f (Sp.con (spX ys σ r::l)):=by
 intro xs' σ' a ha i hp
 rcases List.mem_cons.1 ha with rfl|ha
 · exact con1 h xs' σ' _ (List.mem_singleton.2 rfl) i hp
 · exact k xs' σ' a ha i hp
abbrev xQ (c:Nat)(all:List Tk)(t:RS)(k d:Int):Hp:=xHp c (all.map encT) k d (t.out.map xE) (badE t) (badP t)
abbrev plc (all:List Tk)(t:RS):Int:=(all.length:Int)-t.ts.length
theorem zabP (h:XInv all s):∀ B:Tb,B=Cx.B (cxV XB 14 zaaU)->(decide ((0:Int)<=plc all s/\plc all s<((all.map encT).length:Int))&&(Nat.beq 3 3&&(zaaF B shN 124 ((all.map encT).getD (plc all s).toNat (AV.lit (Value.tuple ⟨[]⟩)))&&(true||false))))=true:=by
 obtain ⟨t1,t2,t3⟩:=zanv h (AV.lit (Value.tuple ⟨[]⟩))
 intro B hB
 subst hB
 rw [t1,decide_eq_true ⟨t2,t3⟩]
 show (true&&(true&&(zaaF _ shN 124 (.agg [i0 _,i0 _,s0 _])&&(true||false))))=true
 rw [zaDT];rfl
theorem zah4 {z:RS}(h:XInv all z)(k a:Int)(ps:List Nat) :
  FOk Tryz.prog gl0 zabN (xArg::[rgV k a 0 ByteArray.empty (ps.map fun j:Nat=>i0 (j:Int))]) (xQ 0 all z (plc all z) z.deep)
   ⟨i0 ((z.out.map xE).length:Int),xHp 1 (all.map encT) (plc all z) z.deep (z.out.map xE++[rgV k a 0 ByteArray.empty (ps.map fun j:Nat=>i0 (j:Int))]) (badE z) (badP z),[1048577,1048578]⟩:=by
 have lm:(z.out.map xE).length=z.out.length:=List.length_map ..
 rw [lm]
 have hA2:FOk Tryz.prog gl0 zabN (xArg::[rgV k a 0 ByteArray.empty (ps.map fun j:Nat=>i0 (j:Int))]) (xQ 0 all z (plc all z) z.deep)
   ⟨i0 (z.out.length:Int),xHp 1 (all.map encT) (plc all z) z.deep ((z.out++[(⟨k,a,0,ByteArray.empty,ps⟩:RN)]).map xE) (badE z) (badP z),[1048577,1048578]⟩:=zakS h ⟨k,a,0,ByteArray.empty,ps⟩
 rw [List.map_append] at hA2
 exact hA2
theorem zakN {σ:Hp} (z:RS) (k a:Int) (ps:List Nat)
  (h:FOk Tryz.prog gl0 f [xArg] σ ⟨i0 ((z.out.map xE).length:Int),xHp 1 (all.map encT) (plc all z) z.deep (z.out.map xE++[rgV k a 0 ByteArray.empty (ps.map fun j:Nat=>i0 (j:Int))]) (badE z) (badP z),[1048577,1048578]⟩) :
  FOk Tryz.prog gl0 f [xArg] σ ⟨i0 ((addR ⟨k,a,0,ByteArray.empty,ps⟩ z).1:Int),xS 1 all (addR ⟨k,a,0,ByteArray.empty,ps⟩ z).2,[1048577,1048578]⟩:=by
 show FOk _ _ _ _ _ ⟨i0 (z.out.length:Int),xHp 1 _ (plc all z) z.deep ((z.out++[(⟨k,a,0,ByteArray.empty,ps⟩:RN)]).map xE) (badE z) (badP z),_⟩
 have lm:(z.out.map xE).length=z.out.length:=List.length_map ..
 rw [List.map_append,<-lm]
 exact h
theorem zanw (h:XInv all s)(hb:s.bad=none)(hk:(zaab s.ts).kind≠11)(h24:¬24<=s.deep) :
  ∃ u,downR s=(true,u)/\RI 1 1 s u/\XInv all u/\u.bad=none/\u.deep=s.deep+1/\u.deep<=24/\u.ts.length+1=s.ts.length/\u.out=s.out /\
   FOk Tryz.prog gl0 zaar [xArg] (xHp 0 (all.map encT) (plc all s) s.deep (s.out.map xE) 0 0) ⟨b0 true,xHp 0 (all.map encT) (plc all u) (s.deep+1) (s.out.map xE) 0 0,[1048578]⟩:=by
 have hD:=zah6 h hk
 have e:downR s=(true,{ s with deep:=s.deep+1,ts:=zaal s.ts }):=if_neg h24
 rw [e,zabD hb] at hD
 have g0:RI 0 0 s s := .refl h.ok h.bad
 have gu:=g0.down hk
 have:=h.lo
 have:=h.d0
 have ul:=zabo h.ok hk
 have hD2:=hD
 rw [show xS 0 all (true,({ s with deep:=s.deep+1,ts:=zaal s.ts }:RS)).2=_ from zabD (s:={ s with deep:=s.deep+1,ts:=zaal s.ts }) hb 0] at hD2
 exact ⟨_,e,gu,⟨gu.suf.trans h.suf,gu.ok,gu.bad,by show 0<=s.deep+1;omega,by show s.deep+1<=26;omega,h.la,by show s.out.length+(zaal s.ts).length<=_;omega⟩,hb,rfl,by show s.deep+1<=24;omega,ul,rfl,hD2⟩
theorem zai3 (h:XInv all s)(hb:s.bad=none)(hk:(zaab s.ts).kind≠11)(h24:24<=s.deep) :
  downR s=(false,zaa1 16 s)/\FOk Tryz.prog gl0 zaar [xArg] (xHp 0 (all.map encT) (plc all s) s.deep (s.out.map xE) 0 0) ⟨b0 false,xHp 0 (all.map encT) (plc all s) s.deep (s.out.map xE) (badE (zaa1 16 s)) (badP (zaa1 16 s)),[1048578]⟩:=by
 have e:downR s=(false,zaa1 16 s):=if_pos h24
 have hD:=zah6 h hk
 rw [e,zabD hb] at hD
 rw [show xS 0 all (false,zaa1 16 s).2=_ from zacy 0 all 16 s] at hD
 exact ⟨e,hD⟩
theorem zauL (h:XInv all s){c:Int}{b:Bool}(hi:isR c s=b):FOk Tryz.prog gl0 fXIs [xArg,i0 c] (xQ 0 all s (plc all s) s.deep) ⟨b0 b,xQ 0 all s (plc all s) s.deep,[]⟩:=by
 have:=zarf h c
 rw [hi] at this;exact this
theorem bad0 (hb:s.bad=none):badE s=0/\badP s=0:=by unfold badE badP;rw [hb];exact ⟨rfl,rfl⟩
theorem zafG (h:XInv all s)(hb:s.bad=none){c:Int}{b:Bool}(hi:isR c s=b):FOk Tryz.prog gl0 fXIs [xArg,i0 c] (xHp 0 (all.map encT) (plc all s) s.deep (s.out.map xE) 0 0) ⟨b0 b,xHp 0 (all.map encT) (plc all s) s.deep (s.out.map xE) 0 0,[]⟩:=by
 have:=zauL h hi
 unfold xQ at this
 rw [(bad0 hb).1,(bad0 hb).2] at this;exact this
theorem x_lv {lv:Lv}(hb:s.bad=none)(h:LvOk all f lv s):FOk Tryz.prog gl0 (fLv lv) [xArg] (xHp 0 (all.map encT) (plc all s) s.deep (s.out.map xE) 0 0) ⟨i0 (RP f lv s).1,xQ 1 all (RP f lv s).2 (plc all (RP f lv s).2) (RP f lv s).2.deep,[1048577,1048578]⟩:=by
 unfold LvOk at h
 rw [zabD hb] at h;exact h
theorem deepI {t:RS}(h:XInv all (upR t)):inR .i64 (t.deep-1)=true:=by
 have d0:0<=t.deep-1:=h.d0
 have d1:t.deep-1<=26:=h.d1
 exact zaag (by omega) (by omega)
theorem zaed (all:List Tk)(h:XInv all s)(k:Int)(ps:List AV):Wks [xArg,.agg [i0 k,i0 (intA (nthA 1 ((all.map encT).getD (plc all s).toNat (AV.lit (Value.tuple ⟨[]⟩))))),i0 0,s0 ⟨⟨[]⟩⟩,.lst true 1 ps]] [xArg,rgV k (zaab s.ts).at_ 0 ByteArray.empty ps]:=by
 obtain ⟨t1,_,_⟩:=zanv h (AV.lit (Value.tuple ⟨[]⟩))
 rw [show (all.map encT).getD (plc all s).toNat (AV.lit (Value.tuple ⟨[]⟩))=_ from t1]
 exact .cons (.refl _) (.cons (.agg (.cons (.refl _) (.cons (.refl _) (.cons (.refl _) (.cons (.refl _) (.cons .lst .nil)))))) .nil)
attribute [local irreducible] runF in
theorem zarc {f:Nat}{all:List Tk}(ih:IH all f){s:RS}(h:XInv all s)(hb:s.bad=none)(hd:s.deep<=24)(hf:5*s.ts.length+2<=f+1):LvOk all (f+1) .ranged s:=by
 unfold LvOk
 rw [zabD hb,RP]
 have fin:∀ {X:WX} (hX:X.Sound) (hp:X.px=X0) {os:Orc} {fc:List Nat} {r:Back},runF (XQn X zaat [17,19,50,52,91,93]) 14 zaat (fn zaat) (code zaat) os 0 fc [xArg] (xHp 0 (all.map encT) (plc all s) s.deep (s.out.map xE) 0 0) r ->
   FOk Tryz.prog gl0 zaat [xArg] (xHp 0 (all.map encT) (plc all s) s.deep (s.out.map xE) 0 0) r:=by
  intro X hX hp os fc r g
  have hP:X.px.P=Tryz.prog:=by rw [hp];rfl
  have hg:X.px.gl=gl0:=by rw [hp];rfl
  have:=zade (X:=XQn X zaat [17,19,50,52,91,93]) (d:=14) ((hX.ask askX).askAt zaat _) (f:=zaat) (fn:=fn zaat) (code:=code zaat) (by show X.px.P.funcs[zaat]?=_;rw [hP];exact fnOk zaat (by kernel_rfl)) (by kernel_rfl) (by kernel_rfl) g
  rw [<-hg,<-hP];exact this
 cases hi:isR 5 s with
 | true =>
  have hk:(zaab s.ts).kind≠11:=by rw [(zaaA hi).2];decide
  simp only [if_true]
  by_cases h24:24<=s.deep
  · obtain ⟨e,hD⟩:=zai3 h hb hk h24
    rw [e]
    simp only [Bool.false_eq_true,if_false]
    have q:zaFT _ _ _ _ _ _ _:=(zatj (all.map encT) (plc all s) s.deep (s.out.map xE) (badE (zaa1 16 s)) (badP (zaa1 16 s))).mpr
      ⟨(),⟨trivial,.refl _,rfl⟩,rfl,zabP h _ rfl,(),⟨trivial,.refl _,rfl⟩,rfl,.refl _,.rfl⟩
    have g:=fin ((zaaR.add (con1 (zafG h hb hi))).add (con1 (f:=zaar) hD)) rfl q
    refine xRen (t:=zaa1 16 s) (v:=0) (ws:=[1048577,1048578]) ?_ (by intro k hk;simpa using hk)
    rw [zacy]
    exact g
  · obtain ⟨u,e,gu,uI,ub,ud,ud24,ul,uo,hD⟩:=zanw h hb hk h24
    rw [e]
    simp only [if_true]
    have ha:=x_lv ub (ih .atom u uI ub ud24 (by show _+1<=_;omega))
    have gz:RI 1 0 s (upR (RP f .atom u).2):=RI.up (k:=0) (gu.trans ub (zadQ f .atom u uI.ok uI.bad))
    rw [ud,uo] at ha
    generalize RP f .atom u=q at ha gz ⊢
    have zI:XInv all (upR q.2):=h.of_RI hd gz
    have z:zaFS _ _ _ _ _ _ _ _ _ _ _ _ _:=(zati (all.map encT) (plc all s) s.deep (s.out.map xE) (plc all u) (plc all q.2) q.2.deep (q.2.out.map xE) (badE q.2) (badP q.2) q.1 (zaab s.ts).at_).mpr
      ⟨(),⟨trivial,.refl _,rfl⟩,rfl,zabP h _ rfl,(),⟨trivial,.refl _,rfl⟩,rfl,(),⟨trivial,.refl _,rfl⟩,deepI zI,(),⟨trivial,zaed all h 6 _,rfl⟩,.refl _,.rfl⟩
    exact zakN (upR q.2) 6 _ [q.1] (fin ((((zaaR.add (con1 (zafG h hb hi))).add (con1 (f:=zaar) hD)).add (con1 (f:=zaac) ha)).add (con1 (zah4 zI 6 (zaab s.ts).at_ [q.1]))) rfl z)
 | false =>
  simp only [Bool.false_eq_true,if_false]
  have ha:=x_lv hb (ih .atom s h hb hd (by show _+1<=_;omega))
  have ga:=zadQ f .atom s h.ok h.bad
  generalize hA:RP f .atom s=A at ha ga ⊢
  have AI:XInv all A.2:=h.of_RI hd ga
  have al:A.2.ts.length<=s.ts.length:=ga.suf.length_le
  have hS:=zafG h hb hi
  cases h5:isR 5 A.2 with
  | false =>
   simp only [Bool.false_eq_true,if_false]
   cases h6:isR 6 A.2 with
   | false =>
    simp only [Bool.false_eq_true,if_false]
    have q:gRaA _ _ _ _ _ _ _ _ _ _ _:=(zayZ (all.map encT) (plc all s) s.deep (s.out.map xE) (plc all A.2) A.2.deep (A.2.out.map xE) (badE A.2) (badP A.2) A.1).mpr
     ⟨(),⟨trivial,.refl _,rfl⟩,rfl,(),⟨trivial,.refl _,rfl⟩,(),⟨trivial,.refl _,rfl⟩,rfl,(),⟨trivial,.refl _,rfl⟩,rfl,.refl _,.rfl⟩
    exact fin ((zaaR.add (conC hS (conC (zauL AI h5) (con1 (zauL AI h6))))).add (con1 (f:=zaac) ha)) rfl q
   | true =>
    simp only [if_true]
    have Ab:=(zaaA h6).1
    have hk:(zaab A.2.ts).kind≠11:=by rw [(zaaA h6).2];decide
    have gt:=ga.take hk
    have TI:XInv all (zaaI A.2):=h.of_RI hd gt
    have Ad:A.2.deep<=24:=by have:=ga.dn Ab;omega
    have tl:(zaaI A.2).ts.length+1=A.2.ts.length:=zabo AI.ok hk
    have hq:=x_lv (s:=zaaI A.2) Ab (ih .atom (zaaI A.2) TI Ab Ad (by show _+1<=_;omega))
    have gz:RI 1 0 s (RP f .atom (zaaI A.2)).2:=gt.trans Ab (zadQ f .atom _ TI.ok TI.bad)
    rw [show plc all (zaaI A.2)=plc all A.2+1 from zag4 AI hk] at hq
    generalize RP f .atom (zaaI A.2)=q at hq gz ⊢
    have zI:XInv all q.2:=h.of_RI hd gz
    unfold xQ at ha
    rw [(bad0 Ab).1,(bad0 Ab).2] at ha
    have z:gRaO _ _ _ _ _ _ _ _ _ _ _ _ _ _ _ _:=(zayY (all.map encT) (plc all s) s.deep (s.out.map xE) (plc all A.2) A.2.deep (A.2.out.map xE) A.1 (plc all q.2) q.2.deep (q.2.out.map xE) (badE q.2) (badP q.2) q.1 (zaab A.2.ts).at_).mpr
     ⟨(),⟨trivial,.refl _,rfl⟩,rfl,(),⟨trivial,.refl _,rfl⟩,(),⟨trivial,.refl _,rfl⟩,rfl,(),⟨trivial,.refl _,rfl⟩,rfl,zabP AI _ rfl,x_in AI,(),⟨trivial,.refl _,rfl⟩,(),⟨trivial,zaed all AI 9 _,rfl⟩,.refl _,.rfl⟩
    exact zakN q.2 9 _ [A.1,q.1] (fin (((zaaR.add (conC hS (conC (zafG AI Ab h5) (con1 (zafG AI Ab h6))))).add (conC (f:=zaac) ha (con1 (f:=zaac) hq))).add (con1 (zah4 zI 9 (zaab A.2.ts).at_ [A.1,q.1]))) rfl z)
  | true =>
   simp only [if_true]
   have Ab:=(zaaA h5).1
   have hk:(zaab A.2.ts).kind≠11:=by rw [(zaaA h5).2];decide
   have Ad:A.2.deep<=24:=by have:=ga.dn Ab;omega
   unfold xQ at ha
   rw [(bad0 Ab).1,(bad0 Ab).2] at ha
   have hI:=zafG AI Ab h5
   by_cases h24:24<=A.2.deep
   · obtain ⟨e,hD⟩:=zai3 AI Ab hk h24
     rw [e]
     simp only [Bool.false_eq_true,if_false]
     have q:zaFW _ _ _ _ _ _ _ _ _ _ _:=(zatm (all.map encT) (plc all s) s.deep (s.out.map xE) (plc all A.2) A.2.deep (A.2.out.map xE) A.1 (badE (zaa1 16 A.2)) (badP (zaa1 16 A.2))).mpr
       ⟨(),⟨trivial,.refl _,rfl⟩,rfl,(),⟨trivial,.refl _,rfl⟩,(),⟨trivial,.refl _,rfl⟩,rfl,zabP AI _ rfl,(),⟨trivial,.refl _,rfl⟩,rfl,.refl _,.rfl⟩
     have g:=fin (((zaaR.add (conC hS (con1 hI))).add (con1 (f:=zaac) ha)).add (con1 (f:=zaar) hD)) rfl q
     show FOk _ _ _ _ _ ⟨i0 0,xS 1 all (zaa1 16 A.2),_⟩
     rw [zacy]
     exact g
   · obtain ⟨u,e,gu,uI,ub,ud,ud24,ul,uo,hD⟩:=zanw AI Ab hk h24
     rw [e]
     simp only [if_true]
     have gsu:RI 1 1 s u:=ga.trans Ab gu
     have hu2:=fun b=>zafG uI ub (c:=2) (b:=b)
     have hu1:=fun b=>zafG uI ub (c:=1) (b:=b)
     rw [ud,uo] at hu2 hu1
     by_cases hor:(isR 2 u||isR 1 u)=true
     · simp only [hor,if_true]
       have hq:=x_lv ub (ih .atom u uI ub ud24 (by show _+1<=_;omega))
       have gz:RI 1 0 s (upR (RP f .atom u).2):=RI.up (k:=0) (gsu.trans ub (zadQ f .atom u uI.ok uI.bad))
       rw [ud,uo] at hq
       generalize RP f .atom u=q at hq gz ⊢
       have zI:XInv all (upR q.2):=h.of_RI hd gz
       have hadd:=con1 (zah4 zI 8 (zaab A.2.ts).at_ [A.1,q.1])
       cases h2:isR 2 u with
       | true =>
         have z:zaFV _ _ _ _ _ _ _ _ _ _ _ _ _ _ _ _ _:=(zatl (all.map encT) (plc all s) s.deep (s.out.map xE) (plc all A.2) A.2.deep (A.2.out.map xE) A.1 (plc all u) (plc all q.2) q.2.deep (q.2.out.map xE) (badE q.2) (badP q.2) q.1 (zaab A.2.ts).at_).mpr
           ⟨(),⟨trivial,.refl _,rfl⟩,rfl,(),⟨trivial,.refl _,rfl⟩,(),⟨trivial,.refl _,rfl⟩,rfl,zabP AI _ rfl,(),⟨trivial,.refl _,rfl⟩,rfl,(),⟨trivial,.refl _,rfl⟩,rfl,rfl,rfl,(),⟨trivial,.refl _,rfl⟩,deepI zI,(),⟨trivial,zaed all AI 8 _,rfl⟩,.refl _,.rfl⟩
         exact zakN (upR q.2) 8 _ [A.1,q.1] (fin ((((zaaR.add (conC hS (conC hI (con1 (hu2 true h2))))).add (conC (f:=zaac) ha (con1 (f:=zaac) hq))).add (con1 (f:=zaar) hD)).add hadd) rfl z)
       | false =>
         have h1:isR 1 u=true:=by rw [h2] at hor;exact hor
         have z:zaFU _ _ _ _ _ _ _ _ _ _ _ _ _ _ _ _ _:=(zatk (all.map encT) (plc all s) s.deep (s.out.map xE) (plc all A.2) A.2.deep (A.2.out.map xE) A.1 (plc all u) (plc all q.2) q.2.deep (q.2.out.map xE) (badE q.2) (badP q.2) q.1 (zaab A.2.ts).at_).mpr
           ⟨(),⟨trivial,.refl _,rfl⟩,rfl,(),⟨trivial,.refl _,rfl⟩,(),⟨trivial,.refl _,rfl⟩,rfl,zabP AI _ rfl,(),⟨trivial,.refl _,rfl⟩,rfl,(),⟨trivial,.refl _,rfl⟩,rfl,rfl,(),⟨trivial,.refl _,rfl⟩,rfl,(),⟨trivial,.refl _,rfl⟩,deepI zI,(),⟨trivial,zaed all AI 8 _,rfl⟩,.refl _,.rfl⟩
         exact zakN (upR q.2) 8 _ [A.1,q.1] (fin ((((zaaR.add (conC hS (conC hI (conC (hu2 false h2) (con1 (hu1 true h1)))))).add (conC (f:=zaac) ha (con1 (f:=zaac) hq))).add (con1 (f:=zaar) hD)).add hadd) rfl z)
     · simp only [hor,if_false]
       have h2:isR 2 u=false:=by cases g:isR 2 u with|false=>rfl|true=>rw [g] at hor;exact absurd rfl hor
       have h1:isR 1 u=false:=by rw [h2] at hor;cases g:isR 1 u with|false=>rfl|true=>rw [g] at hor;exact absurd rfl hor
       have zI:XInv all (upR u):=h.of_RI hd (RI.up (k:=0) gsu)
       have hadd:=zah4 zI 7 (zaab A.2.ts).at_ [A.1]
       have eb:=bad0 ub
       have hadd2:FOk Tryz.prog gl0 zabN (xArg::[rgV 7 (zaab A.2.ts).at_ 0 ByteArray.empty [i0 (A.1:Int)]]) (xHp 0 (all.map encT) (plc all u) (A.2.deep+1-1) (A.2.out.map xE) 0 0)
           ⟨i0 ((A.2.out.map xE).length:Int),xHp 1 (all.map encT) (plc all u) (A.2.deep+1-1) (A.2.out.map xE++[rgV 7 (zaab A.2.ts).at_ 0 ByteArray.empty [i0 (A.1:Int)]]) 0 0,[1048577,1048578]⟩:=by
         have hadd':FOk Tryz.prog gl0 zabN (xArg::[rgV 7 (zaab A.2.ts).at_ 0 ByteArray.empty [i0 (A.1:Int)]]) (xHp 0 (all.map encT) (plc all u) (u.deep-1) (u.out.map xE) (badE u) (badP u))
           ⟨i0 ((u.out.map xE).length:Int),xHp 1 (all.map encT) (plc all u) (u.deep-1) (u.out.map xE++[rgV 7 (zaab A.2.ts).at_ 0 ByteArray.empty [i0 (A.1:Int)]]) (badE u) (badP u),[1048577,1048578]⟩:=hadd
         rw [eb.1,eb.2,uo,ud] at hadd'
         exact hadd'
       have z:zaFX _ _ _ _ _ _ _ _ _ _ _:=(zatn (all.map encT) (plc all s) s.deep (s.out.map xE) (plc all A.2) A.2.deep (A.2.out.map xE) A.1 (plc all u) (zaab A.2.ts).at_).mpr
         ⟨(),⟨trivial,.refl _,rfl⟩,rfl,(),⟨trivial,.refl _,rfl⟩,(),⟨trivial,.refl _,rfl⟩,rfl,zabP AI _ rfl,(),⟨trivial,.refl _,rfl⟩,rfl,(),⟨trivial,.refl _,rfl⟩,rfl,rfl,(),⟨trivial,.refl _,rfl⟩,rfl,by have:=deepI zI;rw [ud] at this;exact this,(),⟨trivial,zaed all AI 7 _,rfl⟩,.refl _,.rfl⟩
       have g:=fin ((((zaaR.add (conC hS (conC hI (conC (hu2 false h2) (con1 (hu1 false h1)))))).add (con1 (f:=zaac) ha)).add (con1 (f:=zaar) hD)).add (con1 hadd2)) rfl z
       refine zakN (upR u) 7 _ [A.1] ?_
       show FOk _ _ _ _ _ ⟨i0 ((u.out.map xE).length:Int),xHp 1 _ (plc all u) (u.deep-1) (u.out.map xE++[rgV 7 _ 0 ByteArray.empty [i0 (A.1:Int)]]) (badE u) (badP u),_⟩
       rw [eb.1,eb.2,uo,ud]
       exact g
def zaGq (os:Orc)(w:ByteArray)(r:AV):Prop:=gF XB [zabe] zabe os [s0 w] r
end
end Go.Proofs.YtpofhijgccocpaaGreatDoor
end
section
namespace Go.Proofs.YtpofhijgccocpaaGreatDoor
open Go Go.AS Go.TP
def zaxe:Orc:=Orc.s (Orc.t Orc.z) (Orc.s (Orc.t Orc.z) (Orc.s Orc.z (Orc.s (Orc.t Orc.z) (Orc.s (Orc.t Orc.z) (Orc.s (Orc.t Orc.z) (Orc.s (Orc.t Orc.z) (Orc.s (Orc.t Orc.z) (Orc.s Orc.z (Orc.s (Orc.t Orc.z) (Orc.s (Orc.t Orc.z) (Orc.s Orc.z Orc.z)))))))))))
theorem zaua (w:ByteArray)(r:AV):zaGq zaxe w r=(let z1:=(AV.tup [i0 1,b0 false]);let z2:=(ByteArray.toList w==ByteArray.toList zabQ);let z3:=(ByteArray.toList w==ByteArray.toList zacm);let z4:=(ByteArray.toList w==ByteArray.toList zadp);let z5:=(ByteArray.toList w==ByteArray.toList zafl);let z6:=(ByteArray.toList w==ByteArray.toList zafk);let z7:=(ByteArray.toList w==ByteArray.toList zaen);let z8:=(ByteArray.toList w==ByteArray.toList zaem);let z9:=(AV.tup [i0 0,b0 false]);let z10:=(ByteArray.toList w==ByteArray.toList zai6);let z11:=(ByteArray.toList w==ByteArray.toList zak0);let z12:=(ByteArray.toList w==ByteArray.toList zakB);let z13:=(ByteArray.toList w==ByteArray.toList wAll);let z14:=(ByteArray.toList w==ByteArray.toList wAnc);let z15:=(AV.tup [i0 1,b0 true]);(z13=true->Yt (Wk z9 r/\S0))/\(z13=false->(z10=true->Yt (Wk z9 r/\S0))/\(z10=false->(z4=true->Wk z9 r/\S0)/\(z4=false->(z3=true->Yt (Wk z1 r/\S0))/\(z3=false->(z2=true->Yt (Wk z1 r/\S0))/\(z2=false->(z14=true->Yt (Wk z1 r/\S0))/\(z14=false->(z11=true->Yt (Wk z1 r/\S0))/\(z11=false->(z5=true->Yt (Wk z1 r/\S0))/\(z5=false->(z6=true->Wk z1 r/\S0)/\(z6=false->(z7=true->Yt (Wk z15 r/\S0))/\(z7=false->(z12=true->Yt (Wk z15 r/\S0))/\(z12=false->(z8=true->Wk z15 r/\S0)/\(z8=false->Wk (AV.tup [i0 (-1:Int),b0 false]) r/\S0))))))))))))):=by kernel_rfl
end Go.Proofs.YtpofhijgccocpaaGreatDoor
end
section
namespace Go.Proofs.YtpofhijgccocpaaGreatDoor
open Go.AS Go.TP
noncomputable section
def zaA4 (w:ByteArray):AV:=if w=wAll∨w=zai6∨w=zadp then .tup [i0 0,b0 false] else if w=zacm∨w=zabQ∨w=wAnc∨w=zak0∨w=zafl∨w=zafk then .tup [i0 1,b0 false] else if w=zaen∨w=zakB∨w=zaem then .tup [i0 1,b0 true] else .tup [i0 (-1),b0 false]
theorem zam9 (w:ByteArray):zaA4 w=if w=wAll∨w=zai6∨w=zadp then .tup [i0 0,b0 false] else if w=zacm∨w=zabQ∨w=wAnc∨w=zak0∨w=zafl∨w=zafk then .tup [i0 1,b0 false] else if w=zaen∨w=zakB∨w=zaem then .tup [i0 1,b0 true] else .tup [i0 (-1),b0 false]:=rfl
theorem zaub (w:ByteArray):zaGq zaxe w (zaA4 w):=by
 rw [zaua,zam9,zaba w wAll,zaba w zai6,zaba w zadp,zaba w zacm,zaba w zabQ,zaba w wAnc,zaba w zak0,zaba w zafl,zaba w zafk,zaba w zaen,zaba w zakB,zaba w zaem]
 refine ⟨fun p => ?_,fun n0 => ?_⟩
 · have p:=of_decide_eq_true p;rw [if_pos (.inl p)];exact ⟨rfl,.refl _,.rfl⟩
 replace n0:=of_decide_eq_false n0
 refine ⟨fun p => ?_,fun n1 => ?_⟩
 · have p:=of_decide_eq_true p;rw [if_pos (.inr (.inl p))];exact ⟨rfl,.refl _,.rfl⟩
 replace n1:=of_decide_eq_false n1
 refine ⟨fun p => ?_,fun n2 => ?_⟩
 · have p:=of_decide_eq_true p;rw [if_pos (.inr (.inr p))];exact ⟨.refl _,.rfl⟩
 replace n2:=of_decide_eq_false n2
 refine ⟨fun p => ?_,fun n3 => ?_⟩
 · have p:=of_decide_eq_true p;rw [if_neg (fun q=>q.elim n0 (fun q=>q.elim n1 n2))];rw [if_pos (.inl p)];exact ⟨rfl,.refl _,.rfl⟩
 replace n3:=of_decide_eq_false n3
 refine ⟨fun p => ?_,fun n4 => ?_⟩
 · have p:=of_decide_eq_true p;rw [if_neg (fun q=>q.elim n0 (fun q=>q.elim n1 n2))];rw [if_pos (.inr (.inl p))];exact ⟨rfl,.refl _,.rfl⟩
 replace n4:=of_decide_eq_false n4
 refine ⟨fun p => ?_,fun n5 => ?_⟩
 · have p:=of_decide_eq_true p;rw [if_neg (fun q=>q.elim n0 (fun q=>q.elim n1 n2))];rw [if_pos (.inr (.inr (.inl p)))];exact ⟨rfl,.refl _,.rfl⟩
 replace n5:=of_decide_eq_false n5
 refine ⟨fun p => ?_,fun n6 => ?_⟩
 · have p:=of_decide_eq_true p;rw [if_neg (fun q=>q.elim n0 (fun q=>q.elim n1 n2))];rw [if_pos (.inr (.inr (.inr (.inl p))))];exact ⟨rfl,.refl _,.rfl⟩
 replace n6:=of_decide_eq_false n6
 refine ⟨fun p => ?_,fun n7 => ?_⟩
 · have p:=of_decide_eq_true p;rw [if_neg (fun q=>q.elim n0 (fun q=>q.elim n1 n2))];rw [if_pos (.inr (.inr (.inr (.inr (.inl p)))))];exact ⟨rfl,.refl _,.rfl⟩
 replace n7:=of_decide_eq_false n7
 refine ⟨fun p => ?_,fun n8 => ?_⟩
 · have p:=of_decide_eq_true p;rw [if_neg (fun q=>q.elim n0 (fun q=>q.elim n1 n2))];rw [if_pos (.inr (.inr (.inr (.inr (.inr p)))))];exact ⟨.refl _,.rfl⟩
 replace n8:=of_decide_eq_false n8
 refine ⟨fun p => ?_,fun n9 => ?_⟩
 · have p:=of_decide_eq_true p;rw [if_neg (fun q=>q.elim n0 (fun q=>q.elim n1 n2))];rw [if_neg (fun q=>q.elim n3 (fun q=>q.elim n4 (fun q=>q.elim n5 (fun q=>q.elim n6 (fun q=>q.elim n7 n8)))))];rw [if_pos (.inl p)];exact ⟨rfl,.refl _,.rfl⟩
 replace n9:=of_decide_eq_false n9
 refine ⟨fun p => ?_,fun n10 => ?_⟩
 · have p:=of_decide_eq_true p;rw [if_neg (fun q=>q.elim n0 (fun q=>q.elim n1 n2))];rw [if_neg (fun q=>q.elim n3 (fun q=>q.elim n4 (fun q=>q.elim n5 (fun q=>q.elim n6 (fun q=>q.elim n7 n8)))))];rw [if_pos (.inr (.inl p))];exact ⟨rfl,.refl _,.rfl⟩
 replace n10:=of_decide_eq_false n10
 refine ⟨fun p => ?_,fun n11 => ?_⟩
 · have p:=of_decide_eq_true p;rw [if_neg (fun q=>q.elim n0 (fun q=>q.elim n1 n2))];rw [if_neg (fun q=>q.elim n3 (fun q=>q.elim n4 (fun q=>q.elim n5 (fun q=>q.elim n6 (fun q=>q.elim n7 n8)))))];rw [if_pos (.inr (.inr p))];exact ⟨.refl _,.rfl⟩
 replace n11:=of_decide_eq_false n11
 rw [if_neg (fun q=>q.elim n0 (fun q=>q.elim n1 n2))];rw [if_neg (fun q=>q.elim n3 (fun q=>q.elim n4 (fun q=>q.elim n5 (fun q=>q.elim n6 (fun q=>q.elim n7 n8)))))];rw [if_neg (fun q=>q.elim n9 (fun q=>q.elim n10 n11))];exact ⟨.refl _,.rfl⟩
theorem zaq0 (w:ByteArray):F zabe [s0 w] (zaA4 w):=F_ok zaaR rfl (by kernel_rfl) (by kernel_rfl) (by kernel_rfl) (zaub w)
end
end Go.Proofs.YtpofhijgccocpaaGreatDoor
end
section
namespace Go.TP
open Go.AS
theorem zagr {P:Nd->Prop} (hn:∀ a t,zaav t=true->P (.mk 1 a 0 t []))
  (h2:∀ k a x y,(k=2∨k=3∨k=4∨k=8∨k=9)->zaas x=true->zaas y=true->P x->P y->P (.mk k a 0 ByteArray.empty [x,y]))
  (h1:∀ k a x,(k=5∨k=6∨k=7)->zaas x=true->P x->P (.mk k a 0 ByteArray.empty [x]))
  (c0:∀ a t,zaaB t=1->P (.mk 10 a 0 t []))
  (c1:∀ a n t x,(zaaB t=2/\n=0)∨(zaaB t=3/\0<=n/\n<=999999)->zaas x=true->P x->P (.mk 10 a n t [x])):∀ n,zaas n=true->P n:=by
 intro n
 refine Nd.rec (motive_1:=fun n=>zaas n=true->P n) (motive_2:=fun l=>∀ x∈l,zaas x=true->P x) ?_ ?_ ?_ n
 · intro k a n t ks ih h
   obtain ⟨e1,e2,e3⟩:=zadz h
   by_cases k2:k=2∨k=3∨k=4∨k=8∨k=9
   · have e:zabZ k t=2:=if_pos k2
     have hl:ks.length=2:=by omega
     obtain ⟨x,y,rfl⟩:=zaro hl
     have e5:zabh k n t=(decide (t=ByteArray.empty)&&decide (n=0)):=by
       unfold zabh;rw [if_neg (by omega),if_neg (by omega)]
     rw [e5,Bool.and_eq_true,decide_eq_true_eq,decide_eq_true_eq] at e2
     obtain ⟨rfl,rfl⟩:=e2
     exact h2 k a x y k2 (e3 x (by simp)) (e3 y (by simp)) (ih x (by simp) (e3 x (by simp))) (ih y (by simp) (e3 y (by simp)))
   · have e:zabZ k t=if k=5∨k=6∨k=7 then 1 else if k=1 then 0 else if k=10 then (if zaaB t-1<1 then zaaB t-1 else 1) else -1:=if_neg k2
     by_cases k1:k=5∨k=6∨k=7
     · rw [if_pos k1] at e
       obtain ⟨x,rfl⟩:=zalR (ks:=ks) (by omega)
       have e5:zabh k n t=(decide (t=ByteArray.empty)&&decide (n=0)):=by
         unfold zabh;rw [if_neg (by omega),if_neg (by omega)]
       rw [e5,Bool.and_eq_true,decide_eq_true_eq,decide_eq_true_eq] at e2
       obtain ⟨rfl,rfl⟩:=e2
       exact h1 k a x k1 (e3 x (by simp)) (ih x (by simp) (e3 x (by simp)))
     · rw [if_neg k1] at e
       by_cases k0:k=1
       · subst k0
         have e:zabZ 1 t=0:=e
         have hl:ks=[]:=List.length_eq_zero_iff.1 (by omega)
         subst hl
         have e5:zabh 1 n t=(zaav t&&decide (n=0)):=rfl
         rw [e5,Bool.and_eq_true,decide_eq_true_eq] at e2
         obtain ⟨g,rfl⟩:=e2
         exact hn a t g
       · rw [if_neg k0] at e
         by_cases kc:k=10
         · subst kc
           have e:zabZ 10 t=if zaaB t-1<1 then zaaB t-1 else 1:=e
           have e5:zabh 10 n t=(decide (n=0)||(decide (zaaB t=3)&&(decide (0<n)&&decide (n<=999999)))):=rfl
           rw [e5,Bool.or_eq_true,Bool.and_eq_true,Bool.and_eq_true,decide_eq_true_eq,decide_eq_true_eq,decide_eq_true_eq,decide_eq_true_eq] at e2
           rcases zagK t with f|f|f|f
           · rw [f,if_pos (by decide)] at e;omega
           · rw [f,if_pos (by decide)] at e
             have hl:ks=[]:=List.length_eq_zero_iff.1 (by omega)
             subst hl
             obtain rfl:n=0:=by omega
             exact c0 a t f
           · rw [f,if_neg (by decide)] at e
             obtain ⟨x,rfl⟩:=zalR (ks:=ks) (by omega)
             exact c1 a n t x (.inl ⟨f,by omega⟩) (e3 x (by simp)) (ih x (by simp) (e3 x (by simp)))
           · rw [f,if_neg (by decide)] at e
             obtain ⟨x,rfl⟩:=zalR (ks:=ks) (by omega)
             exact c1 a n t x (.inr ⟨f,by omega⟩) (e3 x (by simp)) (ih x (by simp) (e3 x (by simp)))
         · rw [if_neg kc] at e;omega
 · intro x hx;cases hx
 · intro x l hx hl y hy
   rcases List.mem_cons.1 hy with rfl|hy
   · exact hx
   · exact hl y hy
def levelK (k:Int):Nat:=if k=2∨k=3 then 0 else if k=4 then 1 else if k=5 then 2 else if k=6∨k=7∨k=8∨k=9 then 3 else 4
def zaeh (n:Int):ByteArray:=⟨(Lib.itoa n).toArray⟩
abbrev Ky:=Int × ByteArray
def sg (k:Int):Ky:=(k,ByteArray.empty)
def wd (t:ByteArray):Ky:=(1,t)
def brK (lv:Nat)(p:Nat × List Ky):List Ky:=if p.1<lv then sg 2::(p.2++[sg 3]) else p.2
def k0 (l:List (Nat × List Ky)):Nat × List Ky:=l.getD 0 (0,[])
def k1 (l:List (Nat × List Ky)):Nat × List Ky:=l.getD 1 (0,[])
def zaGM (k n:Int)(t:ByteArray)(l:List (Nat × List Ky)):List Ky :=
 if k=2 then brK 0 (k0 l)++sg 7::brK 1 (k1 l)
 else if k=3 then brK 0 (k0 l)++sg 8::brK 1 (k1 l)
 else if k=4 then brK 1 (k0 l)++sg 9::brK 2 (k1 l)
 else if k=5 then sg 10::brK 2 (k0 l)
 else if k=6 then sg 5::brK 4 (k0 l)
 else if k=7 then brK 4 (k0 l)++[sg 5]
 else if k=8 then brK 4 (k0 l)++sg 5::brK 4 (k1 l)
 else if k=9 then brK 4 (k0 l)++sg 6::brK 4 (k1 l)
 else if k=10 then wd t::sg 2::((if zaaB t=1 then [] else if zaaB t=2 then (k0 l).2 else (k0 l).2++[sg 4,wd (zaeh n)])++[sg 3])
 else [wd t]
mutual
def zafJ:Nd->List Ky
 | .mk k _ n t ks=>zaGM k n t (zaDF ks)
def zaDF:List Nd->List (Nat × List Ky)
 | []=>[]
 | n::r=>(levelK n.kind,zafJ n)::zaDF r
end
def atS (n:Nd)(lv:Nat):List Ky:=brK lv (levelK n.kind,zafJ n)
def zaG9 (k:Int)(t:ByteArray)(l:List (Nat × Nat)):Nat :=
 let b (lv:Nat) (p:Nat × Nat):Nat:=if p.1<lv then p.2+1 else p.2
 let x:=l.getD 0 (0,0)
 let y:=l.getD 1 (0,0)
 if k=2∨k=3 then max (b 0 x) (b 1 y)
 else if k=4 then max (b 1 x) (b 2 y)
 else if k=5 then b 2 x+1
 else if k=6 then b 4 x+1
 else if k=7 then max (b 4 x) 1
 else if k=8 then max (b 4 x) (b 4 y+1)
 else if k=9 then max (b 4 x) (b 4 y)
 else if k=10 then (if zaaB t=1 then 1 else x.2+1)
 else 0
mutual
def zaG8:Nd->Nat
 | .mk k _ _ t ks=>zaG9 k t (zaFv ks)
def zaFv:List Nd->List (Nat × Nat)
 | []=>[]
 | n::r=>(levelK n.kind,zaG8 n)::zaFv r
end
end Go.TP
end
section
namespace Go.TP
open Go.AS
theorem zaqU:∀ (k u:Nat),u<10 ^ (k+1)->(Lib.decDigits u).length<=k+1
 | 0,u,h=>by
  rw [Lib.decDigits,dif_pos (by simpa using h)];simp
 | k+1,u,h=>by
  rw [Lib.decDigits]
  split
  · simp
  · rw [List.length_append]
    have:=zaqU k (u / 10) (by rw [Nat.pow_succ] at h;omega)
    simp only [List.length_cons,List.length_nil];omega
theorem zagB {n:Int}(h:0<=n):Lib.itoa n=Lib.decDigits n.toNat:=if_neg (by omega)
theorem zaiY {n:Nd}{lv:Nat}(h:¬levelK n.kind<lv):atS n lv=zafJ n:=if_neg h
theorem zaur {n:Nd}{lv:Nat}(h:levelK n.kind<lv):atS n lv=sg 2::(zafJ n++[sg 3]):=if_pos h
end Go.TP
end
section
namespace Go.TP
open Go.AS
theorem zaBZ {a:Int}{x:Nd}:zafJ (.mk 7 a 0 ByteArray.empty [x])=atS x 4++[sg 5]:=rfl
theorem zaB2 {a:Int}{t:ByteArray}(h:zaaB t=1):zafJ (.mk 10 a 0 t [])=[wd t,sg 2,sg 3]:=by
 have:zafJ (.mk 10 a 0 t [])=wd t::sg 2::((if zaaB t=1 then [] else if zaaB t=2 then (k0 []).2 else (k0 []).2++[sg 4,wd (zaeh 0)])++[sg 3]):=rfl
 rw [this,if_pos h];rfl
theorem zaB1 {a n:Int}{t:ByteArray}{x:Nd}(h:zaaB t=2):zafJ (.mk 10 a n t [x])=wd t::sg 2::(atS x 0++[sg 3]):=by
 have:zafJ (.mk 10 a n t [x])=wd t::sg 2::((if zaaB t=1 then [] else if zaaB t=2 then zafJ x else zafJ x++[sg 4,wd (zaeh n)])++[sg 3]):=rfl
 rw [this,if_neg (by omega),if_pos h];rfl
theorem zaB0 {a n:Int}{t:ByteArray}{x:Nd}(h:zaaB t=3):zafJ (.mk 10 a n t [x])=wd t::sg 2::(atS x 0++[sg 4,wd (zaeh n),sg 3]):=by
 have:zafJ (.mk 10 a n t [x])=wd t::sg 2::((if zaaB t=1 then [] else if zaaB t=2 then zafJ x else zafJ x++[sg 4,wd (zaeh n)])++[sg 3]):=rfl
 rw [this,if_neg (by omega),if_neg (by omega),List.append_assoc];rfl
end Go.TP
end
section
namespace Go.TP
open Go.AS
end Go.TP
end
section
namespace Go.TP
open Go.AS
def zarL (k:Int):ByteArray:=if k=2 then ⟨#[40]⟩ else if k=3 then ⟨#[41]⟩ else if k=4 then ⟨#[44]⟩ else if k=5 then ⟨#[58,58]⟩ else if k=6 then ⟨#[46,46]⟩
 else if k=7 then ⟨#[43]⟩ else if k=8 then ⟨#[45]⟩ else if k=9 then ⟨#[38]⟩ else if k=11 then ByteArray.empty else ⟨#[33]⟩
def spell (p:Ky):ByteArray:=if p.1=1 then p.2 else zarL p.1
def catK:List Ky->ByteArray
 | []=>ByteArray.empty
 | p::r=>spell p++catK r
theorem zaea:∀ a b:List Ky,catK (a++b)=catK a++catK b
 | [],b=>by rw [List.nil_append,catK,ByteArray.empty_append]
 | p::a,b=>by rw [List.cons_append,catK,catK,zaea a b,ByteArray.append_assoc]
def zabA (n:Nd):ByteArray:=catK (zafJ n)
def zaaJ (n:Nd)(lv:Nat):ByteArray:=catK (atS n lv)
def zaiW:ByteArray:=⟨#[40]⟩
def zaff:ByteArray:=⟨#[41]⟩
theorem zaeF (n:Nd)(lv:Nat):zaaJ n lv=if levelK n.kind<lv then zaiW++zabA n++zaff else zabA n:=by
 unfold zaaJ zabA
 by_cases h:levelK n.kind<lv
 · rw [if_pos h,zaur h,catK,zaea,catK,catK,ByteArray.append_empty,ByteArray.append_assoc];rfl
 · rw [if_neg h,zaiY h]
theorem zah9 {k a:Int}{x y:Nd}{s:Int}{i j:Nat}(h:zafJ (.mk k a 0 ByteArray.empty [x,y])=atS x i++sg s::atS y j)(hs:s≠1):zabA (.mk k a 0 ByteArray.empty [x,y])=zaaJ x i++zarL s++zaaJ y j:=by
 unfold zabA zaaJ
 have e:spell (sg s)=zarL s:=if_neg hs
 rw [h,zaea,catK,e,ByteArray.append_assoc]
theorem zanJ {a:Int}{t:ByteArray}:zabA (.mk 1 a 0 t [])=t:=by
 have:zabA (.mk 1 a 0 t [])=t++ByteArray.empty:=rfl
 rw [this,ByteArray.append_empty]
theorem zart {a:Int}{x:Nd}:zabA (.mk 5 a 0 ByteArray.empty [x])=⟨#[33]⟩++zaaJ x 2:=rfl
theorem zars {a:Int}{x:Nd}:zabA (.mk 6 a 0 ByteArray.empty [x])=⟨#[58,58]⟩++zaaJ x 4:=rfl
theorem zarr {a:Int}{x:Nd}:zabA (.mk 7 a 0 ByteArray.empty [x])=zaaJ x 4++⟨#[58,58]⟩:=by
 unfold zabA zaaJ
 have e:spell (sg 5)=⟨#[58,58]⟩:=rfl
 rw [zaBZ,zaea,catK,e,catK,ByteArray.append_empty]
theorem zak8 {a:Int}{t:ByteArray}(h:zaaB t=1):zabA (.mk 10 a 0 t [])=t++zaiW++ByteArray.empty++zaff:=by
 unfold zabA
 have e1:spell (wd t)=t:=rfl
 have e2:spell (sg 2)=zaiW:=rfl
 have e3:spell (sg 3)=zaff:=rfl
 rw [zaB2 h,catK,catK,catK,catK,e1,e2,e3]
 simp only [ByteArray.append_assoc,ByteArray.append_empty,ByteArray.empty_append]
theorem zak7 {a n:Int}{t:ByteArray}{x:Nd}(h:zaaB t=2):zabA (.mk 10 a n t [x])=t++zaiW++zabA x++zaff:=by
 unfold zabA
 have e1:spell (wd t)=t:=rfl
 have e2:spell (sg 2)=zaiW:=rfl
 have e3:spell (sg 3)=zaff:=rfl
 rw [zaB1 h,catK,catK,zaea,catK,catK,e1,e2,e3,zaiY (by omega)]
 simp only [ByteArray.append_assoc,ByteArray.append_empty]
theorem zak6 {a n:Int}{t:ByteArray}{x:Nd}(h:zaaB t=3):zabA (.mk 10 a n t [x])=t++zaiW++(zabA x++⟨#[44]⟩++zaeh n)++zaff:=by
 unfold zabA
 have e1:spell (wd t)=t:=rfl
 have e2:spell (sg 2)=zaiW:=rfl
 have e3:spell (sg 3)=zaff:=rfl
 have e4:spell (sg 4)=⟨#[44]⟩:=rfl
 have e5:spell (wd (zaeh n))=zaeh n:=rfl
 rw [zaB0 h,catK,catK,zaea,catK,catK,catK,catK,e1,e2,e3,e4,e5,zaiY (by omega)]
 simp only [ByteArray.append_assoc,ByteArray.append_empty]
end Go.TP
end
section
namespace Go.TP
open Go.AS
theorem zarj {s:ByteArray}(h:zaaE (zaaa s 0)=false):zadM s=0:=by
 unfold zadM
 cases hs:s.size with
 | zero=>rfl
 | succ n =>
  rw [zadN,if_neg]
  rintro ⟨_,g⟩
  rw [show (0:Int).toNat=0 from rfl,h] at g;cases g
end Go.TP
end
section
namespace Go.TP
open Go.AS
theorem zacp (s:ByteArray)(i n:Nat)(h:i+n<s.size):zaaa (s.extract i s.size) n=zaaa s (i+n):=by
 unfold zaaa
 have h1:(s.extract i s.size).data=s.data.extract i s.size:=ByteArray.data_extract
 have hs:s.data.size=s.size:=rfl
 rw [h1,Array.getD_eq_getD_getElem?,Array.getD_eq_getD_getElem?,Array.getElem?_eq_getElem (by rw [Array.size_extract];omega),Array.getElem?_eq_getElem (by omega),Array.getElem_extract]
theorem zaAt (s:ByteArray)(i j:Nat)(h:i+j<=s.size):(s.extract i s.size).extract 0 j=s.extract i (i+j):=by
 rw [ByteArray.extract_extract];congr 1<;>omega
theorem zagb (s:ByteArray)(a b:UInt8)(p:ByteArray)(hp:p=⟨#[a,b]⟩):hasP s p=(decide (1<s.size)&&(decide (zaaa s 0=a.toNat)&&decide (zaaa s 1=b.toNat))):=by
 subst hp
 unfold hasP
 show (decide (2<=s.size)&&decide (s.extract 0 2=_))=_
 by_cases h:1<s.size
 · rw [decide_eq_true (show 2<=s.size by omega),decide_eq_true h,Bool.true_and,Bool.true_and]
   have hs:s.data.size=s.size:=rfl
   have b0:zaaa s 0=(s.data[0]'(by omega)).toNat:=by unfold zaaa;rw [Array.getD_eq_getD_getElem?,Array.getElem?_eq_getElem (by omega)];rfl
   have b1:zaaa s 1=(s.data[1]'(by omega)).toNat:=by unfold zaaa;rw [Array.getD_eq_getD_getElem?,Array.getElem?_eq_getElem (by omega)];rfl
   have e:(s.extract 0 2=(⟨#[a,b]⟩:ByteArray))↔(zaaa s 0=a.toNat/\zaaa s 1=b.toNat):=by
     have hd:(s.extract 0 2).data=s.data.extract 0 2:=ByteArray.data_extract
     constructor
     · intro h2
       have h3:s.data.extract 0 2 = #[a,b]:=by rw [<-hd,h2]
       have g0:(s.data.extract 0 2)[0]?=some a:=by rw [h3];rfl
       have g1:(s.data.extract 0 2)[1]?=some b:=by rw [h3];rfl
       rw [Array.getElem?_eq_getElem (by rw [Array.size_extract];omega),Array.getElem_extract] at g0 g1
       have g0:=Option.some.inj g0
       have g1:=Option.some.inj g1
       exact ⟨by rw [b0];exact congrArg UInt8.toNat g0,by rw [b1];exact congrArg UInt8.toNat g1⟩
     · rintro ⟨h1,h2⟩
       apply ByteArray.ext
       rw [hd]
       apply Array.ext
       · rw [Array.size_extract];show _=2;omega
       · intro j hj _
         rw [Array.size_extract] at hj
         rw [Array.getElem_extract]
         match j,hj with
         | 0,_=>exact UInt8.toNat_inj.1 (b0.symm.trans h1)
         | 1,_=>exact UInt8.toNat_inj.1 (b1.symm.trans h2)
         | j+2,hj=>omega
   rw [show decide (s.extract 0 2=(⟨#[a,b]⟩:ByteArray))=decide (zaaa s 0=a.toNat/\zaaa s 1=b.toNat) from decide_eq_decide.2 e,Bool.decide_and]
 · rw [decide_eq_false (show ¬2<=s.size by omega),decide_eq_false h];rfl
theorem zag6 (s:ByteArray):∀ (f g:Nat) (n:Int),s.size-n<=f->s.size-n<=g->zadN s f n=zadN s g n
 | 0,0,n,_,_=>rfl
 | 0,g+1,n,h,_=>by rw [zadN,zadN,if_neg (by omega)]
 | f+1,0,n,_,h=>by rw [zadN,zadN,if_neg (by omega)]
 | f+1,g+1,n,h1,h2=>by
  rw [zadN,zadN,zag6 s f g (n+1) (by omega) (by omega)]
theorem zai5 {s:ByteArray}(h0:0<s.size)(h:zaaE (zaaa s 0)=true):zadM s=zadN s s.size 1/\0<zadM s:=by
 have e:zadM s=zadN s s.size 1:=by
  unfold zadM
  cases hs:s.size with
  | zero=>omega
  | succ m =>
   rw [zadN,if_pos ⟨by rw [hs];omega,h⟩]
   show zadN s m 1=zadN s (m+1) 1
   exact zag6 s m (m+1) 1 (by omega) (by omega)
 refine ⟨e,?_⟩
 have:∀ (f:Nat) (n:Int),n<=zadN s f n:=by
  intro f
  induction f with
  | zero=>intro n;exact Int.le_refl _
  | succ f ih =>
   intro n;rw [zadN]
   split
   · have:=ih (n+1);omega
   · exact Int.le_refl _
 have:=this s.size 1
 omega
def numN (x:ByteArray):Int:=if x.data.toList.all zacf=true/\0<x.size/\x.size<=6 then numB x.data.toList else -1
theorem zaqw:∀ (l:List UInt8) (a:Int),0<=a->l.all zacf=true->0<=l.foldl (fun a c=>10*a+(c.toNat-48:Int)) a
 | [],a,h,_=>h
 | c::l,a,h,hl=>by
  rw [List.all_cons,Bool.and_eq_true] at hl
  have h1:(48<=c&&c<=57)=true:=hl.1
  rw [Bool.and_eq_true,decide_eq_true_iff] at h1
  have h2:48<=c.toNat:=h1.1
  exact zaqw l (10*a+(c.toNat-48)) (by omega) hl.2
theorem zakf (t:Tk):zabr t=if t.kind=1 then (if 0<=numN t.text then some (numN t.text) else none) else none:=by
 unfold zabr numN
 by_cases hk:t.kind=1
 · rw [if_pos hk]
   by_cases h:t.text.data.toList.all zacf=true/\0<t.text.size/\t.text.size<=6
   · rw [if_pos ⟨hk,h⟩,if_pos h,if_pos (show 0<=numB t.text.data.toList from zaqw _ 0 (Int.le_refl _) h.1)]
   · rw [if_neg (fun q=>h q.2),if_neg h,if_neg (by decide)]
 · rw [if_neg (fun q=>hk q.1),if_neg hk]
end Go.TP
end
section
namespace Go.Proofs.YtpofhijgccocpaaGreatDoor
open Go.AS Go.TP
noncomputable section
def zamB:Nat:=157
theorem zanu {c:Nat}(hc:c<256):F zamB [c0 c] (i0 (zadG c)) :=
 zaCu (n:=100) (zan (p:=fun c=>isI (S X0 100 zamB [c0 c] 1 .nil []) (zadG c)) (by kernel_rfl) hc)
theorem zaj0 {c:Nat}(hc:c<256):F zamA [c0 c] (b0 (zaaE c)) :=
 zaFC (n:=100) (zan (p:=fun c=>isB (S X0 100 zamA [c0 c] 1 .nil []) (zaaE c)) (by kernel_rfl) hc)
def zall:Sp := .pure Nat (fun c=>c<256) (fun c=>[c0 c]) (fun c=>i0 (zadG c))
def zapM:Sp := .pure Nat (fun c=>c<256) (fun c=>[c0 c]) (fun c=>b0 (zaaE c))
def XJ:WX:=(XB.add zamB (Sp.con [zall])).add zamA (Sp.con [zapM])
theorem zajX:XJ.Sound:=(zaaR.add (zaek (s:=zall) fun _ h=>zanu h)).add (zaek (s:=zapM) fun _ h=>zaj0 h)
def zaFB:Ex->List Nat
 | .ret=>[2]
 | _=>[0]
abbrev lpJP (P:Prop)(x:ByteArray)(i:Int)(r:Ex × Back):Lp:=Lp1 [0,3] [] zaFB P [s0 x,i0 i] .nil r
abbrev jEnd (x:ByteArray):Ex × Back:=(.exit 0,⟨.tup [s0 x],.nil,[]⟩)
abbrev jBad:Ex × Back:=(.ret,⟨.tup [b0 false],.nil,[]⟩)
def rJP (os:Orc)(P:Prop)(x:ByteArray)(i:Int)(r r':Ex × Back):Prop:=runL (XJ.ask [zaaH]) 8 zaaH (fn zaaH).ntmps (zaaX (code zaaH) 0) (lpJP P x (i+1) r') (lpJP P x (i+1) r') os 0 [] [s0 x,i0 i] .nil r
def rJPE (os:Orc)(P:Prop)(x:ByteArray)(i:Int):Prop:=rJP os P x i (jEnd x) (jEnd x)
def rJPX (os:Orc)(P:Prop)(x:ByteArray)(i:Int):Prop:=rJP os P x i jBad jBad
def rJPA (os:Orc)(P:Prop)(x:ByteArray)(i:Int):Prop:=rJP os P x i (jEnd x) (jEnd x)
def rJPB (os:Orc)(P:Prop)(x:ByteArray)(i:Int):Prop:=rJP os P x i jBad jBad
def gJP (os:Orc)(x:ByteArray)(q:Ex × Back)(b:Bool):Prop:=runF ((XJ.addLp zaaH 0 (lpJP True x 0 q)).ask [zaaH]) 10 zaaH (fn zaaH) (code zaaH) os 0 [] [s0 x] .nil ⟨b0 b,.nil,[]⟩
def gJPX (os:Orc)(x:ByteArray):Prop:=gJP os x jBad false
def gJPE (os:Orc)(x:ByteArray)(b:Bool):Prop:=gJP os x (jEnd x) b
def zaxy:Ex->List Nat
 | .ret=>[2]
 | _=>[3]
abbrev lpJN (P:Prop)(x:ByteArray)(i n:Int)(r:Ex × Back):Lp:=Lp1 [0,3,4] [] zaxy P [s0 x,i0 n,i0 i] .nil r
abbrev zaqE (n:Int):Ex × Back:=(.exit 0,⟨.tup [i0 n],.nil,[]⟩)
abbrev zasO:Ex × Back:=(.ret,⟨.tup [i0 (-1)],.nil,[]⟩)
def rJN (os:Orc)(P:Prop)(x:ByteArray)(i n i' n':Int)(r r':Ex × Back):Prop:=runL (XB.ask [zaae]) 8 zaae (fn zaae).ntmps (zaaX (code zaae) 0) (lpJN P x i' n' r') (lpJN P x i' n' r') os 0 [] [s0 x,i0 n,i0 i] .nil r
def rJNE (os:Orc)(P:Prop)(x:ByteArray)(i n:Int):Prop:=rJN os P x i n i n (zaqE n) (zaqE n)
def rJNX (os:Orc)(P:Prop)(x:ByteArray)(i n:Int):Prop:=rJN os P x i n i n zasO zasO
def rJNA (os:Orc)(P:Prop)(x:ByteArray)(i n n' m:Int):Prop:=rJN os P x i n (i+1) n' (zaqE m) (zaqE m)
def rJNB (os:Orc)(P:Prop)(x:ByteArray)(i n n':Int):Prop:=rJN os P x i n (i+1) n' zasO zasO
def gJN (os:Orc)(x:ByteArray)(q:Ex × Back)(m:Int):Prop:=runF ((XB.addLp zaae 0 (lpJN True x 0 0 q)).ask [zaae]) 10 zaae (fn zaae) (code zaae) os 0 [] [s0 x] .nil ⟨i0 m,.nil,[]⟩
def gJNL (os:Orc)(x:ByteArray):Prop:=runF (XB.ask [zaae]) 10 zaae (fn zaae) (code zaae) os 0 [] [s0 x] .nil ⟨i0 (-1),.nil,[]⟩
def gJNM (os:Orc)(x:ByteArray):Prop:=gJNL os x
def gJNX (os:Orc)(x:ByteArray):Prop:=gJN os x zasO (-1)
def gJNE (os:Orc)(x:ByteArray)(m:Int):Prop:=gJN os x (zaqE m) m
end
end Go.Proofs.YtpofhijgccocpaaGreatDoor
end
section
namespace Go.Proofs.YtpofhijgccocpaaGreatDoor
open Go Go.AS Go.TP
theorem zav7 (P:Prop)(x:ByteArray)(i:Int):rJPE (Orc.f Orc.z) P x i=(decide (i<(↑(ByteArray.size x):Int))=false/\Ex.exit 0=Ex.exit 0/\Wk (AV.tup [s0 x]) (AV.tup [s0 x])/\S0):=by kernel_rfl
theorem zav5 (P:Prop)(x:ByteArray)(i:Int):rJPX (Orc.t (Orc.t Orc.z)) P x i=(decide (i<(↑(ByteArray.size x):Int))=true/\decide ((0:Int)<=i/\i<(↑(ByteArray.size x):Int))=true/\∃ (i1:Nat),(i1<256/\Wks [u0 (↑(zaaa x (Int.toNat i)):Int)] [u0 (↑i1:Int)]/\hpL []=hpL [])/\decide (zadG i1<0)=true/\Ex.ret=Ex.ret/\Wk (AV.tup [b0 false]) (AV.tup [b0 false])/\S0):=by kernel_rfl
theorem zaw (P:Prop)(x:ByteArray)(i:Int):rJPA (Orc.t (Orc.f Orc.z)) P x i=(decide (i<(↑(ByteArray.size x):Int))=true/\decide ((0:Int)<=i/\i<(↑(ByteArray.size x):Int))=true/\∃ (i1:Nat),(i1<256/\Wks [u0 (↑(zaaa x (Int.toNat i)):Int)] [u0 (↑i1:Int)]/\hpL []=hpL [])/\decide (zadG i1<0)=false/\inR IntKind.i64 (i+1)=true/\∃ (_:Unit),(P/\Wks [s0 x,i0 (i+1)] [s0 x,i0 (i+1)]/\hpL []=hpL [])/\Ex.exit 0=Ex.exit 0/\Wk (AV.tup [s0 x]) (AV.tup [s0 x])/\S0):=by kernel_rfl
theorem zav8 (P:Prop)(x:ByteArray)(i:Int):rJPB (Orc.t (Orc.f Orc.z)) P x i=(decide (i<(↑(ByteArray.size x):Int))=true/\decide ((0:Int)<=i/\i<(↑(ByteArray.size x):Int))=true/\∃ (i1:Nat),(i1<256/\Wks [u0 (↑(zaaa x (Int.toNat i)):Int)] [u0 (↑i1:Int)]/\hpL []=hpL [])/\decide (zadG i1<0)=false/\inR IntKind.i64 (i+1)=true/\∃ (_:Unit),(P/\Wks [s0 x,i0 (i+1)] [s0 x,i0 (i+1)]/\hpL []=hpL [])/\Ex.ret=Ex.ret/\Wk (AV.tup [b0 false]) (AV.tup [b0 false])/\S0):=by kernel_rfl
theorem zazB (x:ByteArray):gJPX (Orc.z) x=(U1 [s0 x,i0 0] [] (Wk (b0 false) (b0 false)/\S0)):=by kernel_rfl
def zaE6:Orc:=Orc.s (Orc.t (Orc.t Orc.z)) (Orc.f (Orc.f Orc.z))
theorem zazC (x:ByteArray)(b:Bool):gJPE zaE6 x b=(let z1:=(↑(ByteArray.size x):Int);U1 [s0 x,i0 0] [] ((decide (z1>=1)=true->Yt (Yt (Wk (b0 (decide (z1<=64))) (b0 b)/\S0)))/\(decide (z1>=1)=false->Nf (Nf (Wk (b0 false) (b0 b)/\S0))))):=by kernel_rfl
theorem zawd (P:Prop)(x:ByteArray)(i n:Int):rJNE (Orc.f Orc.z) P x i n=(decide (i<(↑(ByteArray.size x):Int))=false/\Ex.exit 0=Ex.exit 0/\Wk (AV.tup [i0 n]) (AV.tup [i0 n])/\S0):=by kernel_rfl
def zaEo:Orc:=Orc.t (Orc.s (Orc.t (Orc.t (Orc.t (Orc.t Orc.z)))) (Orc.f (Orc.f (Orc.f (Orc.t Orc.z)))))
theorem zawb (P:Prop)(x:ByteArray)(i n:Int):rJNX zaEo P x i n=(let z1:=(AV.tup [i0 (-1:Int)]);let z2:=(↑(zaaa x (Int.toNat i)):Int);let z3:=(↑(ByteArray.size x):Int);decide (i<z3)=true/\decide ((0:Int)<=i/\i<z3)=true/\(decide (z2<48)=true->Yt4 (Ex.ret=Ex.ret/\Wk z1 z1/\S0))/\(decide (z2<48)=false->Nf (Nf (decide ((0:Int)<=i/\i<z3)=true/\Nf (decide (z2>57)=true/\Ex.ret=Ex.ret/\Wk z1 z1/\S0))))):=by kernel_rfl
def zaEq:Orc:=Orc.t (HF (Orc.f Orc.z))
theorem zawg (P:Prop)(x:ByteArray)(i n:Int)(n' m:Int):rJNA zaEq P x i n n' m=(let z1:=(↑(zaaa x (Int.toNat i)):Int);let z2:=((0:Int)<=i/\i<(↑(ByteArray.size x):Int));let z3:=((10:Int)*n+IntKind.wrap IntKind.u8 (z1-48));decide (i<(↑(ByteArray.size x):Int))=true/\decide z2=true/\decide (z1<48)=false/\Nf (Nf (decide z2=true/\Nf (decide (z1>57)=false/\inR IntKind.i64 ((10:Int)*n)=true/\decide z2=true/\Yt (inR IntKind.i64 (IntKind.wrap IntKind.u8 (z1-48))=true/\inR IntKind.i64 z3=true/\inR IntKind.i64 (i+1)=true/\∃ (_:Unit),(P/\Wks [s0 x,i0 z3,i0 (i+1)] [s0 x,i0 n',i0 (i+1)]/\hpL []=hpL [])/\Ex.exit 0=Ex.exit 0/\Wk (AV.tup [i0 m]) (AV.tup [i0 m])/\S0))))):=by kernel_rfl
def zaEp:Orc:=Orc.t (HF (Orc.f Orc.z))
theorem zawe (P:Prop)(x:ByteArray)(i n n':Int):rJNB zaEp P x i n n'=(let z1:=(↑(zaaa x (Int.toNat i)):Int);let z2:=((0:Int)<=i/\i<(↑(ByteArray.size x):Int));let z3:=((10:Int)*n+IntKind.wrap IntKind.u8 (z1-48));decide (i<(↑(ByteArray.size x):Int))=true/\decide z2=true/\decide (z1<48)=false/\Nf (Nf (decide z2=true/\Nf (decide (z1>57)=false/\inR IntKind.i64 ((10:Int)*n)=true/\decide z2=true/\Yt (inR IntKind.i64 (IntKind.wrap IntKind.u8 (z1-48))=true/\inR IntKind.i64 z3=true/\inR IntKind.i64 (i+1)=true/\∃ (_:Unit),(P/\Wks [s0 x,i0 z3,i0 (i+1)] [s0 x,i0 n',i0 (i+1)]/\hpL []=hpL [])/\Ex.ret=Ex.ret/\Wk (AV.tup [i0 (-1:Int)]) (AV.tup [i0 (-1:Int)])/\S0))))):=by kernel_rfl
def zaE9:Orc:=Orc.t (Orc.t (Orc.t (Orc.t Orc.z)))
theorem zazG (x:ByteArray):gJNL zaE9 x=(decide ((↑(ByteArray.size x):Int)<1)=true/\Yt (Yt (Yt (Wk (i0 (-1:Int)) (i0 (-1:Int))/\S0)))):=by kernel_rfl
def zaE8:Orc:=Orc.f (Orc.f (Orc.f (Orc.t Orc.z)))
theorem zazF (x:ByteArray):gJNM zaE8 x=(decide ((↑(ByteArray.size x):Int)<1)=false/\Nf (Nf (decide ((↑(ByteArray.size x):Int)>6)=true/\Wk (i0 (-1:Int)) (i0 (-1:Int))/\S0))):=by kernel_rfl
def zaE7:Orc:=Orc.f (Orc.f (Orc.f (Orc.f Orc.z)))
theorem zazE (x:ByteArray):gJNX zaE7 x=(decide ((↑(ByteArray.size x):Int)<1)=false/\Nf (Nf (decide ((↑(ByteArray.size x):Int)>6)=false/\U1 [s0 x,i0 0,i0 0] [] (Wk (i0 (-1:Int)) (i0 (-1:Int))/\S0)))):=by kernel_rfl
def zaF:Orc:=Orc.f (Orc.f (Orc.f (Orc.f Orc.z)))
theorem zazH (x:ByteArray)(m:Int):gJNE zaF x m=(decide ((↑(ByteArray.size x):Int)<1)=false/\Nf (Nf (decide ((↑(ByteArray.size x):Int)>6)=false/\U1 [s0 x,i0 0,i0 0] [] (Wk (i0 m) (i0 m)/\S0)))):=by kernel_rfl
end Go.Proofs.YtpofhijgccocpaaGreatDoor
end
section
namespace Go.Proofs.YtpofhijgccocpaaGreatDoor
open Go.AS Go.TP
noncomputable section
abbrev BJP (xs:List AV)(r:Ex × Back):Prop:=zab9 Tryz.prog gl0 (fn zaaH).ntmps (zaaX (code zaaH) 0) [0,3] zaFB xs .nil fun _ q=>q=r
variable {os:Orc} {P:Prop} {x:ByteArray} {i n:Int}
theorem zahH {r r':Ex × Back}(ih:P->BJP [s0 x,i0 (i+1)] r')(h:rJP os P x i r r'):BJP [s0 x,i0 i] r :=
 lp_round1 (X:=XJ.ask [zaaH]) (zajX.ask _) (fnOk zaaH (by kernel_rfl)) (show (fn zaaH).body=some (code zaaH) by kernel_rfl) (by decide) ih h
theorem zapX (h:¬i<x.size):rJPE (Orc.f Orc.z) P x i:=by
 rw [zav7];exact ⟨decide_eq_false h,rfl,.refl _,.rfl⟩
theorem zav6 (h0:0<=i)(h:i<x.size)(hd:hexQ (zaaa x i.toNat)=false):rJPX (Orc.t (Orc.t Orc.z)) P x i:=by
 rw [zav5];exact ⟨decide_eq_true h,decide_eq_true ⟨h0,h⟩,_,⟨zaaC x i.toNat,.refl _,rfl⟩,decide_eq_true (zach.2 hd),rfl,.refl _,.rfl⟩
theorem zawa (hx:x.size<=1000000)(h0:0<=i)(h:i<x.size)(hd:hexQ (zaaa x i.toNat)=true)(hP:P):rJPA (Orc.t (Orc.f Orc.z)) P x i:=by
 rw [zaw];exact ⟨decide_eq_true h,decide_eq_true ⟨h0,h⟩,_,⟨zaaC x i.toNat,.refl _,rfl⟩,decide_eq_false (fun k=>by rw [zach.1 k] at hd;cases hd),zaag (by omega) (by omega),(),⟨hP,.refl _,rfl⟩,rfl,.refl _,.rfl⟩
theorem zav9 (hx:x.size<=1000000)(h0:0<=i)(h:i<x.size)(hd:hexQ (zaaa x i.toNat)=true)(hP:P):rJPB (Orc.t (Orc.f Orc.z)) P x i:=by
 rw [zav8];exact ⟨decide_eq_true h,decide_eq_true ⟨h0,h⟩,_,⟨zaaC x i.toNat,.refl _,rfl⟩,decide_eq_false (fun k=>by rw [zach.1 k] at hd;cases hd),zaag (by omega) (by omega),(),⟨hP,.refl _,rfl⟩,rfl,.refl _,.rfl⟩
attribute [local irreducible] runL in
theorem jpL (x:ByteArray)(hx:x.size<=1000000):∀ (f:Nat) (i:Int),0<=i->x.size-i<=f->BJP [s0 x,i0 i] (if zaa5 zafz x i=true then jEnd x else jBad):=by
 intro f
 induction f with
 | zero=>intro i h0 h1;rw [if_pos (zabl (by omega))];exact zahH (P:=False) (r':=jEnd x) (fun h=>h.elim) (zapX (by omega))
 | succ f ih =>
  intro i h0 h1
  by_cases hi:i<x.size
  · have ih:=ih (i+1) (by omega) (by omega)
    rw [zacw zaqK h0 hi]
    cases hd:hexQ (zaaa x i.toNat) with
    | false=>rw [Bool.false_and,if_neg (by decide)];exact zahH (P:=False) (r':=jBad) (fun h=>h.elim) (zav6 h0 hi hd)
    | true =>
      rw [Bool.true_and]
      by_cases ha:zaa5 zafz x (i+1)=true
      · rw [if_pos ha] at ih ⊢;exact zahH (P:=True) (fun _=>ih) (zawa hx h0 hi hd trivial)
      · rw [if_neg ha] at ih ⊢;exact zahH (P:=True) (fun _=>ih) (zav9 hx h0 hi hd trivial)
  · rw [if_pos (zabl hi)];exact zahH (P:=False) (r':=jEnd x) (fun h=>h.elim) (zapX hi)
theorem zaHg {q:Ex × Back}(h:BJP [s0 x,i0 0] q):(XJ.addLp zaaH 0 (lpJP True x 0 q)).Sound :=
 zajX.addLp (fnOk zaaH (by kernel_rfl)) (show (fn zaaH).body=some (code zaaH) by kernel_rfl) (by kernel_rfl)
  (Spl.ok (l:=[⟨Unit,fun _=>True,fun _=>[s0 x,i0 0],fun _ => .nil,fun _=>q⟩]) rfl (show ([0,3]:List Nat).Nodup by decide) fun s' hs' i _=>by obtain rfl:=List.mem_singleton.1 hs';exact h)
attribute [local irreducible] runF in
theorem jpFn {q:Ex × Back}{b:Bool}(h:BJP [s0 x,i0 0] q)(hg:gJP os x q b):F zaaH [s0 x] (b0 b) :=
 zade (X:=(XJ.addLp zaaH 0 (lpJP True x 0 q)).ask [zaaH]) (d:=10) ((zaHg h).ask _) (f:=zaaH) (fn:=fn zaaH) (code:=code zaaH) (fnOk zaaH (by kernel_rfl)) (show (fn zaaH).body=some (code zaaH) by kernel_rfl) (by kernel_rfl) hg
theorem zazD (x:ByteArray):gJPE zaE6 x (decide (0<x.size)&&decide (x.size<=64)):=by
 rw [zazC]
 try dsimp only
 refine ⟨(),⟨trivial,.refl _,rfl⟩,fun h => ?_,fun h => ?_⟩
 · have h:=of_decide_eq_true h
   refine ⟨rfl,rfl,.of_eq ?_,.rfl⟩
   rw [decide_eq_true (show 0<x.size by omega),Bool.true_and]
   exact congrArg (fun b=>b0 b) (decide_eq_decide.2 ⟨fun h=>by omega,fun h=>by omega⟩)
 · have h:=of_decide_eq_false h
   refine ⟨rfl,rfl,.of_eq ?_,.rfl⟩
   rw [decide_eq_false (show ¬0<x.size by omega)];rfl
attribute [local irreducible] runF runL in
theorem zapE (x:ByteArray)(hx:x.size<=1000000):F zaaH [s0 x] (b0 (zaav x)):=by
 have h:=jpL x hx x.size 0 (Int.le_refl _) (by omega)
 have e:zaav x=(zaa5 zafz x 0&&(decide (0<x.size)&&decide (x.size<=64))):=by
  unfold zaav zaa5;rw [show (0:Int).toNat=0 from rfl,List.drop_zero,Bool.and_assoc]
 rw [e]
 cases ha:zaa5 zafz x 0 with
 | true=>rw [ha,if_pos rfl] at h;rw [Bool.true_and];exact jpFn h (zazD x)
 | false =>
  rw [ha,if_neg (by decide)] at h;rw [Bool.false_and]
  exact jpFn h (show gJPX Orc.z x from by rw [zazB];exact ⟨(),⟨trivial,.refl _,rfl⟩,.refl _,.rfl⟩)
abbrev BJN (xs:List AV)(r:Ex × Back):Prop:=zab9 Tryz.prog gl0 (fn zaae).ntmps (zaaX (code zaae) 0) [0,3,4] zaxy xs .nil fun _ q=>q=r
theorem zaxx {i' n':Int}{r r':Ex × Back}(ih:P->BJN [s0 x,i0 n',i0 i'] r')(h:rJN os P x i n i' n' r r'):BJN [s0 x,i0 n,i0 i] r :=
 lp_round1 (X:=XB.ask [zaae]) (zaaR.ask _) (fnOk zaae (by kernel_rfl)) (show (fn zaae).body=some (code zaae) by kernel_rfl) (by decide) ih h
theorem zapY (h:¬i<x.size):rJNE (Orc.f Orc.z) P x i n:=by
 rw [zawd];exact ⟨decide_eq_false h,rfl,.refl _,.rfl⟩
theorem zawc (h0:0<=i)(h:i<x.size)(hd:digQ (zaaa x i.toNat)=false):rJNX zaEo P x i n:=by
 rw [zawb]
 refine ⟨decide_eq_true h,decide_eq_true ⟨h0,h⟩,fun g=>⟨rfl,rfl,rfl,rfl,rfl,.refl _,.rfl⟩,fun g=>⟨rfl,rfl,decide_eq_true ⟨h0,h⟩,rfl,decide_eq_true ?_,rfl,.refl _,.rfl⟩⟩
 have g:¬((zaaa x i.toNat:Int)<48):=of_decide_eq_false g
 show (zaaa x i.toNat:Int)>57
 unfold digQ at hd
 have:¬(48<=zaaa x i.toNat/\zaaa x i.toNat<=57):=fun q=>by rw [decide_eq_true q.1,decide_eq_true q.2] at hd;cases hd
 omega
theorem zakV {c:Nat}(h:48<=c/\c<=57):IntKind.wrap IntKind.u8 ((c:Int)-48)=(c:Int)-48:=by
 refine zakU ?_
 show (decide _&&decide _)=true
 rw [decide_eq_true (show (0:Int)<=(c:Int)-48 by omega),decide_eq_true (show (c:Int)-48<2 ^ IntKind.u8.bits from by show (c:Int)-48<256;omega)];rfl
theorem zawh {m:Int}(hx:x.size<=1000000)(h0:0<=i)(h:i<x.size)(hn:0<=n/\n<=1000000)(hd:digQ (zaaa x i.toNat)=true)(hP:P):rJNA zaEq P x i n (10*n+((zaaa x i.toNat:Int)-48)) m:=by
 have hc:=zaiM hd
 rw [zawg]
 try dsimp only
 rw [zakV hc]
 exact ⟨decide_eq_true h,decide_eq_true ⟨h0,h⟩,decide_eq_false (show ¬((zaaa x i.toNat:Int)<48) by omega),rfl,rfl,decide_eq_true ⟨h0,h⟩,rfl,decide_eq_false (show ¬((zaaa x i.toNat:Int)>57) by omega),zaag (by omega) (by omega),decide_eq_true ⟨h0,h⟩,rfl,zaag (by omega) (by omega),zaag (by omega) (by omega),zaag (by omega) (by omega),(),⟨hP,.refl _,rfl⟩,rfl,.refl _,.rfl⟩
theorem zawf (hx:x.size<=1000000)(h0:0<=i)(h:i<x.size)(hn:0<=n/\n<=1000000)(hd:digQ (zaaa x i.toNat)=true)(hP:P):rJNB zaEp P x i n (10*n+((zaaa x i.toNat:Int)-48)):=by
 have hc:=zaiM hd
 rw [zawe]
 try dsimp only
 rw [zakV hc]
 exact ⟨decide_eq_true h,decide_eq_true ⟨h0,h⟩,decide_eq_false (show ¬((zaaa x i.toNat:Int)<48) by omega),rfl,rfl,decide_eq_true ⟨h0,h⟩,rfl,decide_eq_false (show ¬((zaaa x i.toNat:Int)>57) by omega),zaag (by omega) (by omega),decide_eq_true ⟨h0,h⟩,rfl,zaag (by omega) (by omega),zaag (by omega) (by omega),zaag (by omega) (by omega),(),⟨hP,.refl _,rfl⟩,rfl,.refl _,.rfl⟩
def numF (l:List UInt8)(a:Int):Int:=l.foldl (fun a c=>10*a+(c.toNat-48:Int)) a
theorem zaon (x:ByteArray)(h0:0<=i)(h:i<x.size)(a:Int):numF (x.data.toList.drop i.toNat) a=numF (x.data.toList.drop (i+1).toNat) (10*a+((zaaa x i.toNat:Int)-48)):=by
 have hl:i.toNat<x.data.toList.length:=by rw [Array.length_toList];have:x.data.size=x.size:=rfl;omega
 have hl':i.toNat<x.data.size:=by rw [<-Array.length_toList];exact hl
 have e:(i+1).toNat=i.toNat+1:=by omega
 rw [List.drop_eq_getElem_cons hl,e]
 unfold numF
 rw [List.foldl_cons]
 congr 2
 unfold zaaa
 rw [Array.getD_eq_getD_getElem?,Array.getElem?_eq_getElem hl'];rfl
theorem zaG3:∀ k:Nat,k<=6->(10:Int) ^ k<=1000000:=by decide
attribute [local irreducible] runL in
theorem jnLp (x:ByteArray)(hx:x.size<=6):∀ (f:Nat) (i n:Int),0<=i->i<=x.size->x.size-i<=f->0<=n/\n<10 ^ i.toNat->BJN [s0 x,i0 n,i0 i] (if zaa5 zacf x i=true then zaqE (numF (x.data.toList.drop i.toNat) n) else zasO):=by
 intro f
 induction f with
 | zero =>
  intro i n h0 h2 h1 _
  have e:x.data.toList.drop i.toNat=[]:=List.drop_of_length_le (by rw [Array.length_toList];have:x.data.size=x.size:=rfl;omega)
  rw [if_pos (zabl (by omega)),e];exact zaxx (P:=False) (i':=i) (n':=n) (r':=zaqE n) (fun h=>h.elim) (zapY (by omega))
 | succ f ih =>
  intro i n h0 h2 h1 hn
  by_cases hi:i<x.size
  · have hp:=zaG3 i.toNat (by omega)
    have hn':0<=n/\n<=1000000:=⟨hn.1,by omega⟩
    rw [zacw zajQ h0 hi,zaon x h0 hi]
    cases hd:digQ (zaaa x i.toNat) with
    | false=>rw [Bool.false_and,if_neg (by decide)];exact zaxx (P:=False) (i':=i) (n':=n) (r':=zasO) (fun h=>h.elim) (zawc h0 hi hd)
    | true =>
      have hc:=zaiM hd
      have ih:=ih (i+1) (10*n+((zaaa x i.toNat:Int)-48)) (by omega) (by omega) (by omega) (by
        have e:(i+1).toNat=i.toNat+1:=by omega
        rw [e,Int.pow_succ]
        generalize (10:Int) ^ i.toNat=p at hn hp
        omega)
      rw [Bool.true_and]
      by_cases ha:zaa5 zacf x (i+1)=true
      · rw [if_pos ha] at ih ⊢;exact zaxx (P:=True) (fun _=>ih) (zawh (by omega) h0 hi hn' hd trivial)
      · rw [if_neg ha] at ih ⊢;exact zaxx (P:=True) (fun _=>ih) (zawf (by omega) h0 hi hn' hd trivial)
  · have e:x.data.toList.drop i.toNat=[]:=List.drop_of_length_le (by rw [Array.length_toList];have:x.data.size=x.size:=rfl;omega)
    rw [if_pos (zabl hi),e];exact zaxx (P:=False) (i':=i) (n':=n) (r':=zaqE n) (fun h=>h.elim) (zapY hi)
theorem zaHh {q:Ex × Back}(h:BJN [s0 x,i0 0,i0 0] q):(XB.addLp zaae 0 (lpJN True x 0 0 q)).Sound :=
 zaaR.addLp (fnOk zaae (by kernel_rfl)) (show (fn zaae).body=some (code zaae) by kernel_rfl) (by kernel_rfl)
  (Spl.ok (l:=[⟨Unit,fun _=>True,fun _=>[s0 x,i0 0,i0 0],fun _ => .nil,fun _=>q⟩]) rfl (show ([0,3,4]:List Nat).Nodup by decide) fun s' hs' i _=>by obtain rfl:=List.mem_singleton.1 hs';exact h)
attribute [local irreducible] runF in
theorem jnFn {q:Ex × Back}{m:Int}(h:BJN [s0 x,i0 0,i0 0] q)(hg:gJN os x q m):F zaae [s0 x] (i0 m) :=
 zade (X:=(XB.addLp zaae 0 (lpJN True x 0 0 q)).ask [zaae]) (d:=10) ((zaHh h).ask _) (f:=zaae) (fn:=fn zaae) (code:=code zaae) (fnOk zaae (by kernel_rfl)) (show (fn zaae).body=some (code zaae) by kernel_rfl) (by kernel_rfl) hg
attribute [local irreducible] runF in
theorem zaxz (hg:gJNL os x):F zaae [s0 x] (i0 (-1)) :=
 zade (X:=XB.ask [zaae]) (d:=10) (zaaR.ask _) (f:=zaae) (fn:=fn zaae) (code:=code zaae) (fnOk zaae (by kernel_rfl)) (show (fn zaae).body=some (code zaae) by kernel_rfl) (by kernel_rfl) hg
attribute [local irreducible] runF runL in
theorem zauY (x:ByteArray):F zaae [s0 x] (i0 (numN x)):=by
 unfold numN
 by_cases h1:x.size<1
 · rw [if_neg (fun c=>by omega)]
   exact zaxz (show gJNL zaE9 x from by rw [zazG];exact ⟨decide_eq_true (by omega),rfl,rfl,rfl,.refl _,.rfl⟩)
 · by_cases h6:x.size>6
   · rw [if_neg (fun c=>by omega)]
     exact zaxz (show gJNM zaE8 x from by rw [zazF];exact ⟨decide_eq_false (by omega),rfl,rfl,decide_eq_true (by omega),.refl _,.rfl⟩)
   · have h:=jnLp x (by omega) x.size 0 0 (Int.le_refl _) (by omega) (by omega) ⟨Int.le_refl _,by decide⟩
     have ed:x.data.toList.all zacf=zaa5 zacf x 0:=zamU x
     have en:numF (x.data.toList.drop (0:Int).toNat) 0=numB x.data.toList:=by rw [show (0:Int).toNat=0 from rfl,List.drop_zero];rfl
     rw [ed]
     by_cases ha:zaa5 zacf x 0=true
     · rw [if_pos ha,en] at h
       rw [if_pos ⟨ha,by omega,by omega⟩]
       exact jnFn h (show gJNE zaF x _ from by rw [zazH];exact ⟨decide_eq_false (by omega),rfl,rfl,decide_eq_false (by omega),(),⟨trivial,.refl _,rfl⟩,.refl _,.rfl⟩)
     · rw [if_neg ha] at h
       rw [if_neg (fun c=>ha c.1)]
       exact jnFn h (show gJNX zaE7 x from by rw [zazE];exact ⟨decide_eq_false (by omega),rfl,rfl,decide_eq_false (by omega),(),⟨trivial,.refl _,rfl⟩,.refl _,.rfl⟩)
variable {all:List Tk} {s:RS} {f:Nat}
theorem zafj (h:XInv all s){k:Int}(hk:plc all s=k):∀ B:Tb,B=Cx.B (cxV XB 14 zaaU)->(decide ((0:Int)<=k/\k<((all.map encT).length:Int))&&(Nat.beq 3 3&&(zaaF B shN 124 ((all.map encT).getD k.toNat (AV.lit (Value.tuple ⟨[]⟩)))&&(true||false))))=true:=by
 subst hk;exact zabP h
theorem zau0 (h:XInv all s){k:Int}(hk:plc all s=k)(c:Int):(intA (nthA 0 ((all.map encT).getD k.toNat (AV.lit (Value.tuple ⟨[]⟩)))) != c)=decide ((zaab s.ts).kind≠c):=by
 subst hk
 obtain ⟨t1,_,_⟩:=zanv h (AV.lit (Value.tuple ⟨[]⟩))
 rw [show (all.map encT).getD (plc all s).toNat (AV.lit (Value.tuple ⟨[]⟩))=_ from t1]
 show ((zaab s.ts).kind != c)=_
 by_cases g:(zaab s.ts).kind=c
 · rw [g];simp
 · rw [decide_eq_true g];simp [g]
theorem zac (h:XInv all s):Wks [AV.lit (Value.string (strA (nthA 2 ((all.map encT).getD (plc all s).toNat (AV.lit (Value.tuple ⟨[]⟩))))))] [s0 (zaab s.ts).text]:=by
 obtain ⟨t1,_,_⟩:=zanv h (AV.lit (Value.tuple ⟨[]⟩))
 rw [show (all.map encT).getD (plc all s).toNat (AV.lit (Value.tuple ⟨[]⟩))=_ from t1]
 exact .refl _
theorem zaeC (h:XInv all s)(k n:Int){x:AV}{ps:List AV}(hx:Wk x (.lst false 1 ps)):Wks [xArg,.agg [i0 k,i0 (intA (nthA 1 ((all.map encT).getD (plc all s).toNat (AV.lit (Value.tuple ⟨[]⟩))))),i0 n,.lit (.string (strA (nthA 2 ((all.map encT).getD (plc all s).toNat (AV.lit (Value.tuple ⟨[]⟩)))))),x]] [xArg,rgV k (zaab s.ts).at_ n (zaab s.ts).text ps]:=by
 obtain ⟨t1,_,_⟩:=zanv h (AV.lit (Value.tuple ⟨[]⟩))
 rw [show (all.map encT).getD (plc all s).toNat (AV.lit (Value.tuple ⟨[]⟩))=_ from t1]
 exact .cons (.refl _) (.cons (.agg (.cons (.refl _) (.cons (.refl _) (.cons (.refl _) (.cons (.refl _) (.cons hx .nil)))))) .nil)
theorem zakR {z:RS}(h:XInv all z)(k a n:Int)(t:ByteArray)(ps:List Nat) :
  FOk Tryz.prog gl0 zabN (xArg::[rgV k a n t (ps.map fun j:Nat=>i0 (j:Int))]) (xQ 0 all z (plc all z) z.deep)
   ⟨i0 ((z.out.map xE).length:Int),xHp 1 (all.map encT) (plc all z) z.deep (z.out.map xE++[rgV k a n t (ps.map fun j:Nat=>i0 (j:Int))]) (badE z) (badP z),[1048577,1048578]⟩:=by
 have lm:(z.out.map xE).length=z.out.length:=List.length_map ..
 rw [lm]
 have hA2:FOk Tryz.prog gl0 zabN (xArg::[rgV k a n t (ps.map fun j:Nat=>i0 (j:Int))]) (xQ 0 all z (plc all z) z.deep)
   ⟨i0 (z.out.length:Int),xHp 1 (all.map encT) (plc all z) z.deep ((z.out++[(⟨k,a,n,t,ps⟩:RN)]).map xE) (badE z) (badP z),[1048577,1048578]⟩:=zakS h ⟨k,a,n,t,ps⟩
 rw [List.map_append] at hA2
 exact hA2
theorem zag5 {σ:Hp} (z:RS) (k a n:Int) (t:ByteArray) (ps:List Nat)
  (h:FOk Tryz.prog gl0 f [xArg] σ ⟨i0 ((z.out.map xE).length:Int),xHp 1 (all.map encT) (plc all z) z.deep (z.out.map xE++[rgV k a n t (ps.map fun j:Nat=>i0 (j:Int))]) (badE z) (badP z),[1048577,1048578]⟩) :
  FOk Tryz.prog gl0 f [xArg] σ ⟨i0 ((addR ⟨k,a,n,t,ps⟩ z).1:Int),xS 1 all (addR ⟨k,a,n,t,ps⟩ z).2,[1048577,1048578]⟩:=by
 show FOk _ _ _ _ _ ⟨i0 (z.out.length:Int),xHp 1 _ (plc all z) z.deep ((z.out++[(⟨k,a,n,t,ps⟩:RN)]).map xE) (badE z) (badP z),_⟩
 have lm:(z.out.map xE).length=z.out.length:=List.length_map ..
 rw [List.map_append,<-lm]
 exact h
theorem zavc (c:Int)(s:RS):(zabz c s).2.deep=s.deep/\(zabz c s).2.out=s.out:=by
 unfold zabz
 split
 · exact ⟨rfl,rfl⟩
 · exact ⟨(zamz 15 s).2.1,(zamz 15 s).2.2⟩
theorem zarl {c:Int}(hb:(zabz c s).1=true):isR c s=true/\(zabz c s).2=zaaI s:=by grind [zabz]
theorem zajZ (h:XInv all s)(c:Int)(hc:c≠11):∃ b w,zabz c s=(b,w)/\w.deep=s.deep/\w.out=s.out/\(b=true->isR c s=true/\w=zaaI s) /\
  FOk Tryz.prog gl0 zabt [xArg,i0 c] (xQ 0 all s (plc all s) s.deep) ⟨b0 b,xHp 0 (all.map encT) (plc all w) s.deep (s.out.map xE) (badE w) (badP w),[1048578]⟩:=by
 obtain ⟨h1,h2⟩:=zavc c s
 have g:FOk Tryz.prog gl0 zabt [xArg,i0 c] (xQ 0 all s (plc all s) s.deep) ⟨b0 (zabz c s).1,xHp 0 (all.map encT) (plc all (zabz c s).2) (zabz c s).2.deep ((zabz c s).2.out.map xE) (badE (zabz c s).2) (badP (zabz c s).2),[1048578]⟩:=zara h c hc
 rw [h1,h2] at g
 exact ⟨(zabz c s).1,(zabz c s).2,rfl,h1,h2,zarl,g⟩
theorem zakQ (h:XInv all s)(hb:s.bad=none):FOk Tryz.prog gl0 zabG [xArg,i0 15] (xHp 0 (all.map encT) (plc all s) s.deep (s.out.map xE) 0 0)
  ⟨i0 0,xHp 0 (all.map encT) (plc all s) s.deep (s.out.map xE) (badE (zaa1 15 s)) (badP (zaa1 15 s)),[1048578]⟩:=by
 have hf:=zah5 h 15
 rw [zacy,zabD hb] at hf
 exact hf
theorem x_no {σ:Hp}{c:Nat}(e:Int)(h:FOk Tryz.prog gl0 f [xArg] σ ⟨i0 0,xHp c (all.map encT) (plc all s) s.deep (s.out.map xE) (badE (zaa1 e s)) (badP (zaa1 e s)),[1048577,1048578]⟩)(hc:c=0∨c=1) :
  FOk Tryz.prog gl0 f [xArg] σ ⟨i0 0,xS 1 all (zaa1 e s),[1048577,1048578]⟩:=by
 rcases hc with rfl|rfl
 · refine xRen (t:=zaa1 e s) (v:=0) (ws:=[1048577,1048578]) ?_ (by intro k hk;simpa using hk)
   rw [zacy];exact h
 · rw [zacy];exact h
theorem zajH (w:ByteArray):zaaB w=if w=wAll∨w=zai6∨w=zadp then 1 else if w=zacm∨w=zabQ∨w=wAnc∨w=zak0∨w=zafl∨w=zafk then 2 else if w=zaen∨w=zakB∨w=zaem then 3 else 0:=rfl
theorem zadL (w:ByteArray):zaA4 w=if zaaB w=1 then .tup [i0 0,b0 false] else if zaaB w=2 then .tup [i0 1,b0 false] else if zaaB w=3 then .tup [i0 1,b0 true] else .tup [i0 (-1),b0 false]:=by
 rw [zam9,zajH]
 by_cases h1:w=wAll∨w=zai6∨w=zadp
 · rw [if_pos h1,if_pos h1,if_pos rfl]
 · rw [if_neg h1,if_neg h1]
   by_cases h2:w=zacm∨w=zabQ∨w=wAnc∨w=zak0∨w=zafl∨w=zafk
   · rw [if_pos h2,if_pos h2,if_neg (by decide),if_pos rfl]
   · rw [if_neg h2,if_neg h2]
     by_cases h3:w=zaen∨w=zakB∨w=zaem
     · rw [if_pos h3,if_pos h3,if_neg (by decide),if_neg (by decide),if_pos rfl]
     · rw [if_neg h3,if_neg h3,if_neg (by decide),if_neg (by decide),if_neg (by decide)]
theorem zahO (w:ByteArray):zaaB w=0∨zaaB w=1∨zaaB w=2∨zaaB w=3:=by grind [zajH]
abbrev spPu (x r:AV):Sp := .pure Unit (fun _=>True) (fun _=>[x]) (fun _=>r)
theorem zalG {x r:AV}(h:F f [x] r):zagZ Tryz.prog gl0 f (Sp.con [spPu x r]):=zaek (s:=spPu x r) fun _ _=>h
theorem RI.deepI {t:RS}(h:XInv all (upR t)){d:Int}(hd:t.deep=d):inR .i64 (d-1)=true:=by grind [Go.Proofs.YtpofhijgccocpaaGreatDoor.deepI]
attribute [local irreducible] runF in
theorem zari (hsz:∀ t∈all,t.text.size<=1000000)(ih:IH all f)(h:XInv all s)(hb:s.bad=none)(hd:s.deep<=24)(hf:5*s.ts.length+1<=f+1):LvOk all (f+1) .atom s:=by
 unfold LvOk
 rw [zabD hb,RP]
 have fin:∀ {X:WX} (hX:X.Sound) (hp:X.px=X0) {os:Orc} {fc:List Nat} {r:Back},runF (XQn X zaac [38,39,49,51,117,119]) 14 zaac (fn zaac) (code zaac) os 0 fc [xArg] (xHp 0 (all.map encT) (plc all s) s.deep (s.out.map xE) 0 0) r ->
   FOk Tryz.prog gl0 zaac [xArg] (xHp 0 (all.map encT) (plc all s) s.deep (s.out.map xE) 0 0) r:=by
  intro X hX hp os fc r g
  have hP:X.px.P=Tryz.prog:=by rw [hp];rfl
  have hg:X.px.gl=gl0:=by rw [hp];rfl
  have:=zade (X:=XQn X zaac [38,39,49,51,117,119]) (d:=14) ((hX.ask askX).askAt zaac _) (f:=zaac) (fn:=fn zaac) (code:=code zaac) (by show X.px.P.funcs[zaac]?=_;rw [hP];exact fnOk zaac (by kernel_rfl)) (by kernel_rfl) (by kernel_rfl) g
  rw [<-hg,<-hP];exact this
 have g0:RI 0 0 s s := .refl h.ok h.bad
 cases hi:isR 2 s with
 | true =>
  have hk:(zaab s.ts).kind≠11:=by rw [(zaaA hi).2];decide
  simp only [if_true]
  by_cases h24:24<=s.deep
  · obtain ⟨e,hD⟩:=zai3 h hb hk h24
    rw [e]
    simp only [Bool.false_eq_true,if_false]
    have q:zaGl _ _ _ _ _ _ _:=(zat6 (all.map encT) (plc all s) s.deep (s.out.map xE) (badE (zaa1 16 s)) (badP (zaa1 16 s))).mpr
      ⟨(),⟨trivial,.refl _,rfl⟩,rfl,(),⟨trivial,.refl _,rfl⟩,rfl,.refl _,.rfl⟩
    exact x_no 16 (fin ((zaaR.add (con1 (zafG h hb hi))).add (con1 (f:=zaar) hD)) rfl q) (.inl rfl)
  · obtain ⟨u,e,gu,uI,ub,ud,ud24,ul,uo,hD⟩:=zanw h hb hk h24
    rw [e]
    simp only [if_true]
    have ha:=x_lv ub (ih .expr u uI ub ud24 (by show _+5<=_;omega))
    have gq:=zadQ f .expr u uI.ok uI.bad
    rw [ud,uo] at ha
    generalize RP f .expr u=q at ha gq ⊢
    have qI:XInv all q.2:=uI.of_RI ud24 gq
    obtain ⟨b,w,ew,wd,wo,_,hW⟩:=zajZ qI 3 (by decide)
    have gw:=gq.want (c:=3) (by decide)
    rw [ew] at gw ⊢
    have zI:XInv all (upR w):=h.of_RI hd (RI.up (k:=0) (gu.trans ub gw))
    have z:zaGk _ _ _ _ _ _ _ _ _ _ _ _ _ _ _ _:=(zat5 (all.map encT) (plc all s) s.deep (s.out.map xE) (plc all u) (plc all q.2) q.2.deep (q.2.out.map xE) (badE q.2) (badP q.2) q.1 (plc all w) (badE w) (badP w) b).mpr
      ⟨(),⟨trivial,.refl _,rfl⟩,rfl,(),⟨trivial,.refl _,rfl⟩,rfl,(),⟨trivial,.refl _,rfl⟩,(),⟨trivial,.refl _,rfl⟩,RI.deepI zI wd,.refl _,.rfl⟩
    have g:=fin ((((zaaR.add (con1 (zafG h hb hi))).add (con1 (f:=zaar) hD)).add (con1 (f:=zaap) ha)).add (con1 hW)) rfl z
    show FOk _ _ _ _ _ ⟨i0 (q.1:Int),xHp 1 _ (plc all w) (w.deep-1) (w.out.map xE) (badE w) (badP w),_⟩
    rw [wd,wo];exact g
 | false =>
  simp only [Bool.false_eq_true,if_false]
  have hI2:=zafG h hb hi
  cases h1:isR 1 s with
  | false =>
   simp only [Bool.false_eq_true,if_false]
   have q:gAtX _ _ _ _ _ _ _:=(zaAd (all.map encT) (plc all s) s.deep (s.out.map xE) (badE (zaa1 15 s)) (badP (zaa1 15 s))).mpr
    ⟨(),⟨trivial,.refl _,rfl⟩,rfl,(),⟨trivial,.refl _,rfl⟩,rfl,(),⟨trivial,.refl _,rfl⟩,.refl _,.rfl⟩
   exact x_no 15 (fin ((zaaR.add (conC hI2 (con1 (zafG h hb h1)))).add (con1 (zakQ h hb))) rfl q) (.inl rfl)
  | true =>
   simp only [if_true]
   have hI1:=zafG h hb h1
   have hIW:=conC hI2 (con1 hI1)
   have hk:(zaab s.ts).kind≠11:=by rw [(zaaA h1).2];decide
   have gt1:=g0.take hk
   have gt:RI 0 0 s (zaaI s):=gt1.less (Nat.zero_le _)
   have TI:XInv all (zaaI s):=h.of_RI hd gt
   have pT:plc all (zaaI s)=plc all s+1:=zag4 h hk
   have tl:(zaaI s).ts.length+1=s.ts.length:=zabo h.ok hk
   have hT:=(zaal s.ts)
   have hw:(zaab s.ts).text.size<=1000000:=by
    have hne:=zahr h.ok
    have:=h.suf
    cases hts:s.ts with
    | nil=>exact absurd hts hne
    | cons t r =>
     rw [hts] at this
     exact hsz t (this.subset (List.mem_cons_self ..))
   by_cases hk2:(zaab (zaal s.ts)).kind≠2
   · rw [if_pos hk2]
     have kk:(intA (nthA 0 ((all.map encT).getD (plc all s+1).toNat (AV.lit (Value.tuple ⟨[]⟩)))) != 2)=true:=(zau0 TI pT 2).trans (decide_eq_true hk2)
     cases hp:zaav (zaab s.ts).text with
     | false =>
       simp only [Bool.false_eq_true,if_false]
       have hP:=zapE (zaab s.ts).text hw
       rw [hp] at hP
       have q:zaGj _ _ _ _ _ _ _ _:=(zat4 (all.map encT) (plc all s) s.deep (s.out.map xE) (badE (zaa1 15 s)) (badP (zaa1 15 s)) (zaab s.ts).text).mpr
         ⟨(),⟨trivial,.refl _,rfl⟩,rfl,(),⟨trivial,.refl _,rfl⟩,rfl,zabP h _ rfl,x_in h,zafj TI pT _ rfl,kk,(),⟨trivial,zac h,rfl⟩,rfl,(),⟨trivial,.refl _,rfl⟩,.refl _,.rfl⟩
       exact x_no 15 (fin (((zaaR.add hIW).add (zalG hP)).add (con1 (zakQ h hb))) rfl q) (.inl rfl)
     | true =>
       simp only [if_true]
       have hP:=zapE (zaab s.ts).text hw
       rw [hp] at hP
       have hA:=zakR TI 1 (zaab s.ts).at_ 0 (zaab s.ts).text []
       unfold xQ at hA
       rw [(bad0 (s:=zaaI s) hb).1,(bad0 (s:=zaaI s) hb).2,pT] at hA
       have q:zaGi _ _ _ _ _ _ _:=(zat3 (all.map encT) (plc all s) s.deep (s.out.map xE) (zaab s.ts).at_ (zaab s.ts).text).mpr
         ⟨(),⟨trivial,.refl _,rfl⟩,rfl,(),⟨trivial,.refl _,rfl⟩,rfl,zabP h _ rfl,x_in h,zafj TI pT _ rfl,kk,(),⟨trivial,zac h,rfl⟩,rfl,x_in h,(),⟨trivial,zaeC h 1 0 .nilS,rfl⟩,.refl _,.rfl⟩
       refine zag5 (zaaI s) 1 _ 0 _ [] ?_
       rw [(bad0 (s:=zaaI s) hb).1,(bad0 (s:=zaaI s) hb).2,pT]
       exact fin (((zaaR.add hIW).add (zalG hP)).add (con1 hA)) rfl q
   · rw [if_neg hk2]
     have hk2:(zaab (zaal s.ts)).kind=2:=Decidable.not_not.1 hk2
     have kk:(intA (nthA 0 ((all.map encT).getD (plc all s+1).toNat (AV.lit (Value.tuple ⟨[]⟩)))) != 2)=false:=(zau0 TI pT 2).trans (decide_eq_false fun c=>c hk2)
     have hAr:=zaq0 (zaab s.ts).text
     rw [zadL] at hAr
     by_cases hf0:zaaB (zaab s.ts).text=0
     · rw [if_pos hf0]
       rw [hf0,if_neg (by decide),if_neg (by decide),if_neg (by decide)] at hAr
       have q:zaGp _ _ _ _ _ _ _ _:=(zau (all.map encT) (plc all s) s.deep (s.out.map xE) (badE (zaa1 15 s)) (badP (zaa1 15 s)) (zaab s.ts).text).mpr
         ⟨(),⟨trivial,.refl _,rfl⟩,rfl,(),⟨trivial,.refl _,rfl⟩,rfl,zabP h _ rfl,x_in h,zafj TI pT _ rfl,kk,(),⟨trivial,zac h,rfl⟩,rfl,(),⟨trivial,.refl _,rfl⟩,.refl _,.rfl⟩
       exact x_no 15 (fin (((zaaR.add hIW).add (zalG hAr)).add (con1 (zakQ h hb))) rfl q) (.inl rfl)
     · rw [if_neg hf0]
       have hkT:(zaab (zaaI s).ts).kind≠11:=by rw [show (zaab (zaaI s).ts).kind=2 from hk2];decide
       have hAr2:∃ n b,0<=n/\F zabe [s0 (zaab s.ts).text] (.tup [i0 n,b0 b])/\(zaaB (zaab s.ts).text=1->n=0/\b=false)/\(zaaB (zaab s.ts).text=2->n=1/\b=false)/\(zaaB (zaab s.ts).text=3->n=1/\b=true):=by
         rcases zahO (zaab s.ts).text with c|c|c|c
         · exact absurd c hf0
         all_goals rw [c] at hAr ⊢
         · exact ⟨0,false,by decide,hAr,fun _=>⟨rfl,rfl⟩,fun c=>absurd c (by decide),fun c=>absurd c (by decide)⟩
         · exact ⟨1,false,by decide,hAr,fun c=>absurd c (by decide),fun _=>⟨rfl,rfl⟩,fun c=>absurd c (by decide)⟩
         · exact ⟨1,true,by decide,hAr,fun c=>absurd c (by decide),fun c=>absurd c (by decide),fun _=>⟨rfl,rfl⟩⟩
       obtain ⟨n,bn,hn0,hArg,ha1,ha2,ha3⟩:=hAr2
       by_cases h24:24<=(zaaI s).deep
       · obtain ⟨e,hD⟩:=zai3 TI hb hkT h24
         rw [e]
         simp only [Bool.false_eq_true,if_false]
         rw [pT] at hD
         have q:zaGm _ _ _ _ _ _ _ _ _ _:=(zat7 (all.map encT) (plc all s) s.deep (s.out.map xE) (badE (zaa1 16 (zaaI s))) (badP (zaa1 16 (zaaI s))) (zaab s.ts).text n bn).mpr
           ⟨(),⟨trivial,.refl _,rfl⟩,rfl,(),⟨trivial,.refl _,rfl⟩,rfl,zabP h _ rfl,x_in h,zafj TI pT _ rfl,kk,(),⟨trivial,zac h,rfl⟩,decide_eq_false (by omega),x_in h,(),⟨trivial,.refl _,rfl⟩,rfl,.refl _,.rfl⟩
         refine x_no (s:=zaaI s) (c:=0) 16 ?_ (.inl rfl)
         rw [pT]
         exact fin (((zaaR.add hIW).add (zalG hArg)).add (con1 (f:=zaar) hD)) rfl q
       · obtain ⟨u,e,gu,uI,ub,ud,ud24,ul,uo,hD⟩:=zanw TI hb hkT h24
         rw [e]
         simp only [if_true]
         have gsu:RI 1 1 s u:=gt.trans hb gu
         rw [pT] at hD
         have hD:FOk Tryz.prog gl0 zaar [xArg] (xHp 0 (all.map encT) (plc all s+1) s.deep (s.out.map xE) 0 0) ⟨b0 true,xHp 0 (all.map encT) (plc all u) (s.deep+1) (s.out.map xE) 0 0,[1048578]⟩:=hD
         have ud:u.deep=s.deep+1:=ud
         have uo:u.out=s.out:=uo
         have base:=((zaaR.add hIW).add (zalG hArg)).add (con1 (f:=zaar) hD)
         by_cases hf1:zaaB (zaab s.ts).text=1
         · rw [if_pos hf1,if_neg (by rw [hf1];decide)]
           obtain ⟨rfl,rfl⟩:=ha1 hf1
           show FOk _ _ _ _ _ ⟨i0 ((addR ⟨10,(zaab s.ts).at_,0,(zaab s.ts).text,[]⟩ (upR (zabz 3 u).2)).1:Int),_,_⟩
           obtain ⟨b,w,ew,wd,wo,_,hW⟩:=zajZ uI 3 (by decide)
           have gw:=gsu.want (c:=3) (by decide)
           simp only [ew] at gw ⊢
           have zI:XInv all (upR w):=h.of_RI hd (RI.up (k:=0) gw)
           have hA:=zakR zI 10 (zaab s.ts).at_ 0 (zaab s.ts).text []
           unfold xQ at hA hW
           rw [(bad0 ub).1,(bad0 ub).2] at hW
           have hA2:FOk Tryz.prog gl0 zabN (xArg::[rgV 10 (zaab s.ts).at_ 0 (zaab s.ts).text []]) (xHp 0 (all.map encT) (plc all w) (w.deep-1) (w.out.map xE) (badE w) (badP w)) ⟨i0 ((w.out.map xE).length:Int),xHp 1 (all.map encT) (plc all w) (w.deep-1) (w.out.map xE++[rgV 10 (zaab s.ts).at_ 0 (zaab s.ts).text []]) (badE w) (badP w),[1048577,1048578]⟩:=hA
           rw [wd,wo,ud,uo] at hA2
           rw [ud,uo] at hW
           have z:zaGo _ _ _ _ _ _ _ _ _ _ _ _:=(zat9 (all.map encT) (plc all s) s.deep (s.out.map xE) (zaab s.ts).text (zaab s.ts).at_ (plc all u) (plc all w) (badE w) (badP w) b).mpr
             ⟨(),⟨trivial,.refl _,rfl⟩,rfl,(),⟨trivial,.refl _,rfl⟩,rfl,zabP h _ rfl,x_in h,zafj TI pT _ rfl,kk,(),⟨trivial,zac h,rfl⟩,rfl,x_in h,(),⟨trivial,.refl _,rfl⟩,rfl,rfl,rfl,rfl,rfl,(),⟨trivial,.refl _,rfl⟩,RI.deepI zI (wd.trans ud),(),⟨trivial,zaeC h 10 0 .nilS,rfl⟩,.refl _,.rfl⟩
           refine zag5 (upR w) 10 _ 0 _ [] ?_
           show FOk _ _ _ _ _ ⟨i0 ((w.out.map xE).length:Int),xHp 1 (all.map encT) (plc all w) (w.deep-1) (w.out.map xE++[rgV 10 (zaab s.ts).at_ 0 (zaab s.ts).text []]) (badE w) (badP w),_⟩
           rw [wd,wo,ud,uo]
           exact fin ((base.add (con1 hW)).add (con1 hA2)) rfl z
         · rw [if_neg hf1]
           have hx:=x_lv ub (ih .expr u uI ub ud24 (by show _+5<=_;omega))
           have gq:=zadQ f .expr u uI.ok uI.bad
           rw [ud,uo] at hx
           generalize RP f .expr u=q at hx gq ⊢
           have qI:XInv all q.2:=uI.of_RI ud24 gq
           have gsq:RI 1 1 s q.2:=gsu.trans ub gq
           by_cases hf3:zaaB (zaab s.ts).text=3
           · rw [if_pos hf3]
             obtain ⟨rfl,rfl⟩:=ha3 hf3
             obtain ⟨b4,w4,ew4,wd4,wo4,hb4,hW4⟩:=zajZ qI 4 (by decide)
             have gw4:=gsq.want (c:=4) (by decide)
             have gv4:=gq.want (c:=4) (by decide)
             simp only [ew4] at gw4 gv4 ⊢
             have w4I:XInv all w4:=uI.of_RI ud24 gv4
             cases b4 with
             | false =>
               simp only [Bool.false_eq_true,if_false]
               show FOk _ _ _ _ _ ⟨i0 ((addR ⟨10,(zaab s.ts).at_,0,(zaab s.ts).text,[q.1]⟩ (upR (zabz 3 w4).2)).1:Int),_,_⟩
               obtain ⟨b,w,ew,wd,wo,_,hW⟩:=zajZ w4I 3 (by decide)
               have gw:=gw4.want (c:=3) (by decide)
               simp only [ew] at gw ⊢
               have zI:XInv all (upR w):=h.of_RI hd (RI.up (k:=0) gw)
               have hA:=zakR zI 10 (zaab s.ts).at_ 0 (zaab s.ts).text [q.1]
               unfold xQ at hA hW hW4
               have hA2:FOk Tryz.prog gl0 zabN (xArg::[rgV 10 (zaab s.ts).at_ 0 (zaab s.ts).text [i0 (q.1:Int)]]) (xHp 0 (all.map encT) (plc all w) (w.deep-1) (w.out.map xE) (badE w) (badP w)) ⟨i0 ((w.out.map xE).length:Int),xHp 1 (all.map encT) (plc all w) (w.deep-1) (w.out.map xE++[rgV 10 (zaab s.ts).at_ 0 (zaab s.ts).text [i0 (q.1:Int)]]) (badE w) (badP w),[1048577,1048578]⟩:=hA
               rw [wd,wo,wd4,wo4] at hA2
               rw [wd4,wo4] at hW
               have z:zaAf _ _ _ _ _ _ _ _ _ _ _ _ _ _ _ _ _ _ _ _ _:=(zaoT (all.map encT) (plc all s) s.deep (s.out.map xE) (zaab s.ts).text (zaab s.ts).at_ (plc all u) (plc all q.2) q.2.deep (q.2.out.map xE) (badE q.2) (badP q.2) q.1 (plc all w) (badE w) (badP w) (plc all w4) (badE w4) (badP w4) b).mpr
                 ⟨(),⟨trivial,.refl _,rfl⟩,rfl,(),⟨trivial,.refl _,rfl⟩,rfl,zabP h _ rfl,x_in h,zafj TI pT _ rfl,kk,(),⟨trivial,zac h,rfl⟩,rfl,x_in h,(),⟨trivial,.refl _,rfl⟩,rfl,rfl,(),⟨trivial,.refl _,rfl⟩,rfl,rfl,(),⟨trivial,.refl _,rfl⟩,rfl,(),⟨trivial,.refl _,rfl⟩,RI.deepI zI (wd.trans wd4),(),⟨trivial,zaeC h 10 0 .lst,rfl⟩,.refl _,.rfl⟩
               refine zag5 (upR w) 10 _ 0 _ [q.1] ?_
               show FOk _ _ _ _ _ ⟨i0 ((w.out.map xE).length:Int),xHp 1 (all.map encT) (plc all w) (w.deep-1) (w.out.map xE++[rgV 10 (zaab s.ts).at_ 0 (zaab s.ts).text [i0 (q.1:Int)]]) (badE w) (badP w),_⟩
               rw [wd,wo,wd4,wo4]
               exact fin (((base.add (con1 (f:=zaap) hx)).add (conC hW4 (con1 hW))).add (con1 hA2)) rfl z
             | true =>
               simp only [if_true]
               obtain ⟨hq4,rw4⟩:=hb4 rfl
               have w4b:w4.bad=none:=by rw [rw4];exact (zaaA hq4).1
               unfold xQ at hW4
               rw [(bad0 w4b).1,(bad0 w4b).2] at hW4
               have hI4:=fun b=>zafG w4I w4b (c:=1) (b:=b)
               have hN:=zauY (zaab w4.ts).text
               have hF4:=zakQ w4I w4b
               rw [wd4,wo4] at hF4
               rw [wd4,wo4] at hI4
               cases h41:isR 1 w4 with
               | false =>
                 simp only [Bool.false_eq_true,if_false]
                 have z:zaAh _ _ _ _ _ _ _ _ _ _ _ _ _ _ _ _ _ _ _ _ _ _:=(zaoV (all.map encT) (plc all s) s.deep (s.out.map xE) (zaab s.ts).text (zaab w4.ts).text (zaab s.ts).at_ (numN (zaab w4.ts).text) (plc all u) (plc all q.2) q.2.deep (q.2.out.map xE) (badE q.2) (badP q.2) q.1 0 0 0 (plc all w4) (badE (zaa1 15 w4)) (badP (zaa1 15 w4))).mpr
                   ⟨(),⟨trivial,.refl _,rfl⟩,rfl,(),⟨trivial,.refl _,rfl⟩,rfl,zabP h _ rfl,x_in h,zafj TI pT _ rfl,kk,(),⟨trivial,zac h,rfl⟩,rfl,x_in h,(),⟨trivial,.refl _,rfl⟩,rfl,rfl,(),⟨trivial,.refl _,rfl⟩,rfl,rfl,(),⟨trivial,.refl _,rfl⟩,rfl,zabP w4I _ rfl,(),⟨trivial,zac w4I,rfl⟩,(),⟨trivial,.refl _,rfl⟩,rfl,rfl,rfl,rfl,(),⟨trivial,.refl _,rfl⟩,.refl _,.rfl⟩
                 have g:=fin (((((((zaaR.add (conC hI2 (conC hI1 (con1 (hI4 false h41))))).add (zalG hArg)).add (con1 (f:=zaar) hD)).add (con1 (f:=zaap) hx)).add (con1 hW4)).add (zalG hN)).add (con1 hF4)) rfl z
                 refine x_no (s:=w4) (c:=1) 15 ?_ (.inr rfl)
                 rw [wd4,wo4];exact g
               | true =>
                 simp only [if_true]
                 have k4:(zaab w4.ts).kind=1:=(zaaA h41).2
                 have hk4:(zaab w4.ts).kind≠11:=by rw [k4];decide
                 rw [zakf,if_pos k4]
                 by_cases hm:0<=numN (zaab w4.ts).text
                 · rw [if_pos hm]
                   have gt4:=(gw4.take hk4).less (Nat.le_succ 1)
                   have gu4:=(gv4.take hk4).less (Nat.zero_le _)
                   have t4I:XInv all (zaaI w4):=uI.of_RI ud24 gu4
                   have p4:plc all (zaaI w4)=plc all w4+1:=zag4 w4I hk4
                   show FOk _ _ _ _ _ ⟨i0 ((addR ⟨10,(zaab s.ts).at_,numN (zaab w4.ts).text,(zaab s.ts).text,[q.1]⟩ (upR (zabz 3 (zaaI w4)).2)).1:Int),_,_⟩
                   obtain ⟨b,w,ew,wd,wo,_,hW⟩:=zajZ t4I 3 (by decide)
                   have gw:=gt4.want (c:=3) (by decide)
                   simp only [ew] at gw ⊢
                   have zI:XInv all (upR w):=h.of_RI hd (RI.up (k:=0) gw)
                   have hA:=zakR zI 10 (zaab s.ts).at_ (numN (zaab w4.ts).text) (zaab s.ts).text [q.1]
                   unfold xQ at hA hW
                   rw [(bad0 (s:=zaaI w4) w4b).1,(bad0 (s:=zaaI w4) w4b).2,p4] at hW
                   have wd:w.deep=w4.deep:=wd
                   have wo:w.out=w4.out:=wo
                   have hW:FOk Tryz.prog gl0 zabt [xArg,i0 3] (xHp 0 (all.map encT) (plc all w4+1) w4.deep (w4.out.map xE) 0 0) ⟨b0 b,xHp 0 (all.map encT) (plc all w) w4.deep (w4.out.map xE) (badE w) (badP w),[1048578]⟩:=hW
                   have hA2:FOk Tryz.prog gl0 zabN (xArg::[rgV 10 (zaab s.ts).at_ (numN (zaab w4.ts).text) (zaab s.ts).text [i0 (q.1:Int)]]) (xHp 0 (all.map encT) (plc all w) (w.deep-1) (w.out.map xE) (badE w) (badP w)) ⟨i0 ((w.out.map xE).length:Int),xHp 1 (all.map encT) (plc all w) (w.deep-1) (w.out.map xE++[rgV 10 (zaab s.ts).at_ (numN (zaab w4.ts).text) (zaab s.ts).text [i0 (q.1:Int)]]) (badE w) (badP w),[1048577,1048578]⟩:=hA
                   rw [wd,wo,wd4,wo4] at hA2
                   rw [wd4,wo4] at hW
                   have z:zaAe _ _ _ _ _ _ _ _ _ _ _ _ _ _ _ _ _ _ _ _ _:=(zaoS (all.map encT) (plc all s) s.deep (s.out.map xE) (zaab s.ts).text (zaab w4.ts).text (zaab s.ts).at_ (numN (zaab w4.ts).text) (plc all u) (plc all q.2) q.2.deep (q.2.out.map xE) (badE q.2) (badP q.2) q.1 (plc all w) (badE w) (badP w) (plc all w4) b).mpr
                     ⟨(),⟨trivial,.refl _,rfl⟩,rfl,(),⟨trivial,.refl _,rfl⟩,rfl,zabP h _ rfl,x_in h,zafj TI pT _ rfl,kk,(),⟨trivial,zac h,rfl⟩,rfl,x_in h,(),⟨trivial,.refl _,rfl⟩,rfl,rfl,(),⟨trivial,.refl _,rfl⟩,rfl,rfl,(),⟨trivial,.refl _,rfl⟩,rfl,zabP w4I _ rfl,(),⟨trivial,zac w4I,rfl⟩,(),⟨trivial,.refl _,rfl⟩,rfl,rfl,rfl,decide_eq_false (by omega),x_in w4I,(),⟨trivial,.refl _,rfl⟩,RI.deepI zI (wd.trans wd4),(),⟨trivial,zaeC h 10 _ .lst,rfl⟩,.refl _,.rfl⟩
                   refine zag5 (upR w) 10 _ _ _ [q.1] ?_
                   show FOk _ _ _ _ _ ⟨i0 ((w.out.map xE).length:Int),xHp 1 (all.map encT) (plc all w) (w.deep-1) (w.out.map xE++[rgV 10 (zaab s.ts).at_ (numN (zaab w4.ts).text) (zaab s.ts).text [i0 (q.1:Int)]]) (badE w) (badP w),_⟩
                   rw [wd,wo,wd4,wo4]
                   exact fin (((((((zaaR.add (conC hI2 (conC hI1 (con1 (hI4 true h41))))).add (zalG hArg)).add (con1 (f:=zaar) hD)).add (con1 (f:=zaap) hx)).add (conC hW4 (con1 hW))).add (zalG hN)).add (con1 hA2)) rfl z
                 · rw [if_neg hm]
                   have z:zaAg _ _ _ _ _ _ _ _ _ _ _ _ _ _ _ _ _ _ _ _ _ _:=(zaoU (all.map encT) (plc all s) s.deep (s.out.map xE) (zaab s.ts).text (zaab w4.ts).text (zaab s.ts).at_ (numN (zaab w4.ts).text) (plc all u) (plc all q.2) q.2.deep (q.2.out.map xE) (badE q.2) (badP q.2) q.1 0 0 0 (plc all w4) (badE (zaa1 15 w4)) (badP (zaa1 15 w4))).mpr
                     ⟨(),⟨trivial,.refl _,rfl⟩,rfl,(),⟨trivial,.refl _,rfl⟩,rfl,zabP h _ rfl,x_in h,zafj TI pT _ rfl,kk,(),⟨trivial,zac h,rfl⟩,rfl,x_in h,(),⟨trivial,.refl _,rfl⟩,rfl,rfl,(),⟨trivial,.refl _,rfl⟩,rfl,rfl,(),⟨trivial,.refl _,rfl⟩,rfl,zabP w4I _ rfl,(),⟨trivial,zac w4I,rfl⟩,(),⟨trivial,.refl _,rfl⟩,rfl,rfl,rfl,decide_eq_true (by omega),(),⟨trivial,.refl _,rfl⟩,.refl _,.rfl⟩
                   have g:=fin (((((((zaaR.add (conC hI2 (conC hI1 (con1 (hI4 true h41))))).add (zalG hArg)).add (con1 (f:=zaar) hD)).add (con1 (f:=zaap) hx)).add (con1 hW4)).add (zalG hN)).add (con1 hF4)) rfl z
                   refine x_no (s:=w4) (c:=1) 15 ?_ (.inr rfl)
                   rw [wd4,wo4];exact g
           · rw [if_neg hf3]
             have hf2:zaaB (zaab s.ts).text=2:=by rcases zahO (zaab s.ts).text with c|c|c|c<;>first|exact absurd c hf0|exact absurd c hf1|exact c|exact absurd c hf3
             obtain ⟨rfl,rfl⟩:=ha2 hf2
             show FOk _ _ _ _ _ ⟨i0 ((addR ⟨10,(zaab s.ts).at_,0,(zaab s.ts).text,[q.1]⟩ (upR (zabz 3 q.2).2)).1:Int),_,_⟩
             obtain ⟨b,w,ew,wd,wo,_,hW⟩:=zajZ qI 3 (by decide)
             have gw:=gsq.want (c:=3) (by decide)
             simp only [ew] at gw ⊢
             have zI:XInv all (upR w):=h.of_RI hd (RI.up (k:=0) gw)
             have hA:=zakR zI 10 (zaab s.ts).at_ 0 (zaab s.ts).text [q.1]
             unfold xQ at hA hW
             have hA2:FOk Tryz.prog gl0 zabN (xArg::[rgV 10 (zaab s.ts).at_ 0 (zaab s.ts).text [i0 (q.1:Int)]]) (xHp 0 (all.map encT) (plc all w) (w.deep-1) (w.out.map xE) (badE w) (badP w)) ⟨i0 ((w.out.map xE).length:Int),xHp 1 (all.map encT) (plc all w) (w.deep-1) (w.out.map xE++[rgV 10 (zaab s.ts).at_ 0 (zaab s.ts).text [i0 (q.1:Int)]]) (badE w) (badP w),[1048577,1048578]⟩:=hA
             rw [wd,wo] at hA2
             have z:zaGn _ _ _ _ _ _ _ _ _ _ _ _ _ _ _ _ _ _:=(zat8 (all.map encT) (plc all s) s.deep (s.out.map xE) (zaab s.ts).text (zaab s.ts).at_ (plc all u) (plc all q.2) q.2.deep (q.2.out.map xE) (badE q.2) (badP q.2) q.1 (plc all w) (badE w) (badP w) b).mpr
               ⟨(),⟨trivial,.refl _,rfl⟩,rfl,(),⟨trivial,.refl _,rfl⟩,rfl,zabP h _ rfl,x_in h,zafj TI pT _ rfl,kk,(),⟨trivial,zac h,rfl⟩,rfl,x_in h,(),⟨trivial,.refl _,rfl⟩,rfl,rfl,(),⟨trivial,.refl _,rfl⟩,rfl,rfl,rfl,(),⟨trivial,.refl _,rfl⟩,RI.deepI zI wd,(),⟨trivial,zaeC h 10 0 .lst,rfl⟩,.refl _,.rfl⟩
             refine zag5 (upR w) 10 _ 0 _ [q.1] ?_
             show FOk _ _ _ _ _ ⟨i0 ((w.out.map xE).length:Int),xHp 1 (all.map encT) (plc all w) (w.deep-1) (w.out.map xE++[rgV 10 (zaab s.ts).at_ 0 (zaab s.ts).text [i0 (q.1:Int)]]) (badE w) (badP w),_⟩
             rw [wd,wo]
             exact fin (((base.add (con1 (f:=zaap) hx)).add (con1 hW)).add (con1 hA2)) rfl z
abbrev BL (f:Nat)(xs:List AV)(σ:Hp)(r:Ex × Back):Prop:=zab9 Tryz.prog gl0 (fn f).ntmps (zaaX (code f) 0) [0,3] (fun _=>[3]) xs σ fun _ q=>q=r
theorem zapF (c:Nat)(all:List Tk)(t:RS)(k:Nat):aget (xS c all t) k=if k=1048577 then some ⟨[0,c],.row true 5 (t.out.map xE)⟩ else if k=1048578 then some ⟨[1,0],.row false 6 [.agg ([.lst false 3 (all.map encT),i0 ((all.length:Int)-t.ts.length),i0 t.deep] ++ .slc 1048577 [0,c] 0 (t.out.map xE).length::[i0 (badE t),i0 (badP t)])]⟩ else none:=by
 unfold xS xHp
 simp only [hpL]
 rw [zaad,zaad,zaax];rfl
variable {f:Nat} {all:List Tk}
theorem zaDC {t:RS}{xs:List AV}{σ:Hp}{v:Int}{ws:List Nat}(h:BL f xs σ (exX v (xS 0 all t) ws))(hw:∀ k,k∈ws->k=1048577∨k=1048578):BL f xs σ (exX v (xS 1 all t) [1048577,1048578]):=by
 have hg:=fun c=>zapF c all t
 refine zab9.ren (l:=1048577) (lp:=1048578) (i:=[0,0]) (i':=[0,1]) (ip:=[1,0]) (kk:=0) (ss:=0) h ?_ ((hg 0 _).trans (if_pos rfl)) ((hg 0 _).trans ((if_neg (by decide)).trans (if_pos rfl))) ?_ rfl rfl ⟨[0],rfl⟩ (by decide) (by decide) (hg 1) ?_ ?_ ?_
 · intro z hz;rw [List.mem_singleton] at hz;subst hz;exact .inl rfl
 · intro k e hk
   have hk:=(hg 0 k).symm.trans hk
   split at hk
   · exact .inl ‹_›
   · split at hk
     · exact .inr ‹_›
     · cases hk
 · intro k hk
   rcases hw k hk with rfl|rfl<;>decide
 · decide
 · decide
theorem zard (z:RS)(k a:Int)(ps:List Nat)(c:Nat):xS c all (addR ⟨k,a,0,ByteArray.empty,ps⟩ z).2=xHp c (all.map encT) (plc all z) z.deep (z.out.map xE++[rgV k a 0 ByteArray.empty (ps.map fun j:Nat=>i0 (j:Int))]) (badE z) (badP z):=by
 show xHp c _ (plc all z) z.deep ((z.out++[(⟨k,a,0,ByteArray.empty,ps⟩:RN)]).map xE) (badE z) (badP z)=_
 rw [List.map_append];rfl
attribute [local irreducible] runL in
theorem zaBR (ih:IH all f):∀ (n:Nat) (r:Nat × RS),XInv all r.2->(r.2.bad=none->r.2.deep<=24)->r.2.ts.length<=n->5*r.2.ts.length<=f ->
  BL zaaY [xArg,i0 r.1] (xS 0 all r.2) (exX (zab7 (RP f .part) kmT (isR 9) n r).1 (xS 1 all (zab7 (RP f .part) kmT (isR 9) n r).2) [1048577,1048578]):=by
 have fin:∀ {X:WX} (hX:X.Sound) (hp:X.px=X0) {os:Orc} {P:Prop} {v':Int} {σ':Hp} {r':Ex × Back} {fc:List Nat} {v:Int} {σ:Hp} {r:Ex × Back},(P->BL zaaY [xArg,i0 v'] σ' r')->gXL (XQn X zaaY [18,20]) zaaY os P v' σ' r' fc v σ r->BL zaaY [xArg,i0 v] σ r:=by
  intro X hX hp os P v' σ' r' fc v σ r hi g
  have hP:X.px.P=Tryz.prog:=by rw [hp];rfl
  have hg:X.px.gl=gl0:=by rw [hp];rfl
  have:=lp_round1 (X:=XQn X zaaY [18,20]) ((hX.ask askX).askAt zaaY _) (f:=zaaY) (fn:=fn zaaY) (code:=code zaaY) (by show X.px.P.funcs[zaaY]?=_;rw [hP];exact fnOk zaaY (by kernel_rfl)) (by kernel_rfl) (by decide) (fun p=>by show zab9 X.px.P X.px.gl _ _ _ _ _ _ _;rw [hP,hg];exact hi p) g
  show zab9 Tryz.prog gl0 _ _ _ _ _ _ _;rw [<-hg,<-hP];exact this
 intro n
 induction n with
 | zero =>
  intro r h hd hl hf
  have hne:=zahr h.ok
  cases hts:r.2.ts with
  | nil=>exact absurd hts hne
  | cons t u=>rw [hts] at hl;simp at hl
 | succ n ihn =>
  intro r h hd hl hf
  rw [zab7]
  cases hi:isR 9 r.2 with
  | false =>
   simp only [Bool.false_eq_true,if_false]
   have q:gLTE (Orc.f Orc.z) False _ _ _ _ _ _ _:=(zazt False (all.map encT) (plc all r.2) r.2.deep (r.2.out.map xE) (badE r.2) (badP r.2) r.1).mpr ⟨(),⟨trivial,.refl _,rfl⟩,rfl,rfl,.refl _,.rfl⟩
   exact zaDC (fin (zaaR.add (con1 (zauL h hi))) rfl (fun c=>c.elim) q) (fun k hk=>nomatch hk)
  | true =>
   simp only [if_true]
   have rb:=(zaaA hi).1
   have rk:=(zaaA hi).2
   have hk:(zaab r.2.ts).kind≠11:=by rw [rk];decide
   have r24:=hd rb
   have gt:=(RI.refl h.ok h.bad).take hk
   have TI:XInv all (zaaI r.2):=h.of_RI r24 gt
   have tl:(zaaI r.2).ts.length+1=r.2.ts.length:=zabo h.ok hk
   have hx:=x_lv (s:=zaaI r.2) rb (ih .part (zaaI r.2) TI rb r24 (by show _+3<=_;omega))
   have gq:=gt.trans rb (zadQ f .part (zaaI r.2) TI.ok TI.bad)
   have ql:(RP f .part (zaaI r.2)).2.ts.length<=(zaaI r.2).ts.length:=(zadQ f .part (zaaI r.2) TI.ok TI.bad).suf.length_le
   rw [show plc all (zaaI r.2)=plc all r.2+1 from zag4 h hk] at hx
   generalize RP f .part (zaaI r.2)=q at hx gq ql ⊢
   rw [show kmT (zaab r.2.ts).kind=4 from by rw [rk];rfl]
   have gz:RI 0 0 r.2 (addR ⟨4,(zaab r.2.ts).at_,0,ByteArray.empty,[r.1,q.1]⟩ q.2).2:=gq.add _
   have zI:=h.of_RI r24 gz
   have qI:=h.of_RI r24 gq
   have hn:=ihn (addR ⟨4,(zaab r.2.ts).at_,0,ByteArray.empty,[r.1,q.1]⟩ q.2) zI (fun hb=>by have:=gz.dn hb;omega) (by show q.2.ts.length<=n;omega) (by show 5*q.2.ts.length<=f;omega)
   generalize zab7 (RP f .part) kmT (isR 9) n (addR ⟨4,(zaab r.2.ts).at_,0,ByteArray.empty,[r.1,q.1]⟩ q.2)=R at hn ⊢
   rw [zard] at hn
   have lm:(q.2.out.map xE).length=q.2.out.length:=List.length_map ..
   have hn:BL zaaY [xArg,i0 (q.2.out.length:Int)] _ _:=hn
   rw [<-lm] at hn
   have z:gLT9 (Orc.t Orc.z) True _ _ _ _ _ _ _ _ _ _ _ _ _ _ _ _ _ _:=(zazu True (all.map encT) (plc all r.2) r.2.deep (r.2.out.map xE) r.1 (plc all q.2) q.2.deep (q.2.out.map xE) (badE q.2) (badP q.2) q.1 (zaab r.2.ts).at_ R.1 (plc all R.2) R.2.deep (R.2.out.map xE) (badE R.2) (badP R.2)).mpr ⟨(),⟨trivial,.refl _,rfl⟩,rfl,zabP h _ rfl,x_in h,(),⟨trivial,.refl _,rfl⟩,(),⟨trivial,zaed all h 4 _,rfl⟩,(),⟨trivial,.refl _,rfl⟩,rfl,.refl _,.rfl⟩
   rw [zabD rb]
   exact fin (((zaaR.add (con1 (zafG h rb hi))).add (con1 (f:=zaaU) hx)).add (con1 (zah4 qI 4 (zaab r.2.ts).at_ [r.1,q.1]))) rfl (fun _=>hn) z
attribute [local irreducible] runF in
theorem zarb (ih:IH all f){s:RS}(h:XInv all s)(hb:s.bad=none)(hd:s.deep<=24)(hf:5*s.ts.length+4<=f+1):LvOk all (f+1) .term s:=by
 unfold LvOk
 rw [zabD hb,RP]
 have ha:=x_lv hb (ih .part s h hb hd (by show _+3<=_;omega))
 have ga:=zadQ f .part s h.ok h.bad
 generalize RP f .part s=A at ha ga ⊢
 have al:A.2.ts.length<=s.ts.length:=ga.suf.length_le
 have hl:=zaBR ih f A (h.of_RI hd ga) (fun hb=>by have:=ga.dn hb;omega) (by omega) (by omega)
 generalize zab7 (RP f .part) kmT (isR 9) f A=R at hl ⊢
 have q:gFT _ _ _ _ _ _ _ _ _ _ _ _ _ _ _ _ _:=(zaCG (all.map encT) (plc all s) s.deep (s.out.map xE) (plc all A.2) A.2.deep (A.2.out.map xE) (badE A.2) (badP A.2) A.1 R.1 (plc all R.2) R.2.deep (R.2.out.map xE) (badE R.2) (badP R.2)).mpr ⟨(),⟨trivial,.refl _,rfl⟩,(),⟨trivial,.refl _,rfl⟩,.refl _,.rfl⟩
 have hX:=(zaaR.add (con1 (f:=zaaU) ha)).addLp (fnOk zaaY (by kernel_rfl)) (show (fn zaaY).body=some (code zaaY) by kernel_rfl) (by kernel_rfl)
  (Spl.ok (L:=Lp1 [0,3] [] (fun _=>[3]) True [xArg,i0 A.1] (xS 0 all A.2) (exX R.1 (xS 1 all R.2) [1048577,1048578])) (l:=[⟨Unit,fun _=>True,fun _=>[xArg,i0 A.1],fun _=>xS 0 all A.2,fun _=>exX R.1 (xS 1 all R.2) [1048577,1048578]⟩]) rfl (show ([0,3]:List Nat).Nodup by decide) fun s' hs' i _=>by obtain rfl:=List.mem_singleton.1 hs';exact hl)
 exact zade (d:=14) (hX.ask askX) (f:=zaaY) (fn:=fn zaaY) (code:=code zaaY) (fnOk zaaY (by kernel_rfl)) (by kernel_rfl) (by kernel_rfl) q
attribute [local irreducible] runL in
theorem zaBU (ih:IH all f):∀ (n:Nat) (r:Nat × RS),XInv all r.2->(r.2.bad=none->r.2.deep<=24)->r.2.ts.length<=n->5*r.2.ts.length<=f ->
  BL zaap [xArg,i0 r.1] (xS 0 all r.2) (exX (zab7 (RP f .term) kmE isE n r).1 (xS 1 all (zab7 (RP f .term) kmE isE n r).2) [1048577,1048578]):=by
 have fin:∀ {X:WX} (hX:X.Sound) (hp:X.px=X0) {os:Orc} {P:Prop} {v':Int} {σ':Hp} {r':Ex × Back} {fc:List Nat} {v:Int} {σ:Hp} {r:Ex × Back},(P->BL zaap [xArg,i0 v'] σ' r')->gXL (XQn X zaap [22,24]) zaap os P v' σ' r' fc v σ r->BL zaap [xArg,i0 v] σ r:=by
  intro X hX hp os P v' σ' r' fc v σ r hi g
  have hP:X.px.P=Tryz.prog:=by rw [hp];rfl
  have hg:X.px.gl=gl0:=by rw [hp];rfl
  have:=lp_round1 (X:=XQn X zaap [22,24]) ((hX.ask askX).askAt zaap _) (f:=zaap) (fn:=fn zaap) (code:=code zaap) (by show X.px.P.funcs[zaap]?=_;rw [hP];exact fnOk zaap (by kernel_rfl)) (by kernel_rfl) (by decide) (fun p=>by show zab9 X.px.P X.px.gl _ _ _ _ _ _ _;rw [hP,hg];exact hi p) g
  show zab9 Tryz.prog gl0 _ _ _ _ _ _ _;rw [<-hg,<-hP];exact this
 intro n
 induction n with
 | zero =>
  intro r h hd hl hf
  have hne:=zahr h.ok
  cases hts:r.2.ts with
  | nil=>exact absurd hts hne
  | cons t u=>rw [hts] at hl;simp at hl
 | succ n ihn =>
  intro r h hd hl hf
  rw [zab7]
  cases hi7:isR 7 r.2 with
  | false =>
   cases hi8:isR 8 r.2 with
   | false =>
    have hE:isE r.2=false:=by unfold isE;rw [hi7,hi8];rfl
    rw [hE]
    simp only [Bool.false_eq_true,if_false]
    have q:gLEE zaE3 False _ _ _ _ _ _ _:=(zazv False (all.map encT) (plc all r.2) r.2.deep (r.2.out.map xE) (badE r.2) (badP r.2) r.1).mpr ⟨(),⟨trivial,.refl _,rfl⟩,rfl,rfl,(),⟨trivial,.refl _,rfl⟩,rfl,rfl,.refl _,.rfl⟩
    exact zaDC (fin (zaaR.add (conC (zauL h hi7) (con1 (zauL h hi8)))) rfl (fun c=>c.elim) q) (fun k hk=>nomatch hk)
   | true =>
    have hE:isE r.2=true:=by unfold isE;rw [hi7,hi8];rfl
    rw [hE]
    simp only [if_true]
    have rb:=(zaaA hi8).1
    have rk:=(zaaA hi8).2
    have hk:(zaab r.2.ts).kind≠11:=by rw [rk];decide
    have r24:=hd rb
    have gt:=(RI.refl h.ok h.bad).take hk
    have TI:XInv all (zaaI r.2):=h.of_RI r24 gt
    have tl:(zaaI r.2).ts.length+1=r.2.ts.length:=zabo h.ok hk
    have hx:=x_lv (s:=zaaI r.2) rb (ih .term (zaaI r.2) TI rb r24 (by show _+4<=_;omega))
    have gq:=gt.trans rb (zadQ f .term (zaaI r.2) TI.ok TI.bad)
    have ql:(RP f .term (zaaI r.2)).2.ts.length<=(zaaI r.2).ts.length:=(zadQ f .term (zaaI r.2) TI.ok TI.bad).suf.length_le
    rw [show plc all (zaaI r.2)=plc all r.2+1 from zag4 h hk] at hx
    generalize RP f .term (zaaI r.2)=q at hx gq ql ⊢
    rw [show kmE (zaab r.2.ts).kind=3 from by rw [rk];rfl]
    have gz:RI 0 0 r.2 (addR ⟨3,(zaab r.2.ts).at_,0,ByteArray.empty,[r.1,q.1]⟩ q.2).2:=gq.add _
    have zI:=h.of_RI r24 gz
    have qI:=h.of_RI r24 gq
    have hn:=ihn (addR ⟨3,(zaab r.2.ts).at_,0,ByteArray.empty,[r.1,q.1]⟩ q.2) zI (fun hb=>by have:=gz.dn hb;omega) (by show q.2.ts.length<=n;omega) (by show 5*q.2.ts.length<=f;omega)
    generalize zab7 (RP f .term) kmE isE n (addR ⟨3,(zaab r.2.ts).at_,0,ByteArray.empty,[r.1,q.1]⟩ q.2)=R at hn ⊢
    rw [zard] at hn
    have lm:(q.2.out.map xE).length=q.2.out.length:=List.length_map ..
    have hn:BL zaap [xArg,i0 (q.2.out.length:Int)] _ _:=hn
    rw [<-lm] at hn
    have z:gLE8 zaE4 True _ _ _ _ _ _ _ _ _ _ _ _ _ _ _ _ _ _:=(zazw True (all.map encT) (plc all r.2) r.2.deep (r.2.out.map xE) r.1 (plc all q.2) q.2.deep (q.2.out.map xE) (badE q.2) (badP q.2) q.1 (zaab r.2.ts).at_ R.1 (plc all R.2) R.2.deep (R.2.out.map xE) (badE R.2) (badP R.2)).mpr ⟨(),⟨trivial,.refl _,rfl⟩,rfl,rfl,(),⟨trivial,.refl _,rfl⟩,rfl,zabP h _ rfl,(),⟨trivial,.refl _,rfl⟩,rfl,x_in h,(),⟨trivial,.refl _,rfl⟩,(),⟨trivial,zaed all h 3 _,rfl⟩,(),⟨trivial,.refl _,rfl⟩,rfl,.refl _,.rfl⟩
    rw [zabD rb]
    exact fin (((zaaR.add (conC (zafG h rb hi7) (con1 (zafG h rb hi8)))).add (con1 (f:=zaaY) hx)).add (con1 (zah4 qI 3 (zaab r.2.ts).at_ [r.1,q.1]))) rfl (fun _=>hn) z
  | true =>
   have hE:isE r.2=true:=by unfold isE;rw [hi7];rfl
   rw [hE]
   simp only [if_true]
   have hi8:isR 8 r.2=false:=by unfold isR;rw [(zaaA hi7).2];simp
   have rb:=(zaaA hi7).1
   have rk:=(zaaA hi7).2
   have hk:(zaab r.2.ts).kind≠11:=by rw [rk];decide
   have r24:=hd rb
   have gt:=(RI.refl h.ok h.bad).take hk
   have TI:XInv all (zaaI r.2):=h.of_RI r24 gt
   have tl:(zaaI r.2).ts.length+1=r.2.ts.length:=zabo h.ok hk
   have hx:=x_lv (s:=zaaI r.2) rb (ih .term (zaaI r.2) TI rb r24 (by show _+4<=_;omega))
   have gq:=gt.trans rb (zadQ f .term (zaaI r.2) TI.ok TI.bad)
   have ql:(RP f .term (zaaI r.2)).2.ts.length<=(zaaI r.2).ts.length:=(zadQ f .term (zaaI r.2) TI.ok TI.bad).suf.length_le
   rw [show plc all (zaaI r.2)=plc all r.2+1 from zag4 h hk] at hx
   generalize RP f .term (zaaI r.2)=q at hx gq ql ⊢
   rw [show kmE (zaab r.2.ts).kind=2 from by rw [rk];rfl]
   have gz:RI 0 0 r.2 (addR ⟨2,(zaab r.2.ts).at_,0,ByteArray.empty,[r.1,q.1]⟩ q.2).2:=gq.add _
   have zI:=h.of_RI r24 gz
   have qI:=h.of_RI r24 gq
   have hn:=ihn (addR ⟨2,(zaab r.2.ts).at_,0,ByteArray.empty,[r.1,q.1]⟩ q.2) zI (fun hb=>by have:=gz.dn hb;omega) (by show q.2.ts.length<=n;omega) (by show 5*q.2.ts.length<=f;omega)
   generalize zab7 (RP f .term) kmE isE n (addR ⟨2,(zaab r.2.ts).at_,0,ByteArray.empty,[r.1,q.1]⟩ q.2)=R at hn ⊢
   rw [zard] at hn
   have lm:(q.2.out.map xE).length=q.2.out.length:=List.length_map ..
   have hn:BL zaap [xArg,i0 (q.2.out.length:Int)] _ _:=hn
   rw [<-lm] at hn
   have z:gLE7 zaE5 True _ _ _ _ _ _ _ _ _ _ _ _ _ _ _ _ _ _:=(zazx True (all.map encT) (plc all r.2) r.2.deep (r.2.out.map xE) r.1 (plc all q.2) q.2.deep (q.2.out.map xE) (badE q.2) (badP q.2) q.1 (zaab r.2.ts).at_ R.1 (plc all R.2) R.2.deep (R.2.out.map xE) (badE R.2) (badP R.2)).mpr ⟨(),⟨trivial,.refl _,rfl⟩,rfl,rfl,rfl,zabP h _ rfl,(),⟨trivial,.refl _,rfl⟩,rfl,x_in h,(),⟨trivial,.refl _,rfl⟩,(),⟨trivial,zaed all h 2 _,rfl⟩,(),⟨trivial,.refl _,rfl⟩,rfl,.refl _,.rfl⟩
   rw [zabD rb]
   exact fin (((zaaR.add (conC (zafG h rb hi7) (con1 (zafG h rb hi8)))).add (con1 (f:=zaaY) hx)).add (con1 (zah4 qI 2 (zaab r.2.ts).at_ [r.1,q.1]))) rfl (fun _=>hn) z
attribute [local irreducible] runF in
theorem zarh (ih:IH all f){s:RS}(h:XInv all s)(hb:s.bad=none)(hd:s.deep<=24)(hf:5*s.ts.length+5<=f+1):LvOk all (f+1) .expr s:=by
 unfold LvOk
 rw [zabD hb,RP]
 have ha:=x_lv hb (ih .term s h hb hd (by show _+4<=_;omega))
 have ga:=zadQ f .term s h.ok h.bad
 generalize RP f .term s=A at ha ga ⊢
 have al:A.2.ts.length<=s.ts.length:=ga.suf.length_le
 have hl:=zaBU ih f A (h.of_RI hd ga) (fun hb=>by have:=ga.dn hb;omega) (by omega) (by omega)
 generalize zab7 (RP f .term) kmE isE f A=R at hl ⊢
 have q:gFE _ _ _ _ _ _ _ _ _ _ _ _ _ _ _ _ _:=(zaCH (all.map encT) (plc all s) s.deep (s.out.map xE) (plc all A.2) A.2.deep (A.2.out.map xE) (badE A.2) (badP A.2) A.1 R.1 (plc all R.2) R.2.deep (R.2.out.map xE) (badE R.2) (badP R.2)).mpr ⟨(),⟨trivial,.refl _,rfl⟩,(),⟨trivial,.refl _,rfl⟩,.refl _,.rfl⟩
 have hX:=(zaaR.add (con1 (f:=zaaY) ha)).addLp (fnOk zaap (by kernel_rfl)) (show (fn zaap).body=some (code zaap) by kernel_rfl) (by kernel_rfl)
  (Spl.ok (L:=Lp1 [0,3] [] (fun _=>[3]) True [xArg,i0 A.1] (xS 0 all A.2) (exX R.1 (xS 1 all R.2) [1048577,1048578])) (l:=[⟨Unit,fun _=>True,fun _=>[xArg,i0 A.1],fun _=>xS 0 all A.2,fun _=>exX R.1 (xS 1 all R.2) [1048577,1048578]⟩]) rfl (show ([0,3]:List Nat).Nodup by decide) fun s' hs' i _=>by obtain rfl:=List.mem_singleton.1 hs';exact hl)
 exact zade (d:=14) (hX.ask askX) (f:=zaap) (fn:=fn zaap) (code:=code zaap) (fnOk zaap (by kernel_rfl)) (by kernel_rfl) (by kernel_rfl) q
theorem zaBS (hsz:∀ t∈all,t.text.size<=1000000):∀ f:Nat,IH all f:=by
 intro f
 induction f with
 | zero=>intro lv s _ _ _ hf;cases lv<;>(simp [offL] at hf)
 | succ f ih =>
  intro lv s h hb hd hf
  cases lv with
  | expr=>exact zarh ih h hb hd hf
  | term=>exact zarb ih h hb hd hf
  | part=>exact zare ih h hb hd hf
  | ranged=>exact zarc ih h hb hd hf
  | atom=>exact zari hsz ih h hb hd hf
abbrev jw (s:ByteArray)(ys:List AV)(i n:Int):List AV:=[s0 s,.lit (.slice none 0 0),i0 0,i0 0,.slc 1048577 [0,0] 0 ys.length,i0 i,i0 n]
abbrev jwO (s:ByteArray)(ys:List AV)(i n:Int):Ex × Back:=(.exit 3,⟨.tup (jw s ys i n),zaaM ys,[]⟩)
abbrev lpJW (P:Prop)(s:ByteArray)(ys:List AV)(i n w:Int):Lp:=Lp1 [0,2,3,4,5,6,8] [] (fun _=>[0,2,3,4,5,6,8]) P (jw s ys i n) (zaaM ys) (jwO s ys i w)
def rJW (os:Orc)(P:Prop)(s:ByteArray)(ys:List AV)(i n w:Int):Prop:=runL (XJ.ask [zabj]) 8 zabj (fn zabj).ntmps (zaaX (code zabj) 3) (lpJW P s ys i (n+1) w) (lpJW P s ys i (n+1) w) os 0 [] (jw s ys i n) (zaaM ys) (jwO s ys i w)
def zafy (s:ByteArray)(ys:List AV)(i:Int):List AV:=[s0 s,.lit (.slice none 0 0),i0 0,i0 0,.slc 1048577 [0,0] 0 ys.length,i0 i]
def jxR (c:Nat)(ex:Ex)(s:ByteArray)(e j:Int)(ys:List AV):Ex × Back:=(ex,⟨.tup [s0 s,.lit (.slice none 0 0),i0 e,i0 j,.slc 1048577 [0,c] 0 ys.length],hpL [(1048577,⟨[0,c],.row true 3 ys⟩)],[1048577]⟩)
abbrev lpJX (Q:Int->List AV->Prop)(s:ByteArray)(r:Ex × Back):Lp:=⟨[0,2,3,4,5,6],[(5,3)],fun _=>[0,2,3,4,5],Spl.con [⟨Int × List AV,fun q=>Q q.1 q.2,fun q=>zafy s q.2 q.1,fun q=>zaaM q.2,fun _=>r⟩]⟩
def XJX (s:ByteArray)(ys:List AV)(i w:Int):WX:=XJ.addLp zabj 3 (lpJW True s ys i 1 w)
def rJX (X:WX)(os:Orc)(fc:List Nat)(Q:Int->List AV->Prop)(s:ByteArray)(ys:List AV)(i:Int)(r r':Ex × Back):Prop :=
 runL (X.ask [zabj]) 10 zabj (fn zabj).ntmps (zaaX (code zabj) 0) (lpJX Q s r') (lpJX Q s r') os 0 fc (zafy s ys i) (zaaM ys) r
def rJXE (os:Orc)(Q:Int->List AV->Prop)(s:ByteArray)(ys:List AV)(i:Int):Prop:=rJX XJ os [] Q s ys i (jxR 0 (.exit 0) s 0 0 ys) (jxR 0 (.exit 0) s 0 0 ys)
def rJXX (os:Orc)(Q:Int->List AV->Prop)(s:ByteArray)(ys:List AV)(i:Int):Prop:=rJX XJ os [] Q s ys i (jxR 0 .ret s 15 i ys) (jxR 0 .ret s 15 i ys)
def rJXA (X:WX)(os:Orc)(Q:Int->List AV->Prop)(ex:Ex)(s:ByteArray)(e j:Int)(ys zs:List AV)(i:Int):Prop:=rJX X os [1048577] Q s ys i (jxR 1 ex s e j zs) (jxR 1 ex s e j zs)
def zaG2 (os:Orc)(Q:Int->List AV->Prop)(s:ByteArray)(ys:List AV)(i:Int):Prop:=rJXX os Q s ys i
def zaG1 (os:Orc)(Q:Int->List AV->Prop)(s:ByteArray)(ys:List AV)(i:Int):Prop:=rJXX os Q s ys i
def zaG0 (os:Orc)(Q:Int->List AV->Prop)(s:ByteArray)(ys:List AV)(i:Int):Prop:=rJXX os Q s ys i
def zaGZ (os:Orc)(Q:Int->List AV->Prop)(s:ByteArray)(ys:List AV)(i:Int):Prop:=rJXX os Q s ys i
def rJXB (os:Orc)(Q:Int->List AV->Prop)(ex:Ex)(s:ByteArray)(e j:Int)(ys zs:List AV)(i:Int):Prop:=rJXA XJ os Q ex s e j ys zs i
def rJXR (os:Orc)(Q:Int->List AV->Prop)(ex:Ex)(s:ByteArray)(e j:Int)(ys zs:List AV)(i:Int):Prop:=rJXA XJ os Q ex s e j ys zs i
def rJXD (os:Orc)(Q:Int->List AV->Prop)(ex:Ex)(s:ByteArray)(e j:Int)(ys zs:List AV)(i:Int):Prop:=rJXA XJ os Q ex s e j ys zs i
def zaEc (os:Orc)(Q:Int->List AV->Prop)(ex:Ex)(s:ByteArray)(e j:Int)(ys zs:List AV)(i:Int):Prop:=rJXA XJ os Q ex s e j ys zs i
def zaEb (os:Orc)(Q:Int->List AV->Prop)(ex:Ex)(s:ByteArray)(e j:Int)(ys zs:List AV)(i:Int):Prop:=rJXA XJ os Q ex s e j ys zs i
def rJXW (os:Orc)(Q:Int->List AV->Prop)(ex:Ex)(s:ByteArray)(e j:Int)(ys zs:List AV)(i w:Int):Prop:=rJXA (XJX s ys i w) os Q ex s e j ys zs i
def gJX (os:Orc)(s:ByteArray)(r:Ex × Back)(x:AV):Prop:=runF ((XJ.addLp zabj 0 (lpJX (fun i ys=>i=0/\ys=[]) s r)).ask [zabj]) 10 zabj (fn zabj) (code zabj) os 1 [] [s0 s] .nil ⟨x,.nil,[]⟩
def gJXL (os:Orc)(s:ByteArray):Prop:=runF (XJ.ask [zabj]) 10 zabj (fn zabj) (code zabj) os 1 [] [s0 s] .nil ⟨.tup [.lst false 3 [],i0 5,i0 0],.nil,[]⟩
def gJXA (os:Orc)(s:ByteArray)(zs:List AV):Prop:=gJX os s (jxR 1 (.exit 0) s 0 0 zs) (.tup [.lst false 3 (zs++[.agg [i0 11,i0 s.size,s0 ByteArray.empty]]),i0 0,i0 0])
def gJXC (os:Orc)(s:ByteArray)(zs:List AV)(j:Int):Prop:=gJX os s (jxR 1 .ret s 15 j zs) (.tup [.lst false 3 [],i0 15,i0 j])
end
end Go.Proofs.YtpofhijgccocpaaGreatDoor
end
section
namespace Go.Proofs.YtpofhijgccocpaaGreatDoor
open Go Go.AS Go.TP
noncomputable abbrev zaik (s:ByteArray)(i:Int):=s0 (ByteArray.extract s (Int.toNat (Option.getD (some i) (0:Int))) (Int.toNat (Option.getD (some (i+1)) (↑(ByteArray.size s):Int))))
noncomputable abbrev zakF (s:ByteArray) (e:Int) (j:Int) (zs:List AV):=(AV.tup [s0 s,AV.lit (Value.slice none 0 0),i0 e,i0 j,AV.slc 1048577 [0,1] 0 (List.length zs)])
noncomputable abbrev zag3 (i:Int)(s:ByteArray):=((0:Int)<=Option.getD (some i) (0:Int)/\Option.getD (some i) (0:Int)<=Option.getD (some (i+1)) (↑(ByteArray.size s):Int)/\Option.getD (some (i+1)) (↑(ByteArray.size s):Int)<=(↑(ByteArray.size s):Int)/\false=false)
noncomputable abbrev zauR (s:ByteArray)(i:Int)(w:Int):=(ByteArray.extract s (Int.toNat (Option.getD (some i) (0:Int))) (Int.toNat (Option.getD (some (i+w)) (↑(ByteArray.size s):Int))))
noncomputable abbrev zaay (s:ByteArray)(i:Int):=(↑(zaaa s (Int.toNat i)):Int)
noncomputable abbrev zasq (i:Int)(w:Int)(s:ByteArray):=((0:Int)<=Option.getD (some i) (0:Int)/\Option.getD (some i) (0:Int)<=Option.getD (some (i+w)) (↑(ByteArray.size s):Int)/\Option.getD (some (i+w)) (↑(ByteArray.size s):Int)<=(↑(ByteArray.size s):Int)/\false=false)
noncomputable abbrev zanr (ys:List AV) (i:Int) (s:ByteArray):=(List.take (List.length ys) (List.drop 0 ys)++[AV.agg [i0 7,i0 i,(zaik s i)]])
noncomputable abbrev zabE (zs:List AV):=(hpL [eR 1048577 [0,1] 3 zs])
noncomputable abbrev zaEg (s:ByteArray)(i:Int):=s0 (ByteArray.extract s (Int.toNat (Option.getD (some i) (0:Int))) (Int.toNat (Option.getD (some (i+2)) (↑(ByteArray.size s):Int))))
noncomputable abbrev zag2 (ys:List AV):=(true&&Nat.ble (0+List.length ys) (List.length ys))
noncomputable abbrev zaeo (ys:List AV):=AV.slc 1048577 [0,0] 0 (List.length ys)
def orJW:Orc:=Orc.s (HT (Orc.t (Orc.s Orc.z Orc.z))) (HF (Orc.f (Orc.f Orc.z)))
theorem zaCh (P:Prop)(s:ByteArray)(ys:List AV)(i n w:Int):rJW orJW P s ys i n w=(let z1:=(AV.tup [s0 s,AV.lit (Value.slice none 0 0),i0 0,i0 0,(zaeo ys),i0 i,i0 w]);let z2:=[eR 1048577 [0,0] 3 ys];let z3:=(AV.tup [s0 s,AV.lit (Value.slice none 0 0),i0 0,i0 0,(zaeo ys),i0 i,i0 n]);let z4:=[s0 s,AV.lit (Value.slice none 0 0),i0 0,i0 0,(zaeo ys),i0 i,i0 (n+1)];let z5:=(↑(ByteArray.size s):Int);inR IntKind.i64 (i+n)=true/\(decide (i+n<z5)=true->Yt (Yt (Yt (inR IntKind.i64 (i+n)=true/\Yt (decide ((0:Int)<=i+n/\i+n<z5)=true/\Yt (∃ (i1:Nat),(i1<256/\Wks [u0 (↑(zaaa s (Int.toNat (i+n))):Int)] [u0 (↑i1:Int)]/\hpL []=hpL [])/\(zaaE i1=true->inR IntKind.i64 (n+1)=true/\∃ (_:Unit),(P/\Wks z4 z4/\hpL z2=hpL z2)/\Ex.exit 3=Ex.exit 3/\Wk z1 z1/\SameH (hpL z2) (hpL z2))/\(zaaE i1=false->Ex.exit 3=Ex.exit 3/\Wk z3 z1/\SameH (hpL z2) (hpL z2))))))))/\(decide (i+n<z5)=false->Nf4 (Nf (Nf (Ex.exit 3=Ex.exit 3/\Wk z3 z1/\SameH (hpL z2) (hpL z2)))))):=by kernel_rfl
theorem zapW (Q:Int->List AV->Prop)(s:ByteArray)(ys:List AV)(i:Int):rJXE (Orc.f Orc.z) Q s ys i=(let z1:=(AV.tup [s0 s,AV.lit (Value.slice none 0 0),i0 0,i0 0,(zaeo ys)]);decide (i<(↑(ByteArray.size s):Int))=false/\Ex.exit 0=Ex.exit 0/\Wk z1 z1/\SameH (hpL [eR 1048577 [0,0] 3 ys]) (hpL [eR 1048577 [0,0] 3 ys])):=by kernel_rfl
theorem zazy (s:ByteArray):gJXL (Orc.t Orc.z) s=(decide ((↑(ByteArray.size s):Int)>600)=true/\Wk (AV.tup [AV.lit (Value.slice none 0 0),i0 5,i0 0]) (AV.tup [L3 [],i0 5,i0 0])/\S0):=by kernel_rfl
theorem zazA (s:ByteArray)(zs:List AV):gJXA (Orc.f Orc.z) s zs=(let z1:=(List.take (List.length zs) (List.drop 0 zs)++[AV.agg [i0 11,i0 (↑(ByteArray.size s):Int),s0 ⟨⟨[]⟩⟩]]);decide ((↑(ByteArray.size s):Int)>600)=false/\∃ (i1:Int × List AV),((Prod.fst i1=0/\Prod.snd i1=[])/\Wks [s0 s,AV.lit (Value.slice none 0 0),i0 0,i0 0,AV.slc 1048577 [0,0] 0 0,i0 0] [s0 s,AV.lit (Value.slice none 0 0),i0 0,i0 0,AV.slc 1048577 [0,0] 0 (List.length (Prod.snd i1)),i0 (Prod.fst i1)]/\hpL [eR 1048577 [0,0] 3 []]=hpL [eR 1048577 [0,0] 3 (Prod.snd i1)])/\(true&&(Nat.beq 3 3&&Nat.ble (0+List.length zs) (List.length zs))&&(Nat.beq 3 3&&decide (List.length z1*32<=140737488355328/\List.length z1<=1152921504606846976)))=true/\0+List.length z1<=List.length z1/\Wk (AV.tup [L3 (List.take (List.length z1) (List.drop 0 z1)),i0 0,i0 0]) (AV.tup [L3 (zs++[AV.agg [i0 11,i0 (↑(ByteArray.size s):Int),s0 ByteArray.empty]]),i0 0,i0 0])/\S0):=by kernel_rfl
theorem zazz (s:ByteArray)(zs:List AV)(j:Int):gJXC (Orc.f Orc.z) s zs j=(let z1:=AV.lit (Value.slice none 0 0);decide ((↑(ByteArray.size s):Int)>600)=false/\∃ (i1:Int × List AV),((Prod.fst i1=0/\Prod.snd i1=[])/\Wks [s0 s,z1,i0 0,i0 0,AV.slc 1048577 [0,0] 0 0,i0 0] [s0 s,z1,i0 0,i0 0,AV.slc 1048577 [0,0] 0 (List.length (Prod.snd i1)),i0 (Prod.fst i1)]/\hpL [eR 1048577 [0,0] 3 []]=hpL [eR 1048577 [0,0] 3 (Prod.snd i1)])/\Wk (AV.tup [z1,i0 15,i0 j]) (AV.tup [L3 [],i0 15,i0 j])/\S0):=by kernel_rfl
def zaEn:Orc:=Orc.t (Orc.s (Orc.t (Orc.t (Orc.t (Orc.t Orc.z)))) (Orc.f (Orc.s (Orc.t (Orc.t Orc.z)) (Orc.f (Orc.t Orc.z)))))
theorem zav3 (Q:Int->List AV->Prop)(ex:Ex)(s:ByteArray)(e j:Int)(ys zs:List AV)(i:Int):rJXB zaEn Q ex s e j ys zs i=(let z1:=[s0 s,AV.lit (Value.slice none 0 0),i0 0,i0 0,(zaeo ys),i0 (i+1)];let z2:=(zakF s e j zs);let z3:=AV.lit (Value.slice none 0 0);let z4:=[eR 1048577 [0,0] 3 ys];decide (i<(↑(ByteArray.size s):Int))=true/\decide ((0:Int)<=i/\i<(↑(ByteArray.size s):Int))=true/\(((zaay s i)==32)=true->Yt4 (inR IntKind.i64 (i+1)=true/\∃ (i1:Int × List AV),(Q (Prod.fst i1) (Prod.snd i1)/\Wks z1 [s0 s,z3,i0 0,i0 0,AV.slc 1048577 [0,0] 0 (List.length (Prod.snd i1)),i0 (Prod.fst i1)]/\hpL z4=hpL [eR 1048577 [0,0] 3 (Prod.snd i1)])/\ex=ex/\Wk z2 z2/\SameH (zabE zs) (zabE zs)))/\(((zaay s i)==32)=false->Nf ((((zaay s i)==9)=true->Yt (Yt (inR IntKind.i64 (i+1)=true/\∃ (i2:Int × List AV),(Q (Prod.fst i2) (Prod.snd i2)/\Wks z1 [s0 s,z3,i0 0,i0 0,AV.slc 1048577 [0,0] 0 (List.length (Prod.snd i2)),i0 (Prod.fst i2)]/\hpL z4=hpL [eR 1048577 [0,0] 3 (Prod.snd i2)])/\ex=ex/\Wk z2 z2/\SameH (zabE zs) (zabE zs))))/\(((zaay s i)==9)=false->Nf (((zaay s i)==10)=true/\inR IntKind.i64 (i+1)=true/\∃ (i3:Int × List AV),(Q (Prod.fst i3) (Prod.snd i3)/\Wks z1 [s0 s,z3,i0 0,i0 0,AV.slc 1048577 [0,0] 0 (List.length (Prod.snd i3)),i0 (Prod.fst i3)]/\hpL z4=hpL [eR 1048577 [0,0] 3 (Prod.snd i3)])/\ex=ex/\Wk z2 z2/\SameH (zabE zs) (zabE zs)))))):=by kernel_rfl
def zaEk:Orc:=Orc.t (HF (Orc.f (Orc.t (Orc.s Orc.z (Orc.s Orc.z (Orc.s Orc.z (Orc.s Orc.z Orc.z)))))))
theorem zavX (Q:Int->List AV->Prop)(ex:Ex)(s:ByteArray)(e j:Int)(ys zs:List AV)(i w:Int):rJXW zaEk Q ex s e j ys zs i w=(let z1:=(List.length ys);let z2:=AV.lit (Value.slice none 0 0);let z3:=(List.drop 0 ys);let z4:=s0 (zauR s i w);let z5:=(Nat.beq 3 3&&Nat.ble (0+List.length ys) z1);let z6:=(List.take z1 z3++[AV.agg [i0 10,i0 i,z4]]);let z7:=(List.take z1 z3++[AV.agg [i0 7,i0 i,z4]]);let z8:=(List.take z1 z3++[AV.agg [i0 9,i0 i,z4]]);let z9:=(List.take z1 z3++[AV.agg [i0 8,i0 i,z4]]);let z10:=(List.take z1 z3++[AV.agg [i0 1,i0 i,z4]]);let z11:=(zakF s e j zs);let z12:=(ByteArray.toList (zauR s i w)==ByteArray.toList zam7);let z13:=(ByteArray.toList (zauR s i w)==ByteArray.toList bAnd);let z14:=(ByteArray.toList (zauR s i w)==ByteArray.toList bNot);let z15:=(ByteArray.toList (zauR s i w)==ByteArray.toList bOr);let z16:=[s0 s,z2,i0 0,i0 0,(zaeo ys),i0 i,i0 1];decide (i<(↑(ByteArray.size s):Int))=true/\decide ((0:Int)<=i/\i<(↑(ByteArray.size s):Int))=true/\((zaay s i)==32)=false/\Nf (((zaay s i)==9)=false/\Nf (((zaay s i)==10)=false/\∃ (i1:Nat),(i1<256/\Wks [u0 (zaay s i)] [u0 (↑i1:Int)]/\hpL []=hpL [])/\zaaE i1=true/\U1 z16 [eR 1048577 [0,0] 3 ys] (inR IntKind.i64 (i+w)=true/\decide (zasq i w s)=true/\(z15=true->inR IntKind.i64 (i+w)=true/\decide (zasq i w s)=true/\(true&&z5&&(Nat.beq 3 3&&decide (List.length z7*32<=140737488355328/\List.length z7<=1152921504606846976)))=true/\inR IntKind.i64 (i+w)=true/\∃ (i3:Int × List AV),(Q (Prod.fst i3) (Prod.snd i3)/\Wks [s0 s,z2,i0 0,i0 0,AV.slc 1048577 [0,0] 0 (List.length z7),i0 (i+w)] [s0 s,z2,i0 0,i0 0,AV.slc 1048577 [0,0] 0 (List.length (Prod.snd i3)),i0 (Prod.fst i3)]/\hpL [eR 1048577 [0,0] 3 z7]=hpL [eR 1048577 [0,0] 3 (Prod.snd i3)])/\ex=ex/\Wk z11 z11/\SameH (zabE zs) (zabE zs))/\(z15=false->(z13=true->inR IntKind.i64 (i+w)=true/\decide (zasq i w s)=true/\(true&&z5&&(Nat.beq 3 3&&decide (List.length z8*32<=140737488355328/\List.length z8<=1152921504606846976)))=true/\inR IntKind.i64 (i+w)=true/\∃ (i4:Int × List AV),(Q (Prod.fst i4) (Prod.snd i4)/\Wks [s0 s,z2,i0 0,i0 0,AV.slc 1048577 [0,0] 0 (List.length z8),i0 (i+w)] [s0 s,z2,i0 0,i0 0,AV.slc 1048577 [0,0] 0 (List.length (Prod.snd i4)),i0 (Prod.fst i4)]/\hpL [eR 1048577 [0,0] 3 z8]=hpL [eR 1048577 [0,0] 3 (Prod.snd i4)])/\ex=ex/\Wk z11 z11/\SameH (zabE zs) (zabE zs))/\(z13=false->(z14=true->inR IntKind.i64 (i+w)=true/\decide (zasq i w s)=true/\(true&&z5&&(Nat.beq 3 3&&decide (List.length z6*32<=140737488355328/\List.length z6<=1152921504606846976)))=true/\inR IntKind.i64 (i+w)=true/\∃ (i5:Int × List AV),(Q (Prod.fst i5) (Prod.snd i5)/\Wks [s0 s,z2,i0 0,i0 0,AV.slc 1048577 [0,0] 0 (List.length z6),i0 (i+w)] [s0 s,z2,i0 0,i0 0,AV.slc 1048577 [0,0] 0 (List.length (Prod.snd i5)),i0 (Prod.fst i5)]/\hpL [eR 1048577 [0,0] 3 z6]=hpL [eR 1048577 [0,0] 3 (Prod.snd i5)])/\ex=ex/\Wk z11 z11/\SameH (zabE zs) (zabE zs))/\(z14=false->(z12=true->inR IntKind.i64 (i+w)=true/\decide (zasq i w s)=true/\(true&&z5&&(Nat.beq 3 3&&decide (List.length z9*32<=140737488355328/\List.length z9<=1152921504606846976)))=true/\inR IntKind.i64 (i+w)=true/\∃ (i6:Int × List AV),(Q (Prod.fst i6) (Prod.snd i6)/\Wks [s0 s,z2,i0 0,i0 0,AV.slc 1048577 [0,0] 0 (List.length z9),i0 (i+w)] [s0 s,z2,i0 0,i0 0,AV.slc 1048577 [0,0] 0 (List.length (Prod.snd i6)),i0 (Prod.fst i6)]/\hpL [eR 1048577 [0,0] 3 z9]=hpL [eR 1048577 [0,0] 3 (Prod.snd i6)])/\ex=ex/\Wk z11 z11/\SameH (zabE zs) (zabE zs))/\(z12=false->inR IntKind.i64 (i+w)=true/\decide (zasq i w s)=true/\(true&&z5&&(Nat.beq 3 3&&decide (List.length z10*32<=140737488355328/\List.length z10<=1152921504606846976)))=true/\inR IntKind.i64 (i+w)=true/\∃ (i7:Int × List AV),(Q (Prod.fst i7) (Prod.snd i7)/\Wks [s0 s,z2,i0 0,i0 0,AV.slc 1048577 [0,0] 0 (List.length z10),i0 (i+w)] [s0 s,z2,i0 0,i0 0,AV.slc 1048577 [0,0] 0 (List.length (Prod.snd i7)),i0 (Prod.fst i7)]/\hpL [eR 1048577 [0,0] 3 z10]=hpL [eR 1048577 [0,0] 3 (Prod.snd i7)])/\ex=ex/\Wk z11 z11/\SameH (zabE zs) (zabE zs))))))))):=by kernel_rfl
def zaEl:Orc:=Orc.t (HF (Orc.f (Orc.f (HT (Orc.t (Orc.t (Orc.t (Orc.t Orc.z))))))))
theorem zavZ (Q:Int->List AV->Prop)(ex:Ex)(s:ByteArray)(e j:Int)(ys zs:List AV)(i:Int):rJXR zaEl Q ex s e j ys zs i=(let z1:=(List.take (List.length ys) (List.drop 0 ys)++[AV.agg [i0 5,i0 i,(zaEg s i)]]);let z2:=(↑(ByteArray.size s):Int);decide (i<z2)=true/\decide ((0:Int)<=i/\i<z2)=true/\((zaay s i)==32)=false/\Nf (((zaay s i)==9)=false/\Nf (((zaay s i)==10)=false/\∃ (i1:Nat),(i1<256/\Wks [u0 (zaay s i)] [u0 (↑i1:Int)]/\hpL []=hpL [])/\zaaE i1=false/\inR IntKind.i64 (i+1)=true/\decide (i+1<z2)=true/\Yt (((zaay s i)==58)=true/\Yt (Yt (inR IntKind.i64 (i+1)=true/\Yt (decide ((0:Int)<=i+1/\i+1<z2)=true/\Yt (((↑(zaaa s (Int.toNat (i+1))):Int)==58)=true/\inR IntKind.i64 (i+2)=true/\decide ((0:Int)<=Option.getD (some i) (0:Int)/\Option.getD (some i) (0:Int)<=Option.getD (some (i+2)) z2/\Option.getD (some (i+2)) z2<=z2/\false=false)=true/\(true&&(zag2 ys)&&(true&&decide (List.length z1*32<=140737488355328/\List.length z1<=1152921504606846976)))=true/\inR IntKind.i64 (i+2)=true/\∃ (i2:Int × List AV),(Q (Prod.fst i2) (Prod.snd i2)/\Wks [s0 s,AV.lit (Value.slice none 0 0),i0 0,i0 0,AV.slc 1048577 [0,0] 0 (List.length z1),i0 (i+2)] [s0 s,AV.lit (Value.slice none 0 0),i0 0,i0 0,AV.slc 1048577 [0,0] 0 (List.length (Prod.snd i2)),i0 (Prod.fst i2)]/\hpL [eR 1048577 [0,0] 3 z1]=hpL [eR 1048577 [0,0] 3 (Prod.snd i2)])/\ex=ex/\Wk (zakF s e j zs) (zakF s e j zs)/\SameH (zabE zs) (zabE zs))))))))):=by kernel_rfl
def zaEm:Orc:=Orc.t (HF (Orc.f (Orc.f (Orc.t (Orc.t (HF (Orc.f (Orc.f (HT (Orc.t (Orc.t (Orc.t (Orc.t Orc.z)))))))))))))
theorem zav1 (Q:Int->List AV->Prop)(ex:Ex)(s:ByteArray)(e j:Int)(ys zs:List AV)(i:Int):rJXD zaEm Q ex s e j ys zs i=(let z1:=(List.take (List.length ys) (List.drop 0 ys)++[AV.agg [i0 6,i0 i,(zaEg s i)]]);let z2:=(↑(ByteArray.size s):Int);decide (i<z2)=true/\decide ((0:Int)<=i/\i<z2)=true/\((zaay s i)==32)=false/\Nf (((zaay s i)==9)=false/\Nf (((zaay s i)==10)=false/\∃ (i1:Nat),(i1<256/\Wks [u0 (zaay s i)] [u0 (↑i1:Int)]/\hpL []=hpL [])/\zaaE i1=false/\inR IntKind.i64 (i+1)=true/\decide (i+1<z2)=true/\Yt (((zaay s i)==58)=false/\Nf4 (Nf (inR IntKind.i64 (i+1)=true/\decide (i+1<z2)=true/\Yt (((zaay s i)==46)=true/\Yt (Yt (inR IntKind.i64 (i+1)=true/\Yt (decide ((0:Int)<=i+1/\i+1<z2)=true/\Yt (((↑(zaaa s (Int.toNat (i+1))):Int)==46)=true/\inR IntKind.i64 (i+2)=true/\decide ((0:Int)<=Option.getD (some i) (0:Int)/\Option.getD (some i) (0:Int)<=Option.getD (some (i+2)) z2/\Option.getD (some (i+2)) z2<=z2/\false=false)=true/\(true&&(zag2 ys)&&(true&&decide (List.length z1*32<=140737488355328/\List.length z1<=1152921504606846976)))=true/\inR IntKind.i64 (i+2)=true/\∃ (i2:Int × List AV),(Q (Prod.fst i2) (Prod.snd i2)/\Wks [s0 s,AV.lit (Value.slice none 0 0),i0 0,i0 0,AV.slc 1048577 [0,0] 0 (List.length z1),i0 (i+2)] [s0 s,AV.lit (Value.slice none 0 0),i0 0,i0 0,AV.slc 1048577 [0,0] 0 (List.length (Prod.snd i2)),i0 (Prod.fst i2)]/\hpL [eR 1048577 [0,0] 3 z1]=hpL [eR 1048577 [0,0] 3 (Prod.snd i2)])/\ex=ex/\Wk (zakF s e j zs) (zakF s e j zs)/\SameH (zabE zs) (zabE zs)))))))))))):=by kernel_rfl
def zawR:Orc:=Orc.t (HF (HF (HF (HF (HF (Orc.f (Orc.f (Orc.s Orc.z (Orc.s Orc.z (Orc.s Orc.z (Orc.s (Orc.t (Orc.t Orc.z)) (Orc.f (Orc.s Orc.z (Orc.s Orc.z (Orc.s Orc.z (Orc.t Orc.z))))))))))))))))
theorem zasg (Q:Int->List AV->Prop)(ex:Ex)(s:ByteArray)(e j:Int)(ys zs:List AV)(i:Int):zaEc zawR Q ex s e j ys zs i=(let z1:=AV.lit (Value.slice none 0 0);let z2:=(List.length ys);let z3:=(List.drop 0 ys);let z4:=(zakF s e j zs);let z5:=(List.take z2 z3++[AV.agg [i0 10,i0 i,(zaik s i)]]);let z6:=(List.take z2 z3++[AV.agg [i0 2,i0 i,(zaik s i)]]);let z7:=(List.take z2 z3++[AV.agg [i0 3,i0 i,(zaik s i)]]);let z8:=(List.take z2 z3++[AV.agg [i0 4,i0 i,(zaik s i)]]);let z9:=(List.take z2 z3++[AV.agg [i0 8,i0 i,(zaik s i)]]);let z10:=(List.take z2 z3++[AV.agg [i0 9,i0 i,(zaik s i)]]);let z11:=(true&&(zag2 ys)&&(true&&decide (List.length (zanr ys i s)*32<=140737488355328/\List.length (zanr ys i s)<=1152921504606846976)));let z12:=[s0 s,z1,i0 0,i0 0,AV.slc 1048577 [0,0] 0 (List.length (zanr ys i s)),i0 (i+1)];let z13:=(↑(ByteArray.size s):Int);let z14:=[eR 1048577 [0,0] 3 (zanr ys i s)];decide (i<z13)=true/\decide ((0:Int)<=i/\i<z13)=true/\((zaay s i)==32)=false/\Nf (((zaay s i)==9)=false/\Nf (((zaay s i)==10)=false/\∃ (i1:Nat),(i1<256/\Wks [u0 (zaay s i)] [u0 (↑i1:Int)]/\hpL []=hpL [])/\zaaE i1=false/\inR IntKind.i64 (i+1)=true/\decide (i+1<z13)=false/\Nf4 (Nf (Nf (Nf (inR IntKind.i64 (i+1)=true/\decide (i+1<z13)=false/\Nf4 (Nf (Nf (Nf ((((zaay s i)==40)=true->inR IntKind.i64 (i+1)=true/\decide (zag3 i s)=true/\(true&&(zag2 ys)&&(true&&decide (List.length z6*32<=140737488355328/\List.length z6<=1152921504606846976)))=true/\inR IntKind.i64 (i+1)=true/\∃ (i2:Int × List AV),(Q (Prod.fst i2) (Prod.snd i2)/\Wks [s0 s,z1,i0 0,i0 0,AV.slc 1048577 [0,0] 0 (List.length z6),i0 (i+1)] [s0 s,z1,i0 0,i0 0,AV.slc 1048577 [0,0] 0 (List.length (Prod.snd i2)),i0 (Prod.fst i2)]/\hpL [eR 1048577 [0,0] 3 z6]=hpL [eR 1048577 [0,0] 3 (Prod.snd i2)])/\ex=ex/\Wk z4 z4/\SameH (zabE zs) (zabE zs))/\(((zaay s i)==40)=false->(((zaay s i)==41)=true->inR IntKind.i64 (i+1)=true/\decide (zag3 i s)=true/\(true&&(zag2 ys)&&(true&&decide (List.length z7*32<=140737488355328/\List.length z7<=1152921504606846976)))=true/\inR IntKind.i64 (i+1)=true/\∃ (i3:Int × List AV),(Q (Prod.fst i3) (Prod.snd i3)/\Wks [s0 s,z1,i0 0,i0 0,AV.slc 1048577 [0,0] 0 (List.length z7),i0 (i+1)] [s0 s,z1,i0 0,i0 0,AV.slc 1048577 [0,0] 0 (List.length (Prod.snd i3)),i0 (Prod.fst i3)]/\hpL [eR 1048577 [0,0] 3 z7]=hpL [eR 1048577 [0,0] 3 (Prod.snd i3)])/\ex=ex/\Wk z4 z4/\SameH (zabE zs) (zabE zs))/\(((zaay s i)==41)=false->(((zaay s i)==44)=true->inR IntKind.i64 (i+1)=true/\decide (zag3 i s)=true/\(true&&(zag2 ys)&&(true&&decide (List.length z8*32<=140737488355328/\List.length z8<=1152921504606846976)))=true/\inR IntKind.i64 (i+1)=true/\∃ (i4:Int × List AV),(Q (Prod.fst i4) (Prod.snd i4)/\Wks [s0 s,z1,i0 0,i0 0,AV.slc 1048577 [0,0] 0 (List.length z8),i0 (i+1)] [s0 s,z1,i0 0,i0 0,AV.slc 1048577 [0,0] 0 (List.length (Prod.snd i4)),i0 (Prod.fst i4)]/\hpL [eR 1048577 [0,0] 3 z8]=hpL [eR 1048577 [0,0] 3 (Prod.snd i4)])/\ex=ex/\Wk z4 z4/\SameH (zabE zs) (zabE zs))/\(((zaay s i)==44)=false->(((zaay s i)==43)=true->Yt (Yt (inR IntKind.i64 (i+1)=true/\decide (zag3 i s)=true/\z11=true/\inR IntKind.i64 (i+1)=true/\∃ (i5:Int × List AV),(Q (Prod.fst i5) (Prod.snd i5)/\Wks z12 [s0 s,z1,i0 0,i0 0,AV.slc 1048577 [0,0] 0 (List.length (Prod.snd i5)),i0 (Prod.fst i5)]/\hpL z14=hpL [eR 1048577 [0,0] 3 (Prod.snd i5)])/\ex=ex/\Wk z4 z4/\SameH (zabE zs) (zabE zs))))/\(((zaay s i)==43)=false->Nf ((((zaay s i)==124)=true->inR IntKind.i64 (i+1)=true/\decide (zag3 i s)=true/\z11=true/\inR IntKind.i64 (i+1)=true/\∃ (i6:Int × List AV),(Q (Prod.fst i6) (Prod.snd i6)/\Wks z12 [s0 s,z1,i0 0,i0 0,AV.slc 1048577 [0,0] 0 (List.length (Prod.snd i6)),i0 (Prod.fst i6)]/\hpL z14=hpL [eR 1048577 [0,0] 3 (Prod.snd i6)])/\ex=ex/\Wk z4 z4/\SameH (zabE zs) (zabE zs))/\(((zaay s i)==124)=false->(((zaay s i)==45)=true->inR IntKind.i64 (i+1)=true/\decide (zag3 i s)=true/\(true&&(zag2 ys)&&(true&&decide (List.length z9*32<=140737488355328/\List.length z9<=1152921504606846976)))=true/\inR IntKind.i64 (i+1)=true/\∃ (i7:Int × List AV),(Q (Prod.fst i7) (Prod.snd i7)/\Wks [s0 s,z1,i0 0,i0 0,AV.slc 1048577 [0,0] 0 (List.length z9),i0 (i+1)] [s0 s,z1,i0 0,i0 0,AV.slc 1048577 [0,0] 0 (List.length (Prod.snd i7)),i0 (Prod.fst i7)]/\hpL [eR 1048577 [0,0] 3 z9]=hpL [eR 1048577 [0,0] 3 (Prod.snd i7)])/\ex=ex/\Wk z4 z4/\SameH (zabE zs) (zabE zs))/\(((zaay s i)==45)=false->(((zaay s i)==38)=true->inR IntKind.i64 (i+1)=true/\decide (zag3 i s)=true/\(true&&(zag2 ys)&&(true&&decide (List.length z10*32<=140737488355328/\List.length z10<=1152921504606846976)))=true/\inR IntKind.i64 (i+1)=true/\∃ (i8:Int × List AV),(Q (Prod.fst i8) (Prod.snd i8)/\Wks [s0 s,z1,i0 0,i0 0,AV.slc 1048577 [0,0] 0 (List.length z10),i0 (i+1)] [s0 s,z1,i0 0,i0 0,AV.slc 1048577 [0,0] 0 (List.length (Prod.snd i8)),i0 (Prod.fst i8)]/\hpL [eR 1048577 [0,0] 3 z10]=hpL [eR 1048577 [0,0] 3 (Prod.snd i8)])/\ex=ex/\Wk z4 z4/\SameH (zabE zs) (zabE zs))/\(((zaay s i)==38)=false->((zaay s i)==33)=true/\inR IntKind.i64 (i+1)=true/\decide (zag3 i s)=true/\(true&&(zag2 ys)&&(true&&decide (List.length z5*32<=140737488355328/\List.length z5<=1152921504606846976)))=true/\inR IntKind.i64 (i+1)=true/\∃ (i9:Int × List AV),(Q (Prod.fst i9) (Prod.snd i9)/\Wks [s0 s,z1,i0 0,i0 0,AV.slc 1048577 [0,0] 0 (List.length z5),i0 (i+1)] [s0 s,z1,i0 0,i0 0,AV.slc 1048577 [0,0] 0 (List.length (Prod.snd i9)),i0 (Prod.fst i9)]/\hpL [eR 1048577 [0,0] 3 z5]=hpL [eR 1048577 [0,0] 3 (Prod.snd i9)])/\ex=ex/\Wk z4 z4/\SameH (zabE zs) (zabE zs)))))))))))))))))))):=by kernel_rfl
def zawQ:Orc:=Orc.t (HF (Orc.f (Orc.f (Orc.t (Orc.t (HF (Orc.f (Orc.f (Orc.t (Orc.t (HF (Orc.f (Orc.f (Orc.s Orc.z (Orc.s Orc.z (Orc.s Orc.z (Orc.s (Orc.t (Orc.t Orc.z)) (Orc.f (Orc.s Orc.z (Orc.s Orc.z (Orc.s Orc.z (Orc.t Orc.z))))))))))))))))))))))
theorem zase (Q:Int->List AV->Prop)(ex:Ex)(s:ByteArray)(e j:Int)(ys zs:List AV)(i:Int):zaEb zawQ Q ex s e j ys zs i=(let z1:=AV.lit (Value.slice none 0 0);let z2:=(List.length ys);let z3:=(List.drop 0 ys);let z4:=(zakF s e j zs);let z5:=(List.take z2 z3++[AV.agg [i0 10,i0 i,(zaik s i)]]);let z6:=(List.take z2 z3++[AV.agg [i0 2,i0 i,(zaik s i)]]);let z7:=(List.take z2 z3++[AV.agg [i0 3,i0 i,(zaik s i)]]);let z8:=(List.take z2 z3++[AV.agg [i0 4,i0 i,(zaik s i)]]);let z9:=(List.take z2 z3++[AV.agg [i0 8,i0 i,(zaik s i)]]);let z10:=(List.take z2 z3++[AV.agg [i0 9,i0 i,(zaik s i)]]);let z11:=(true&&(zag2 ys)&&(true&&decide (List.length (zanr ys i s)*32<=140737488355328/\List.length (zanr ys i s)<=1152921504606846976)));let z12:=[s0 s,z1,i0 0,i0 0,AV.slc 1048577 [0,0] 0 (List.length (zanr ys i s)),i0 (i+1)];let z13:=(↑(ByteArray.size s):Int);let z14:=[eR 1048577 [0,0] 3 (zanr ys i s)];decide (i<z13)=true/\decide ((0:Int)<=i/\i<z13)=true/\((zaay s i)==32)=false/\Nf (((zaay s i)==9)=false/\Nf (((zaay s i)==10)=false/\∃ (i1:Nat),(i1<256/\Wks [u0 (zaay s i)] [u0 (↑i1:Int)]/\hpL []=hpL [])/\zaaE i1=false/\inR IntKind.i64 (i+1)=true/\decide (i+1<z13)=true/\Yt (((zaay s i)==58)=false/\Nf4 (Nf (inR IntKind.i64 (i+1)=true/\decide (i+1<z13)=true/\Yt (((zaay s i)==46)=false/\Nf4 (Nf ((((zaay s i)==40)=true->inR IntKind.i64 (i+1)=true/\decide (zag3 i s)=true/\(true&&(zag2 ys)&&(true&&decide (List.length z6*32<=140737488355328/\List.length z6<=1152921504606846976)))=true/\inR IntKind.i64 (i+1)=true/\∃ (i2:Int × List AV),(Q (Prod.fst i2) (Prod.snd i2)/\Wks [s0 s,z1,i0 0,i0 0,AV.slc 1048577 [0,0] 0 (List.length z6),i0 (i+1)] [s0 s,z1,i0 0,i0 0,AV.slc 1048577 [0,0] 0 (List.length (Prod.snd i2)),i0 (Prod.fst i2)]/\hpL [eR 1048577 [0,0] 3 z6]=hpL [eR 1048577 [0,0] 3 (Prod.snd i2)])/\ex=ex/\Wk z4 z4/\SameH (zabE zs) (zabE zs))/\(((zaay s i)==40)=false->(((zaay s i)==41)=true->inR IntKind.i64 (i+1)=true/\decide (zag3 i s)=true/\(true&&(zag2 ys)&&(true&&decide (List.length z7*32<=140737488355328/\List.length z7<=1152921504606846976)))=true/\inR IntKind.i64 (i+1)=true/\∃ (i3:Int × List AV),(Q (Prod.fst i3) (Prod.snd i3)/\Wks [s0 s,z1,i0 0,i0 0,AV.slc 1048577 [0,0] 0 (List.length z7),i0 (i+1)] [s0 s,z1,i0 0,i0 0,AV.slc 1048577 [0,0] 0 (List.length (Prod.snd i3)),i0 (Prod.fst i3)]/\hpL [eR 1048577 [0,0] 3 z7]=hpL [eR 1048577 [0,0] 3 (Prod.snd i3)])/\ex=ex/\Wk z4 z4/\SameH (zabE zs) (zabE zs))/\(((zaay s i)==41)=false->(((zaay s i)==44)=true->inR IntKind.i64 (i+1)=true/\decide (zag3 i s)=true/\(true&&(zag2 ys)&&(true&&decide (List.length z8*32<=140737488355328/\List.length z8<=1152921504606846976)))=true/\inR IntKind.i64 (i+1)=true/\∃ (i4:Int × List AV),(Q (Prod.fst i4) (Prod.snd i4)/\Wks [s0 s,z1,i0 0,i0 0,AV.slc 1048577 [0,0] 0 (List.length z8),i0 (i+1)] [s0 s,z1,i0 0,i0 0,AV.slc 1048577 [0,0] 0 (List.length (Prod.snd i4)),i0 (Prod.fst i4)]/\hpL [eR 1048577 [0,0] 3 z8]=hpL [eR 1048577 [0,0] 3 (Prod.snd i4)])/\ex=ex/\Wk z4 z4/\SameH (zabE zs) (zabE zs))/\(((zaay s i)==44)=false->(((zaay s i)==43)=true->Yt (Yt (inR IntKind.i64 (i+1)=true/\decide (zag3 i s)=true/\z11=true/\inR IntKind.i64 (i+1)=true/\∃ (i5:Int × List AV),(Q (Prod.fst i5) (Prod.snd i5)/\Wks z12 [s0 s,z1,i0 0,i0 0,AV.slc 1048577 [0,0] 0 (List.length (Prod.snd i5)),i0 (Prod.fst i5)]/\hpL z14=hpL [eR 1048577 [0,0] 3 (Prod.snd i5)])/\ex=ex/\Wk z4 z4/\SameH (zabE zs) (zabE zs))))/\(((zaay s i)==43)=false->Nf ((((zaay s i)==124)=true->inR IntKind.i64 (i+1)=true/\decide (zag3 i s)=true/\z11=true/\inR IntKind.i64 (i+1)=true/\∃ (i6:Int × List AV),(Q (Prod.fst i6) (Prod.snd i6)/\Wks z12 [s0 s,z1,i0 0,i0 0,AV.slc 1048577 [0,0] 0 (List.length (Prod.snd i6)),i0 (Prod.fst i6)]/\hpL z14=hpL [eR 1048577 [0,0] 3 (Prod.snd i6)])/\ex=ex/\Wk z4 z4/\SameH (zabE zs) (zabE zs))/\(((zaay s i)==124)=false->(((zaay s i)==45)=true->inR IntKind.i64 (i+1)=true/\decide (zag3 i s)=true/\(true&&(zag2 ys)&&(true&&decide (List.length z9*32<=140737488355328/\List.length z9<=1152921504606846976)))=true/\inR IntKind.i64 (i+1)=true/\∃ (i7:Int × List AV),(Q (Prod.fst i7) (Prod.snd i7)/\Wks [s0 s,z1,i0 0,i0 0,AV.slc 1048577 [0,0] 0 (List.length z9),i0 (i+1)] [s0 s,z1,i0 0,i0 0,AV.slc 1048577 [0,0] 0 (List.length (Prod.snd i7)),i0 (Prod.fst i7)]/\hpL [eR 1048577 [0,0] 3 z9]=hpL [eR 1048577 [0,0] 3 (Prod.snd i7)])/\ex=ex/\Wk z4 z4/\SameH (zabE zs) (zabE zs))/\(((zaay s i)==45)=false->(((zaay s i)==38)=true->inR IntKind.i64 (i+1)=true/\decide (zag3 i s)=true/\(true&&(zag2 ys)&&(true&&decide (List.length z10*32<=140737488355328/\List.length z10<=1152921504606846976)))=true/\inR IntKind.i64 (i+1)=true/\∃ (i8:Int × List AV),(Q (Prod.fst i8) (Prod.snd i8)/\Wks [s0 s,z1,i0 0,i0 0,AV.slc 1048577 [0,0] 0 (List.length z10),i0 (i+1)] [s0 s,z1,i0 0,i0 0,AV.slc 1048577 [0,0] 0 (List.length (Prod.snd i8)),i0 (Prod.fst i8)]/\hpL [eR 1048577 [0,0] 3 z10]=hpL [eR 1048577 [0,0] 3 (Prod.snd i8)])/\ex=ex/\Wk z4 z4/\SameH (zabE zs) (zabE zs))/\(((zaay s i)==38)=false->((zaay s i)==33)=true/\inR IntKind.i64 (i+1)=true/\decide (zag3 i s)=true/\(true&&(zag2 ys)&&(true&&decide (List.length z5*32<=140737488355328/\List.length z5<=1152921504606846976)))=true/\inR IntKind.i64 (i+1)=true/\∃ (i9:Int × List AV),(Q (Prod.fst i9) (Prod.snd i9)/\Wks [s0 s,z1,i0 0,i0 0,AV.slc 1048577 [0,0] 0 (List.length z5),i0 (i+1)] [s0 s,z1,i0 0,i0 0,AV.slc 1048577 [0,0] 0 (List.length (Prod.snd i9)),i0 (Prod.fst i9)]/\hpL [eR 1048577 [0,0] 3 z5]=hpL [eR 1048577 [0,0] 3 (Prod.snd i9)])/\ex=ex/\Wk z4 z4/\SameH (zabE zs) (zabE zs)))))))))))))))))):=by kernel_rfl
theorem zasd (Q:Int->List AV->Prop)(s:ByteArray)(ys:List AV)(i:Int):zaG2 (Orc.t (Orc.f (Orc.f (Orc.f (Orc.f (Orc.f (Orc.f (Orc.f (Orc.f (Orc.f (Orc.f (Orc.f (Orc.f (Orc.f (Orc.f (Orc.f (Orc.f (Orc.f (Orc.f (Orc.f (Orc.f (Orc.f (Orc.f (Orc.f (Orc.f (Orc.f (Orc.f (Orc.f (Orc.f (Orc.f (Orc.f (Orc.f Orc.z)))))))))))))))))))))))))))))))) Q s ys i=(let z1:=(↑(ByteArray.size s):Int);let z2:=(AV.tup [s0 s,AV.lit (Value.slice none 0 0),i0 15,i0 i,(zaeo ys)]);decide (i<z1)=true/\decide ((0:Int)<=i/\i<z1)=true/\((zaay s i)==32)=false/\Nf (((zaay s i)==9)=false/\Nf (((zaay s i)==10)=false/\∃ (i1:Nat),(i1<256/\Wks [u0 (zaay s i)] [u0 (↑i1:Int)]/\hpL []=hpL [])/\zaaE i1=false/\inR IntKind.i64 (i+1)=true/\decide (i+1<z1)=false/\Nf4 (Nf (Nf (Nf (inR IntKind.i64 (i+1)=true/\decide (i+1<z1)=false/\Nf4 (Nf (Nf (Nf (((zaay s i)==40)=false/\((zaay s i)==41)=false/\((zaay s i)==44)=false/\((zaay s i)==43)=false/\Nf (((zaay s i)==124)=false/\((zaay s i)==45)=false/\((zaay s i)==38)=false/\((zaay s i)==33)=false/\Ex.ret=Ex.ret/\Wk z2 z2/\SameH (hpL [eR 1048577 [0,0] 3 ys]) (hpL [eR 1048577 [0,0] 3 ys]))))))))))))):=by kernel_rfl
theorem zasc (Q:Int->List AV->Prop)(s:ByteArray)(ys:List AV)(i:Int):zaG1 (Orc.t (Orc.f (Orc.f (Orc.f (Orc.f (Orc.f (Orc.f (Orc.t (Orc.t (Orc.f (Orc.f (Orc.f (Orc.f (Orc.f (Orc.f (Orc.t (Orc.t (Orc.f (Orc.f (Orc.f (Orc.f (Orc.f (Orc.f (Orc.f (Orc.f (Orc.f (Orc.f (Orc.f (Orc.f (Orc.f (Orc.f (Orc.f Orc.z)))))))))))))))))))))))))))))))) Q s ys i=(let z1:=(↑(ByteArray.size s):Int);let z2:=(AV.tup [s0 s,AV.lit (Value.slice none 0 0),i0 15,i0 i,(zaeo ys)]);decide (i<z1)=true/\decide ((0:Int)<=i/\i<z1)=true/\((zaay s i)==32)=false/\Nf (((zaay s i)==9)=false/\Nf (((zaay s i)==10)=false/\∃ (i1:Nat),(i1<256/\Wks [u0 (zaay s i)] [u0 (↑i1:Int)]/\hpL []=hpL [])/\zaaE i1=false/\inR IntKind.i64 (i+1)=true/\decide (i+1<z1)=true/\Yt (((zaay s i)==58)=false/\Nf4 (Nf (inR IntKind.i64 (i+1)=true/\decide (i+1<z1)=true/\Yt (((zaay s i)==46)=false/\Nf4 (Nf (((zaay s i)==40)=false/\((zaay s i)==41)=false/\((zaay s i)==44)=false/\((zaay s i)==43)=false/\Nf (((zaay s i)==124)=false/\((zaay s i)==45)=false/\((zaay s i)==38)=false/\((zaay s i)==33)=false/\Ex.ret=Ex.ret/\Wk z2 z2/\SameH (hpL [eR 1048577 [0,0] 3 ys]) (hpL [eR 1048577 [0,0] 3 ys]))))))))))):=by kernel_rfl
theorem zasb (Q:Int->List AV->Prop)(s:ByteArray)(ys:List AV)(i:Int):zaG0 (Orc.t (Orc.f (Orc.f (Orc.f (Orc.f (Orc.f (Orc.f (Orc.t (Orc.t (Orc.t (Orc.t (Orc.t (Orc.t (Orc.t (Orc.f (Orc.t (Orc.t (Orc.f (Orc.f (Orc.f (Orc.f (Orc.f (Orc.f (Orc.f (Orc.f (Orc.f (Orc.f (Orc.f (Orc.f (Orc.f (Orc.f (Orc.f Orc.z)))))))))))))))))))))))))))))))) Q s ys i=(let z1:=(↑(ByteArray.size s):Int);let z2:=(AV.tup [s0 s,AV.lit (Value.slice none 0 0),i0 15,i0 i,(zaeo ys)]);decide (i<z1)=true/\decide ((0:Int)<=i/\i<z1)=true/\((zaay s i)==32)=false/\Nf (((zaay s i)==9)=false/\Nf (((zaay s i)==10)=false/\∃ (i1:Nat),(i1<256/\Wks [u0 (zaay s i)] [u0 (↑i1:Int)]/\hpL []=hpL [])/\zaaE i1=false/\inR IntKind.i64 (i+1)=true/\decide (i+1<z1)=true/\Yt (((zaay s i)==58)=true/\Yt (Yt (inR IntKind.i64 (i+1)=true/\Yt (decide ((0:Int)<=i+1/\i+1<z1)=true/\Yt (((↑(zaaa s (Int.toNat (i+1))):Int)==58)=false/\inR IntKind.i64 (i+1)=true/\decide (i+1<z1)=true/\Yt (((zaay s i)==46)=false/\Nf4 (Nf (((zaay s i)==40)=false/\((zaay s i)==41)=false/\((zaay s i)==44)=false/\((zaay s i)==43)=false/\Nf (((zaay s i)==124)=false/\((zaay s i)==45)=false/\((zaay s i)==38)=false/\((zaay s i)==33)=false/\Ex.ret=Ex.ret/\Wk z2 z2/\SameH (hpL [eR 1048577 [0,0] 3 ys]) (hpL [eR 1048577 [0,0] 3 ys]))))))))))))):=by kernel_rfl
theorem zasa (Q:Int->List AV->Prop)(s:ByteArray)(ys:List AV)(i:Int):zaGZ (Orc.t (Orc.f (Orc.f (Orc.f (Orc.f (Orc.f (Orc.f (Orc.t (Orc.t (Orc.f (Orc.f (Orc.f (Orc.f (Orc.f (Orc.f (Orc.t (Orc.t (Orc.t (Orc.t (Orc.t (Orc.t (Orc.t (Orc.f (Orc.f (Orc.f (Orc.f (Orc.f (Orc.f (Orc.f (Orc.f (Orc.f (Orc.f Orc.z)))))))))))))))))))))))))))))))) Q s ys i=(let z1:=(↑(ByteArray.size s):Int);let z2:=(AV.tup [s0 s,AV.lit (Value.slice none 0 0),i0 15,i0 i,(zaeo ys)]);decide (i<z1)=true/\decide ((0:Int)<=i/\i<z1)=true/\((zaay s i)==32)=false/\Nf (((zaay s i)==9)=false/\Nf (((zaay s i)==10)=false/\∃ (i1:Nat),(i1<256/\Wks [u0 (zaay s i)] [u0 (↑i1:Int)]/\hpL []=hpL [])/\zaaE i1=false/\inR IntKind.i64 (i+1)=true/\decide (i+1<z1)=true/\Yt (((zaay s i)==58)=false/\Nf4 (Nf (inR IntKind.i64 (i+1)=true/\decide (i+1<z1)=true/\Yt (((zaay s i)==46)=true/\Yt (Yt (inR IntKind.i64 (i+1)=true/\Yt (decide ((0:Int)<=i+1/\i+1<z1)=true/\Yt (((↑(zaaa s (Int.toNat (i+1))):Int)==46)=false/\((zaay s i)==40)=false/\((zaay s i)==41)=false/\((zaay s i)==44)=false/\((zaay s i)==43)=false/\Nf (((zaay s i)==124)=false/\((zaay s i)==45)=false/\((zaay s i)==38)=false/\((zaay s i)==33)=false/\Ex.ret=Ex.ret/\Wk z2 z2/\SameH (hpL [eR 1048577 [0,0] 3 ys]) (hpL [eR 1048577 [0,0] 3 ys]))))))))))))):=by kernel_rfl
end Go.Proofs.YtpofhijgccocpaaGreatDoor
end
section
namespace Go.Proofs.YtpofhijgccocpaaGreatDoor
open Go.AS Go.TP
noncomputable section
abbrev BJW (xs:List AV)(σ:Hp)(r:Ex × Back):Prop:=zab9 Tryz.prog gl0 (fn zabj).ntmps (zaaX (code zabj) 3) [0,2,3,4,5,6,8] (fun _=>[0,2,3,4,5,6,8]) xs σ fun _ q=>q=r
theorem zasi {P:Prop}{s:ByteArray}{ys:List AV}{i n w:Int}(hs:s.size<=600)(h0:0<=i)(hi:i<s.size)(hn:0<=n)(hm:n<=600)(h1:¬(i+n<s.size/\zaaE (zaaa s (i+n).toNat)=true)->w=n)(h2:i+n<s.size/\zaaE (zaaa s (i+n).toNat)=true->P) :
  rJW orJW P s ys i n w:=by
 rw [zaCh]
 have hr:inR .i64 (i+n)=true:=zaag (by omega) (by omega)
 refine ⟨hr,fun h => ?_,fun h => ?_⟩
 · have h:=of_decide_eq_true h
   refine ⟨rfl,rfl,rfl,hr,rfl,decide_eq_true ⟨by omega,h⟩,rfl,_,⟨zaaC _ _,.refl _,rfl⟩,fun g => ?_,fun g => ?_⟩
   · exact ⟨zaag (by omega) (by omega),(),⟨h2 ⟨h,g⟩,.refl _,rfl⟩,rfl,.refl _,.rfl⟩
   · rw [h1 fun q=>by rw [q.2] at g;cases g];exact ⟨rfl,.refl _,.rfl⟩
 · have h:=of_decide_eq_false h
   rw [h1 fun q=>h q.1];exact ⟨rfl,rfl,rfl,rfl,rfl,rfl,rfl,.refl _,.rfl⟩
theorem jwL (s:ByteArray)(ys:List AV)(i:Int)(hs:s.size<=600)(h0:0<=i)(hi:i<s.size):∀ (f:Nat) (n:Int),0<=n->i+n<=s.size->s.size-(i+n)<=f->BJW (jw s ys i n) (zaaM ys) (jwO s ys i (zadN (zaaK s i) f n)):=by
 have hr:=zabb s i h0 (by omega)
 have hb:∀ n:Int,0<=n->i+n<s.size->zaaa (zaaK s i) n.toNat=zaaa s (i+n).toNat:=by
  intro n hn h
  rw [zacp s i.toNat n.toNat (by omega)];congr 1;omega
 have rnd:∀ {os:Orc} {P:Prop} {n w:Int},(P->BJW (jw s ys i (n+1)) (zaaM ys) (jwO s ys i w))->rJW os P s ys i n w->BJW (jw s ys i n) (zaaM ys) (jwO s ys i w) :=
  fun ih h=>lp_round1 (X:=XJ.ask [zabj]) (zajX.ask _) (fnOk zabj (by kernel_rfl)) (show (fn zabj).body=some (code zabj) by kernel_rfl) (by decide) ih h
 intro f
 induction f with
 | zero =>
  intro n h1 h2 h3
  exact rnd (P:=False) (fun h=>h.elim) (zasi hs h0 hi h1 (by omega) (fun _=>rfl) (fun q=>by omega))
 | succ f ih =>
  intro n h1 h2 h3
  rw [zadN]
  by_cases h:n<(zaaK s i).size/\zaaE (zaaa (zaaK s i) n.toNat)=true
  · rw [if_pos h]
    exact rnd (P:=True) (fun _=>ih (n+1) (by omega) (by omega) (by omega)) (zasi hs h0 hi h1 (by omega) (fun q=>absurd ⟨by omega,by rw [<-hb n h1 (by omega)];exact h.2⟩ q) (fun _=>trivial))
  · rw [if_neg h]
    exact rnd (P:=False) (fun h=>h.elim) (zasi hs h0 hi h1 (by omega) (fun _=>rfl) (fun q=>absurd ⟨by omega,by rw [hb n h1 q.1];exact q.2⟩ h))
theorem zaDt (s:ByteArray)(ys:List AV)(i:Int)(hs:s.size<=600)(h0:0<=i)(hi:i<s.size):(XJX s ys i (zadN (zaaK s i) (zaaK s i).size 1)).Sound :=
 zajX.addLp (fnOk zabj (by kernel_rfl)) (show (fn zabj).body=some (code zabj) by kernel_rfl) (by kernel_rfl)
  (Spl.ok (l:=[⟨Unit,fun _=>True,fun _=>jw s ys i 1,fun _=>zaaM ys,fun _=>jwO s ys i (zadN (zaaK s i) (zaaK s i).size 1)⟩]) rfl (show ([0,2,3,4,5,6,8]:List Nat).Nodup by decide) fun s' hs' k _=>by
   obtain rfl:=List.mem_singleton.1 hs'
   have hr:=zabb s i h0 (by omega)
   exact jwL s ys i hs h0 hi _ 1 (by decide) (by omega) (by omega))
theorem jleaf {Q:Int->List AV->Prop}{ex:Ex}{s:ByteArray}{x:AV}{σ:Hp}{ys:List AV}{i:Int}(hs:s.size<=600)(hy:ys.length<=600)(k d:Int)(h0:0<=i)(hd:0<=d)(h1:i+d<=s.size)(hQ:Q (i+d) (ys++[AV.agg [i0 k,i0 i,s0 (s.extract i.toNat (i+d).toNat)]])) :
  inR IntKind.i64 (i+d)=true/\decide (0<=Option.getD (some i) 0/\Option.getD (some i) 0<=Option.getD (some (i+d)) (s.size:Int)/\Option.getD (some (i+d)) (s.size:Int)<=(s.size:Int)/\false=false)=true /\
  (true&&(true&&Nat.ble (0+ys.length) ys.length)&&(true&&decide ((ys++[AV.agg [i0 k,i0 i,s0 (s.extract i.toNat (i+d).toNat)]]).length*32<=140737488355328/\(ys++[AV.agg [i0 k,i0 i,s0 (s.extract i.toNat (i+d).toNat)]]).length<=1152921504606846976)))=true/\inR IntKind.i64 (i+d)=true /\
  ∃ q:Int × List AV,(Q q.1 q.2/\Wks [s0 s,.lit (.slice none 0 0),i0 0,i0 0,.slc 1048577 [0,0] 0 (ys++[AV.agg [i0 k,i0 i,s0 (s.extract i.toNat (i+d).toNat)]]).length,i0 (i+d)] [s0 s,.lit (.slice none 0 0),i0 0,i0 0,.slc 1048577 [0,0] 0 q.2.length,i0 q.1] /\
   zaaM (ys++[AV.agg [i0 k,i0 i,s0 (s.extract i.toNat (i+d).toNat)]])=zaaM q.2)/\ex=ex/\Wk x x/\SameH σ σ:=by
 refine ⟨zaag (by omega) (by omega),decide_eq_true ⟨h0,by show i<=i+d;omega,h1,rfl⟩,?_,zaag (by omega) (by omega),(_,_),⟨hQ,.refl _,rfl⟩,rfl,.refl _,.rfl⟩
 simp;omega
theorem jeq {c n:Nat}(h:c=n):((c:Int)==(n:Int))=true:=by rw [h];exact beq_self_eq_true _
theorem jne {c n:Nat}(h:c≠n):((c:Int)==(n:Int))=false:=beq_eq_false_iff_ne.2 fun q=>h (by omega)
theorem jblank {c:Nat}(h:zabC c=false):((c:Int)==32)=false/\((c:Int)==9)=false/\((c:Int)==10)=false:=by grind [zabC]
abbrev QT (Q:Int->List AV->Prop)(s:ByteArray)(ys:List AV)(i:Int):Prop:=Q (i+(oneS (zaaK s i)).2) (ys++[encT (zahY s i)])
section
variable {Q:Int->List AV->Prop} {ex:Ex} {s:ByteArray} {e j:Int} {ys zs:List AV} {i:Int}
theorem jQ (k d:Int)(ho:oneS (zaaK s i)=(k,d))(h:QT Q s ys i):Q (i+d) (ys++[AV.agg [i0 k,i0 i,s0 (s.extract i.toNat (i+d).toNat)]]):=by
 unfold QT zahY at h;rw [ho] at h;exact h
theorem zav4 (hs:s.size<=600)(h0:0<=i)(h:i<s.size)(hb:zabC (zaaa s i.toNat)=true)(hQ:Q (i+1) ys):rJXB zaEn Q ex s e j ys zs i:=by
 rw [zav3];delta zakF zaay zabE zaeo
 have hr:inR .i64 (i+1)=true:=zaag (by omega) (by omega)
 refine ⟨decide_eq_true h,decide_eq_true ⟨h0,h⟩,fun _=>⟨rfl,rfl,rfl,rfl,hr,(_,ys),⟨hQ,.refl _,rfl⟩,rfl,.refl _,.rfl⟩,fun n1=>⟨rfl,fun _=>⟨rfl,rfl,hr,(_,ys),⟨hQ,.refl _,rfl⟩,rfl,.refl _,.rfl⟩,fun n2=>⟨rfl,?_,hr,(_,ys),⟨hQ,.refl _,rfl⟩,rfl,.refl _,.rfl⟩⟩⟩
 unfold zabC at hb
 have n1:=beq_eq_false_iff_ne.1 n1
 have n2:=beq_eq_false_iff_ne.1 n2
 simp only [Bool.or_eq_true,decide_eq_true_eq] at hb
 rw [beq_iff_eq];omega
theorem sgn0 {c:Nat}{t:ByteArray}(h:(zafi c t).1=0):c≠40/\c≠41/\c≠44/\c≠43/\c≠124/\c≠45/\c≠38/\c≠33:=by
 refine ⟨?_,?_,?_,?_,?_,?_,?_,?_⟩<;>(rintro rfl;simp [zafi] at h)
theorem sgn1 {c:Nat}{t:ByteArray}(h:(zafi c t).1≠0)(h1:c≠58)(h2:c≠46)(n:c≠40/\c≠41/\c≠44/\c≠43/\c≠124/\c≠45/\c≠38):c=33:=by grind [zafi]
theorem zad (ys:List AV):List.take ys.length (List.drop 0 ys)=ys:=by rw [List.drop_zero,List.take_length]
theorem zavY (hs:s.size<=600)(hy:ys.length<=600)(h0:0<=i)(h:i<s.size)(hb:zabC (zaaa s i.toNat)=false)(hl:zaaE (zaaa s i.toNat)=true)(hQ:QT Q s ys i) :
  rJXW zaEk Q ex s e j ys zs i (zadN (zaaK s i) (zaaK s i).size 1):=by
 have hr:=zabb s i h0 (by omega)
 have hb0:zaaa (zaaK s i) 0=zaaa s i.toNat:=zacp s i.toNat 0 (by omega)
 obtain ⟨w1,w2⟩:=zai5 (s:=zaaK s i) (by omega) (by rw [hb0];exact hl)
 have w3:=(zah7 (zaaK s i)).2
 obtain ⟨b1,b2,b3⟩:=jblank hb
 have ho:oneS (zaaK s i)=(zacz (s.extract i.toNat (i+zadM (zaaK s i)).toNat),zadM (zaaK s i)):=by
  unfold oneS
  rw [if_pos w2,zaAt s i.toNat (zadM (zaaK s i)).toNat (by omega)]
  congr 3;omega
 rw [zavX];delta zakF zauR zaay zasq zabE zaeo
 try dsimp only
 rw [zad,<-w1]
 generalize hw:zadM (zaaK s i)=w at *
 have hr1:inR .i64 (i+w)=true:=zaag (by omega) (by omega)
 refine ⟨decide_eq_true h,decide_eq_true ⟨h0,h⟩,b1,rfl,b2,rfl,b3,_,⟨zaaC _ _,.refl _,rfl⟩,hl,(),⟨trivial,.refl _,rfl⟩,hr1,decide_eq_true ⟨h0,by show i<=i+w;omega,by show i+w<=s.size;omega,rfl⟩,?_⟩
 have leaf:=fun k (hk:zacz (s.extract i.toNat (i+w).toNat)=k)=>jleaf (ex:=ex) (s:=s) (x := .tup [s0 s,.lit (.slice none 0 0),i0 e,i0 j,.slc 1048577 [0,1] 0 zs.length]) (σ:=hpL [(1048577,⟨[0,1],.row true 3 zs⟩)]) hs hy k w h0 (by omega) (by omega) (jQ k w (by rw [ho,hk]) hQ)
 have eT:s.extract (Int.toNat (Option.getD (some i) 0)) (Int.toNat (Option.getD (some (i+w)) (s.size:Int)))=s.extract i.toNat (i+w).toNat:=rfl
 rw [eT,zaba _ bOr,zaba _ bAnd,zaba _ bNot,zaba _ zam7]
 refine ⟨fun g=>leaf 7 ?_,fun n1=>⟨fun g=>leaf 9 ?_,fun n2=>⟨fun g=>leaf 10 ?_,fun n3=>⟨fun g=>leaf 8 ?_,fun n4=>leaf 1 ?_⟩⟩⟩⟩
 all_goals unfold zacz
 · rw [if_pos (of_decide_eq_true g)]
 · rw [if_neg (of_decide_eq_false n1),if_pos (of_decide_eq_true g)]
 · rw [if_neg (of_decide_eq_false n1),if_neg (of_decide_eq_false n2),if_pos (of_decide_eq_true g)]
 · rw [if_neg (of_decide_eq_false n1),if_neg (of_decide_eq_false n2),if_neg (of_decide_eq_false n3),if_pos (of_decide_eq_true g)]
 · rw [if_neg (of_decide_eq_false n1),if_neg (of_decide_eq_false n2),if_neg (of_decide_eq_false n3),if_neg (of_decide_eq_false n4)]
theorem zadX (h0:0<=i)(h:i<s.size)(hl:zaaE (zaaa s i.toNat)=false):oneS (zaaK s i)=zafi (zaaa s i.toNat) (zaaK s i):=by
 have hb0:zaaa (zaaK s i) 0=zaaa s i.toNat:=zacp s i.toNat 0 (by omega)
 unfold oneS
 rw [zarj (by rw [hb0];exact hl),if_neg (by decide)]
 unfold zaif;rw [hb0]
theorem has2 (h0:0<=i)(h:i<s.size)(a:UInt8)(p:ByteArray)(hp:p=⟨#[a,a]⟩)(hc:zaaa s i.toNat=a.toNat):hasP (zaaK s i) p=(decide (i+1<s.size)&&decide (zaaa s (i+1).toNat=a.toNat)):=by
 have hr:=zabb s i h0 (by omega)
 have hb0:zaaa (zaaK s i) 0=zaaa s i.toNat:=zacp s i.toNat 0 (by omega)
 rw [zagb (zaaK s i) a a p hp,hb0,decide_eq_true hc,Bool.true_and]
 by_cases h1:i+1<s.size
 · have hb1:zaaa (zaaK s i) 1=zaaa s (i+1).toNat:=by
     rw [zacp s i.toNat 1 (by omega)];congr 1;omega
   rw [hb1,decide_eq_true h1,decide_eq_true (show 1<(zaaK s i).size by omega)]
 · rw [decide_eq_false h1,decide_eq_false (show ¬1<(zaaK s i).size by omega)];rfl
theorem zav0 (hs:s.size<=600)(hy:ys.length<=600)(h0:0<=i)(h:i<s.size)(hb:zabC (zaaa s i.toNat)=false)(hl:zaaE (zaaa s i.toNat)=false)(h1:i+1<s.size)(hc:zaaa s i.toNat=58)(hd:zaaa s (i+1).toNat=58)(hQ:QT Q s ys i) :
  rJXR zaEl Q ex s e j ys zs i:=by
 obtain ⟨b1,b2,b3⟩:=jblank hb
 have hr:inR .i64 (i+1)=true:=zaag (by omega) (by omega)
 have ho:=zadX h0 h hl
 rw [hc,show zafi 58 (zaaK s i)=(5,2) from by unfold zafi;rw [if_pos rfl,if_pos (by rw [has2 h0 h 58 bCC rfl hc,decide_eq_true h1,decide_eq_true (show zaaa s (i+1).toNat=(58:UInt8).toNat from hd)];rfl)]] at ho
 rw [zavZ]
 try dsimp only
 rw [zad]
 exact ⟨decide_eq_true h,decide_eq_true ⟨h0,h⟩,b1,rfl,b2,rfl,b3,_,⟨zaaC _ _,.refl _,rfl⟩,hl,hr,decide_eq_true h1,rfl,jeq hc,rfl,rfl,hr,rfl,decide_eq_true ⟨by omega,h1⟩,rfl,jeq hd,jleaf hs hy 5 2 h0 (by decide) (by omega) (jQ 5 2 ho hQ)⟩
theorem zav2 (hs:s.size<=600)(hy:ys.length<=600)(h0:0<=i)(h:i<s.size)(hb:zabC (zaaa s i.toNat)=false)(hl:zaaE (zaaa s i.toNat)=false)(h1:i+1<s.size)(hc:zaaa s i.toNat=46)(hd:zaaa s (i+1).toNat=46)(hQ:QT Q s ys i) :
  rJXD zaEm Q ex s e j ys zs i:=by
 obtain ⟨b1,b2,b3⟩:=jblank hb
 have hr:inR .i64 (i+1)=true:=zaag (by omega) (by omega)
 have ho:=zadX h0 h hl
 rw [hc,show zafi 46 (zaaK s i)=(6,2) from by unfold zafi;rw [if_neg (by decide),if_pos rfl,if_pos (by rw [has2 h0 h 46 bDD rfl hc,decide_eq_true h1,decide_eq_true (show zaaa s (i+1).toNat=(46:UInt8).toNat from hd)];rfl)]] at ho
 rw [zav1]
 try dsimp only
 rw [zad]
 exact ⟨decide_eq_true h,decide_eq_true ⟨h0,h⟩,b1,rfl,b2,rfl,b3,_,⟨zaaC _ _,.refl _,rfl⟩,hl,hr,decide_eq_true h1,rfl,jne (by rw [hc];decide),rfl,rfl,rfl,rfl,rfl,hr,decide_eq_true h1,rfl,jeq hc,rfl,rfl,hr,rfl,decide_eq_true ⟨by omega,h1⟩,rfl,jeq hd,jleaf hs hy 6 2 h0 (by decide) (by omega) (jQ 6 2 ho hQ)⟩
theorem oneC {c:Nat}{k:Int}(ho:oneS (zaaK s i)=zafi c (zaaK s i)){n:Nat}(hc:((c:Int)==(n:Int))=true)(hk:zafi n (zaaK s i)=(k,1)):oneS (zaaK s i)=(k,1):=by grind
theorem nei {c n:Nat}(h:((c:Int)==(n:Int))=false):c≠n:=fun q=>beq_eq_false_iff_ne.1 h (by omega)
theorem zash (hs:s.size<=600)(hy:ys.length<=600)(h0:0<=i)(h:i<s.size)(hb:zabC (zaaa s i.toNat)=false)(hl:zaaE (zaaa s i.toNat)=false)(h1:¬i+1<s.size)(hc:zaaa s i.toNat≠58)(hd:zaaa s i.toNat≠46)(hk:(oneS (zaaK s i)).1≠0)(hQ:QT Q s ys i) :
  zaEc zawR Q ex s e j ys zs i:=by
 obtain ⟨b1,b2,b3⟩:=jblank hb
 have hr:inR .i64 (i+1)=true:=zaag (by omega) (by omega)
 have ho:=zadX h0 h hl
 rw [ho] at hk
 rw [zasg];delta zaik zakF zag3 zaay zanr zabE zag2
 try dsimp only
 rw [zad]
 have leaf:=fun k ho=>jleaf (ex:=ex) (s:=s) (x := .tup [s0 s,.lit (.slice none 0 0),i0 e,i0 j,.slc 1048577 [0,1] 0 zs.length]) (σ:=hpL [(1048577,⟨[0,1],.row true 3 zs⟩)]) hs hy k 1 h0 (by decide) (by omega) (jQ k 1 ho hQ)
 exact ⟨decide_eq_true h,decide_eq_true ⟨h0,h⟩,b1,rfl,b2,rfl,b3,_,⟨zaaC _ _,.refl _,rfl⟩,hl,hr,decide_eq_false h1,rfl,rfl,rfl,rfl,rfl,rfl,rfl,hr,decide_eq_false h1,rfl,rfl,rfl,rfl,rfl,rfl,rfl,
  fun g=>leaf 2 (oneC ho g rfl),fun n1=>⟨fun g=>leaf 3 (oneC ho g rfl),fun n2=>⟨fun g=>leaf 4 (oneC ho g rfl),fun n3=>⟨fun g=>⟨rfl,rfl,leaf 7 (oneC ho g rfl)⟩,fun n4=>⟨rfl,fun g=>leaf 7 (oneC ho g rfl),fun n5=>⟨fun g=>leaf 8 (oneC ho g rfl),fun n6=>⟨fun g=>leaf 9 (oneC ho g rfl),fun n7 =>
   have e:zaaa s i.toNat=33:=sgn1 hk hc hd ⟨nei n1,nei n2,nei n3,nei n4,nei n5,nei n6,nei n7⟩
   ⟨jeq e,leaf 10 (oneC ho (jeq e) rfl)⟩⟩⟩⟩⟩⟩⟩⟩
theorem zasf (hs:s.size<=600)(hy:ys.length<=600)(h0:0<=i)(h:i<s.size)(hb:zabC (zaaa s i.toNat)=false)(hl:zaaE (zaaa s i.toNat)=false)(h1:i+1<s.size)(hc:zaaa s i.toNat≠58)(hd:zaaa s i.toNat≠46)(hk:(oneS (zaaK s i)).1≠0)(hQ:QT Q s ys i) :
  zaEb zawQ Q ex s e j ys zs i:=by
 obtain ⟨b1,b2,b3⟩:=jblank hb
 have hr:inR .i64 (i+1)=true:=zaag (by omega) (by omega)
 have ho:=zadX h0 h hl
 rw [ho] at hk
 rw [zase];delta zaik zakF zag3 zaay zanr zabE zag2
 try dsimp only
 rw [zad]
 have leaf:=fun k ho=>jleaf (ex:=ex) (s:=s) (x := .tup [s0 s,.lit (.slice none 0 0),i0 e,i0 j,.slc 1048577 [0,1] 0 zs.length]) (σ:=hpL [(1048577,⟨[0,1],.row true 3 zs⟩)]) hs hy k 1 h0 (by decide) (by omega) (jQ k 1 ho hQ)
 exact ⟨decide_eq_true h,decide_eq_true ⟨h0,h⟩,b1,rfl,b2,rfl,b3,_,⟨zaaC _ _,.refl _,rfl⟩,hl,hr,decide_eq_true h1,rfl,jne hc,rfl,rfl,rfl,rfl,rfl,hr,decide_eq_true h1,rfl,jne hd,rfl,rfl,rfl,rfl,rfl,
  fun g=>leaf 2 (oneC ho g rfl),fun n1=>⟨fun g=>leaf 3 (oneC ho g rfl),fun n2=>⟨fun g=>leaf 4 (oneC ho g rfl),fun n3=>⟨fun g=>⟨rfl,rfl,leaf 7 (oneC ho g rfl)⟩,fun n4=>⟨rfl,fun g=>leaf 7 (oneC ho g rfl),fun n5=>⟨fun g=>leaf 8 (oneC ho g rfl),fun n6=>⟨fun g=>leaf 9 (oneC ho g rfl),fun n7 =>
   have e:zaaa s i.toNat=33:=sgn1 hk hc hd ⟨nei n1,nei n2,nei n3,nei n4,nei n5,nei n6,nei n7⟩
   ⟨jeq e,leaf 10 (oneC ho (jeq e) rfl)⟩⟩⟩⟩⟩⟩⟩⟩
theorem zavW (h0:0<=i)(hs:s.size<=600)(h:i<s.size)(hb:zabC (zaaa s i.toNat)=false)(hk:(oneS (zaaK s i)).1=0):∃ os,rJXX os Q s ys i:=by
 have hl:zaaE (zaaa s i.toNat)=false:=by
  cases hl:zaaE (zaaa s i.toNat) with
  | false=>rfl
  | true =>
   have hr:=zabb s i h0 (by omega)
   have hb0:zaaa (zaaK s i) 0=zaaa s i.toNat:=zacp s i.toNat 0 (by omega)
   obtain ⟨w1,w2⟩:=zai5 (s:=zaaK s i) (by omega) (by rw [hb0];exact hl)
   unfold oneS at hk
   rw [if_pos w2] at hk
   unfold zacz at hk
   simp only at hk
   split at hk
   · exact absurd hk (by decide)
   · split at hk
     · exact absurd hk (by decide)
     · split at hk
       · exact absurd hk (by decide)
       · split at hk<;>exact absurd hk (by decide)
 obtain ⟨b1,b2,b3⟩:=jblank hb
 have hr:inR .i64 (i+1)=true:=zaag (by omega) (by omega)
 have ho:=zadX h0 h hl
 rw [ho] at hk
 obtain ⟨n1,n2,n3,n4,n5,n6,n7,n8⟩:=sgn0 hk
 by_cases h1:i+1<s.size
 · by_cases hc:zaaa s i.toNat=58
   · have hd:zaaa s (i+1).toNat≠58:=by
       intro hd
       rw [hc] at hk
       unfold zafi at hk
       rw [if_pos rfl,if_pos (by rw [has2 h0 h 58 bCC rfl hc,decide_eq_true h1,decide_eq_true (show zaaa s (i+1).toNat=(58:UInt8).toNat from hd)];rfl)] at hk
       exact absurd hk (by decide)
     exact ⟨_,(zasb Q s ys i).mpr ⟨decide_eq_true h,decide_eq_true ⟨h0,h⟩,b1,rfl,b2,rfl,b3,_,⟨zaaC _ _,.refl _,rfl⟩,hl,hr,decide_eq_true h1,rfl,jeq hc,rfl,rfl,hr,rfl,decide_eq_true ⟨by omega,h1⟩,rfl,jne hd,hr,decide_eq_true h1,rfl,jne (by rw [hc];decide),rfl,rfl,rfl,rfl,rfl,jne n1,jne n2,jne n3,jne n4,rfl,jne n5,jne n6,jne n7,jne n8,rfl,.refl _,.rfl⟩⟩
   · by_cases hd:zaaa s i.toNat=46
     · have hd2:zaaa s (i+1).toNat≠46:=by
         intro hd2
         rw [hd] at hk
         unfold zafi at hk
         rw [if_neg (by decide),if_pos rfl,if_pos (by rw [has2 h0 h 46 bDD rfl hd,decide_eq_true h1,decide_eq_true (show zaaa s (i+1).toNat=(46:UInt8).toNat from hd2)];rfl)] at hk
         exact absurd hk (by decide)
       exact ⟨_,(zasa Q s ys i).mpr ⟨decide_eq_true h,decide_eq_true ⟨h0,h⟩,b1,rfl,b2,rfl,b3,_,⟨zaaC _ _,.refl _,rfl⟩,hl,hr,decide_eq_true h1,rfl,jne hc,rfl,rfl,rfl,rfl,rfl,hr,decide_eq_true h1,rfl,jeq hd,rfl,rfl,hr,rfl,decide_eq_true ⟨by omega,h1⟩,rfl,jne hd2,jne n1,jne n2,jne n3,jne n4,rfl,jne n5,jne n6,jne n7,jne n8,rfl,.refl _,.rfl⟩⟩
     · exact ⟨_,(zasc Q s ys i).mpr ⟨decide_eq_true h,decide_eq_true ⟨h0,h⟩,b1,rfl,b2,rfl,b3,_,⟨zaaC _ _,.refl _,rfl⟩,hl,hr,decide_eq_true h1,rfl,jne hc,rfl,rfl,rfl,rfl,rfl,hr,decide_eq_true h1,rfl,jne hd,rfl,rfl,rfl,rfl,rfl,jne n1,jne n2,jne n3,jne n4,rfl,jne n5,jne n6,jne n7,jne n8,rfl,.refl _,.rfl⟩⟩
 · exact ⟨_,(zasd Q s ys i).mpr ⟨decide_eq_true h,decide_eq_true ⟨h0,h⟩,b1,rfl,b2,rfl,b3,_,⟨zaaC _ _,.refl _,rfl⟩,hl,hr,decide_eq_false h1,rfl,rfl,rfl,rfl,rfl,rfl,rfl,hr,decide_eq_false h1,rfl,rfl,rfl,rfl,rfl,rfl,rfl,jne n1,jne n2,jne n3,jne n4,rfl,jne n5,jne n6,jne n7,jne n8,rfl,.refl _,.rfl⟩⟩
end
abbrev BJX (xs:List AV)(σ:Hp)(r:Ex × Back):Prop:=zab9 Tryz.prog gl0 (fn zabj).ntmps (zaaX (code zabj) 0) [0,2,3,4,5,6] (fun _=>[0,2,3,4,5]) xs σ fun _ q=>q=r
abbrev zaFA (Q:Int->List AV->Prop)(s:ByteArray)(r:Ex × Back):Spl:=⟨Int × List AV,fun q=>Q q.1 q.2,fun q=>zafy s q.2 q.1,fun q=>zaaM q.2,fun _=>r⟩
theorem zadA {X:WX}(hX:X.Sound)(hp:X.px=X0){os:Orc}{fc:List Nat}{Q:Int->List AV->Prop}{s:ByteArray}{ys:List AV}{i:Int}{r r':Ex × Back}(ih:∀ i' ys',Q i' ys'->BJX (zafy s ys' i') (zaaM ys') r')(h:rJX X os fc Q s ys i r r'):BJX (zafy s ys i) (zaaM ys) r:=by
 have hP:X.px.P=Tryz.prog:=by rw [hp];rfl
 have hg:X.px.gl=gl0:=by rw [hp];rfl
 have:=zad1 (X:=X.ask [zabj]) (hX.ask _) (f:=zabj) (fn:=fn zabj) (code:=code zabj) (by show X.px.P.funcs[zabj]?=_;rw [hP];exact fnOk zabj (by kernel_rfl)) (show (fn zabj).body=some (code zabj) by kernel_rfl) (L:=lpJX Q s r') (L':=lpJX Q s r') (l:=[zaFA Q s r']) rfl (show ([0,2,3,4,5,6]:List Nat).Nodup by decide)
  (fun s' hs' q hq=>by obtain rfl:=List.mem_singleton.1 hs';show zab9 X.px.P X.px.gl _ _ _ _ _ _ _;rw [hP,hg];exact ih q.1 q.2 hq) h
 show zab9 Tryz.prog gl0 _ _ _ _ _ _ _
 rw [<-hg,<-hP];exact this
theorem zaCt {s:ByteArray}{ex:Ex}{e j:Int}{xs zs:List AV}{σ:Hp}(h:BJX xs σ (jxR 0 ex s e j zs)):BJX xs σ (jxR 1 ex s e j zs):=by
 have hg:∀ (c k:Nat),aget (hpL [(1048577,⟨[0,c],.row true 3 zs⟩)]) k=if k=1048577 then some ⟨[0,c],.row true 3 zs⟩ else none:=by
  intro c k
  simp only [hpL]
  rw [zaad,zaax]
 refine zab9.ren1 (l:=1048577) (i:=[0,0]) (i':=[0,1]) (n:=zs.length) h ?_ ((hg 0 _).trans (if_pos rfl)) ?_ ⟨[0],rfl⟩ (hg 1) (fun k hk=>hk) (List.mem_singleton.2 rfl)
 · intro t z' ht
   simp only [mkSl,zaad,zaax] at ht ⊢
   by_cases e0:t=0
   · rw [if_pos e0] at ht ⊢;cases ht;exact ⟨_,rfl,.inl ⟨rfl,rfl⟩⟩
   rw [if_neg e0] at ht ⊢
   by_cases e2:t=2
   · rw [if_pos e2] at ht ⊢;cases ht;exact ⟨_,rfl,.inl ⟨rfl,rfl⟩⟩
   rw [if_neg e2] at ht ⊢
   by_cases e3:t=3
   · rw [if_pos e3] at ht ⊢;cases ht;exact ⟨_,rfl,.inl ⟨rfl,rfl⟩⟩
   rw [if_neg e3] at ht ⊢
   by_cases e4:t=4
   · rw [if_pos e4] at ht ⊢;cases ht;exact ⟨_,rfl,.inl ⟨rfl,rfl⟩⟩
   rw [if_neg e4] at ht ⊢
   by_cases e5:t=5
   · rw [if_pos e5] at ht ⊢;cases ht;exact ⟨_,rfl,.inr ⟨rfl,rfl⟩⟩
   rw [if_neg e5] at ht
   exact nomatch ht
 · intro k e hk
   rw [hg] at hk
   split at hk
   · assumption
   · cases hk
def JForm (r:Option Int × List Tk)(ex:Ex)(e j:Int)(zs:List AV):Prop:=match r with
 | (none,ts)=>ex = .exit 0/\e=0/\j=0/\zs=ts.map encT
 | (some j',_)=>ex = .ret/\e=15/\j=j'
attribute [local irreducible] runL in
theorem jxL (s:ByteArray)(hs:s.size<=600):∀ (f:Nat) (i:Int) (out:List Tk),0<=i->s.size-i<=f->out.length+(s.size-i)<=600->i<=s.size ->
  ∃ ex e j zs,JForm (lexG s f i out) ex e j zs/\BJX (zafy s (out.map encT) i) (zaaM (out.map encT)) (jxR 1 ex s e j zs):=by
 intro f
 induction f with
 | zero =>
  intro i out h0 h1 _ _
  exact ⟨_,_,_,_,⟨rfl,rfl,rfl,rfl⟩,zaCt (zadA zajX rfl (Q:=fun _ _=>False) (r':=jxR 0 (.exit 0) s 0 0 (out.map encT)) (fun _ _ h=>h.elim) (show rJXE (Orc.f Orc.z) _ _ _ _ from by rw [zapW];exact ⟨decide_eq_false (by omega),rfl,.refl _,.rfl⟩))⟩
 | succ f ih =>
  intro i out h0 h1 hl h2
  rw [lexG]
  by_cases hi:i<s.size
  · rw [if_pos hi]
    have hr:=zabb s i h0 h2
    have hy:(out.map encT).length<=600:=by rw [List.length_map];omega
    by_cases hb:zabC (zaaa s i.toNat)=true
    · rw [if_pos hb]
      obtain ⟨ex,e,j,zs,hF,hB⟩:=ih (i+1) out (by omega) (by omega) (by omega) (by omega)
      exact ⟨ex,e,j,zs,hF,zadA zajX rfl (Q:=fun i' ys'=>i'=i+1/\ys'=out.map encT) (fun i' ys' h=>by rw [h.1,h.2];exact hB) (zav4 hs h0 hi hb ⟨rfl,rfl⟩)⟩
    · rw [if_neg hb]
      have hb':zabC (zaaa s i.toNat)=false:=by simpa using hb
      show ∃ ex e j zs,JForm (if (oneS (zaaK s i)).1=0 then (some i,[]) else lexG s f (i+(oneS (zaaK s i)).2) (out++[zahY s i])) ex e j zs/\_
      by_cases ho:(oneS (zaaK s i)).1=0
      · rw [if_pos ho]
        obtain ⟨os,hx⟩:=zavW (Q:=fun _ _=>False) (ys:=out.map encT) h0 hs hi hb' ho
        exact ⟨_,_,_,_,⟨rfl,rfl,rfl⟩,zaCt (zadA zajX rfl (fun _ _ h=>h.elim) hx)⟩
      · rw [if_neg ho]
        have k3:=zaip (zaaK s i) (by omega) ho
        obtain ⟨ex,e,j,zs,hF,hB⟩:=ih (i+(oneS (zaaK s i)).2) (out++[zahY s i]) (by omega) (by omega) (by rw [List.length_append,List.length_singleton];omega) (by omega)
        have hQ:∀ i' ys',(i'=i+(oneS (zaaK s i)).2/\ys'=out.map encT++[encT (zahY s i)])->BJX (zafy s ys' i') (zaaM ys') (jxR 1 ex s e j zs):=fun i' ys' h=>by rw [h.1,h.2];rw [List.map_append] at hB;exact hB
        refine ⟨ex,e,j,zs,hF,?_⟩
        have hT:QT (fun i' ys'=>i'=i+(oneS (zaaK s i)).2/\ys'=out.map encT++[encT (zahY s i)]) s (out.map encT) i:=⟨rfl,rfl⟩
        cases hlt:zaaE (zaaa s i.toNat) with
        | true=>exact zadA (zaDt s (out.map encT) i hs h0 hi) rfl hQ (zavY hs hy h0 hi hb' hlt hT)
        | false =>
          have h1s:=zadX h0 hi hlt
          by_cases hlen:i+1<s.size
          · by_cases hc:zaaa s i.toNat=58
            · by_cases hd:zaaa s (i+1).toNat=58
              · exact zadA zajX rfl hQ (zav0 hs hy h0 hi hb' hlt hlen hc hd hT)
              · refine absurd ?_ ho
                have e1:hasP (zaaK s i) bDD=false:=by
                  rw [zagb _ 46 46 bDD rfl,zacp s i.toNat 0 (by omega),show zaaa s (i.toNat+0)=58 from hc]
                  simp
                rw [h1s,hc];unfold zafi
                rw [if_pos rfl,if_neg (by rw [has2 h0 hi 58 bCC rfl hc,decide_eq_true hlen,decide_eq_false (show ¬zaaa s (i+1).toNat=(58:UInt8).toNat from hd)];decide),if_neg (by rw [e1];decide)]
            · by_cases hd:zaaa s i.toNat=46
              · by_cases hd2:zaaa s (i+1).toNat=46
                · exact zadA zajX rfl hQ (zav2 hs hy h0 hi hb' hlt hlen hd hd2 hT)
                · refine absurd ?_ ho
                  rw [h1s,hd];unfold zafi
                  rw [if_neg (by decide),if_pos rfl,if_neg (by rw [has2 h0 hi 46 bDD rfl hd,decide_eq_true hlen,decide_eq_false (show ¬zaaa s (i+1).toNat=(46:UInt8).toNat from hd2)];decide)]
              · exact zadA zajX rfl hQ (zasf hs hy h0 hi hb' hlt hlen hc hd ho hT)
          · have e2:∀ a p,p=(⟨#[a,a]⟩:ByteArray)->hasP (zaaK s i) p=false:=fun a p hp=>by
              rw [zagb _ a a p hp,decide_eq_false (show ¬1<(zaaK s i).size by omega)];rfl
            have hc:zaaa s i.toNat≠58:=by
              intro hc;refine ho ?_
              rw [h1s,hc];unfold zafi
              rw [if_pos rfl,if_neg (by rw [e2 58 bCC rfl];decide),if_neg (by rw [e2 46 bDD rfl];decide)]
            have hd:zaaa s i.toNat≠46:=by
              intro hd;refine ho ?_
              rw [h1s,hd];unfold zafi
              rw [if_neg (by decide),if_pos rfl,if_neg (by rw [e2 46 bDD rfl];decide)]
            exact zadA zajX rfl hQ (zash hs hy h0 hi hb' hlt hlen hc hd ho hT)
  · rw [if_neg hi]
    exact ⟨_,_,_,_,⟨rfl,rfl,rfl,rfl⟩,zaCt (zadA zajX rfl (Q:=fun _ _=>False) (r':=jxR 0 (.exit 0) s 0 0 (out.map encT)) (fun _ _ h=>h.elim) (show rJXE (Orc.f Orc.z) _ _ _ _ from by rw [zapW];exact ⟨decide_eq_false hi,rfl,.refl _,.rfl⟩))⟩
theorem zaHf {s:ByteArray}{q:Ex × Back}(h:BJX (zafy s [] 0) (zaaM []) q):(XJ.addLp zabj 0 (lpJX (fun i ys=>i=0/\ys=[]) s q)).Sound :=
 zajX.addLp (fnOk zabj (by kernel_rfl)) (show (fn zabj).body=some (code zabj) by kernel_rfl) (by kernel_rfl)
  (Spl.ok (l:=[zaFA (fun i ys=>i=0/\ys=[]) s q]) rfl (show ([0,2,3,4,5,6]:List Nat).Nodup by decide) fun s' hs' i hi=>by
   obtain rfl:=List.mem_singleton.1 hs'
   obtain ⟨h1,h2⟩:=hi
   show BJX (zafy s i.2 i.1) (zaaM i.2) q
   rw [h1,h2];exact h)
def zaAv:LexR->AV
 | .long => .tup [.lst false 3 [],i0 5,i0 0]
 | .bad i => .tup [.lst false 3 [],i0 15,i0 i]
 | .ok ts => .tup [.lst false 3 (ts.map encT),i0 0,i0 0]
abbrev FXLex (s:ByteArray)(x:AV):Prop:=F zabj [s0 s] x
attribute [local irreducible] runF in
theorem jxFn {s:ByteArray}{q:Ex × Back}{os:Orc}{x:AV}(h:BJX (zafy s [] 0) (zaaM []) q)(hg:gJX os s q x):FXLex s x :=
 zade (X:=(XJ.addLp zabj 0 (lpJX (fun i ys=>i=0/\ys=[]) s q)).ask [zabj]) (d:=10) ((zaHf h).ask _) (f:=zabj) (fn:=fn zabj) (code:=code zabj) (fnOk zabj (by kernel_rfl)) (show (fn zabj).body=some (code zabj) by kernel_rfl) (by kernel_rfl) hg
attribute [local irreducible] runF in
theorem zauZ (s:ByteArray):FXLex s (zaAv (lexS s)):=by
 unfold lexS
 by_cases h:600<s.size
 · rw [if_pos h]
   exact zade (X:=XJ.ask [zabj]) (d:=10) (zajX.ask _) (f:=zabj) (fn:=fn zabj) (code:=code zabj) (fnOk zabj (by kernel_rfl)) (show (fn zabj).body=some (code zabj) by kernel_rfl) (by kernel_rfl) (show gJXL (Orc.t Orc.z) s from by rw [zazy];exact ⟨decide_eq_true (by omega),.tup (.cons .nilS (.refl _)),.rfl⟩)
 · rw [if_neg h]
   have hs:s.size<=600:=by omega
   obtain ⟨ex,e,j,zs,hF,hB⟩:=jxL s hs s.size 0 [] (Int.le_refl _) (by omega) (by show (0:Int)+_<=_;omega) (by omega)
   have hlen:=zac2 s s.size 0 []
   generalize lexG s s.size 0 []=R at hF hlen
   obtain ⟨_|j',ts⟩:=R
   · have hl:=hlen ts (Int.le_refl _) (by omega) rfl
     obtain ⟨rfl,rfl,rfl,rfl⟩:=hF
     have hz:ts.length<=600:=by have:((([]:List Tk).length:Nat):Int)=0:=rfl;omega
     show FXLex s (.tup [.lst false 3 ((ts++[(⟨11,s.size,ByteArray.empty⟩:Tk)]).map encT),i0 0,i0 0])
     rw [List.map_append]
     refine jxFn hB (show gJXA (Orc.f Orc.z) s (ts.map encT) from ?_)
     rw [zazA]
     try dsimp only
     rw [zad,zad]
     exact ⟨decide_eq_false (by omega),(_,_),⟨⟨rfl,rfl⟩,.refl _,rfl⟩,by simp;omega,by simp,.refl _,.rfl⟩
   · obtain ⟨rfl,rfl,rfl⟩:=hF
     refine jxFn hB (show gJXC (Orc.f Orc.z) s zs j from ?_)
     rw [zazz]
     exact ⟨decide_eq_false (by omega),(_,_),⟨⟨rfl,rfl⟩,.refl _,rfl⟩,.tup (.cons .nilS (.refl _)),.rfl⟩
end
end Go.Proofs.YtpofhijgccocpaaGreatDoor
end
section
namespace Go.TP
open Go.AS
mutual
def zaDc:Nd->Bool
 | .mk k _ _ t ks=>!(decide (k=10)&&(decide (t=wAnc)||decide (t=zak0)))&&zaAD ks
def zaAD:List Nd->Bool
 | []=>true
 | n::r=>zaDc n&&zaAD r
end
def RN.zero:RN:=⟨0,0,0,ByteArray.empty,[]⟩
def ndR (l:List RN)(k:Nat):RN:=l.getD k RN.zero
theorem Rep.inv {l:List RN}{p:Nat}{x:Nd}(h:Rep l p x):p<l.length/\(ndR l p).kind=x.kind/\(ndR l p).at_=x.at_/\(ndR l p).n=x.num/\(ndR l p).text=x.text/\(ndR l p).kids.length=x.kids.length/\(∀ b∈(ndR l p).kids,b<p) /\
  ∀ (i b:Nat) (y:Nd),(ndR l p).kids[i]?=some b->x.kids[i]?=some y->Rep l b y:=by
 cases h with
 | mk _ x ks hx hl hlt hk =>
  have e:ndR l p=x:=by unfold ndR;rw [List.getD_eq_getElem?_getD,hx];rfl
  rw [e]
  exact ⟨(List.getElem?_eq_some_iff.1 hx).1,rfl,rfl,rfl,rfl,hl,hlt,hk⟩
theorem Rep.take {l:List RN}{p:Nat}{x:Nd}(h:Rep l p x):∀ {q:Nat},p<q->Rep (l.take q) p x:=by
 induction h with
 | mk a x ks hx hl hlt hk ih =>
  intro q hq
  refine .mk a x ks ?_ hl hlt fun i b k h1 h2=>ih i b k h1 h2 (Nat.lt_trans (hlt b (List.mem_of_getElem? h1)) hq)
  rw [List.getElem?_take,if_pos hq];exact hx
end Go.TP
end
section
namespace Go.TP
open Go.AS
def Few (l:List RN):Prop:=∀ x∈l,x.kids.length<=2
theorem Few.add {s:RS}(h:Few s.out){x:RN}(hx:x.kids.length<=2):Few (addR x s).2.out:=fun y hy=>by
 rcases List.mem_append.1 hy with hy|hy
 · exact h y hy
 · rw [List.mem_singleton] at hy;subst hy;exact hx
theorem zain (e:Int)(s:RS):(zaa1 e s).out=s.out:=by unfold zaa1;split<;>rfl
theorem zaeU (s:RS):(downR s).2.out=s.out:=by
 unfold downR;split
 · exact zain 16 s
 · rfl
theorem zasu (k:Int)(s:RS):(zabz k s).2.out=s.out:=by
 unfold zabz;split
 · rfl
 · exact zain 15 s
theorem zagS {part:RS->Nat × RS}(hp:∀ s,Few s.out->Few (part s).2.out)(km:Int->Int)(is:RS->Bool):∀ (f:Nat) (r:Nat × RS),Few r.2.out->Few (zab7 part km is f r).2.out
 | 0,_,h=>h
 | f+1,r,h=>by
  rw [zab7];split
  · exact zagS hp km is f _ (Few.add (hp (zaaI r.2) h) (Nat.le_refl _))
  · exact h
theorem zaec:∀ (f:Nat) (lv:Lv) (s:RS),Few s.out->Few (RP f lv s).2.out
 | 0,_,s,h=>by rw [RP];exact h
 | f+1,.expr,s,h=>by rw [RP];exact zagS (zaec f .term) kmE isE f _ (zaec f .term s h)
 | f+1,.term,s,h=>by rw [RP];exact zagS (zaec f .part) kmT _ f _ (zaec f .part s h)
 | f+1,.part,s,h=>by
  have hd:Few (downR s).2.out:=by rw [zaeU];exact h
  rw [RP];simp only
  split
  · split
    · exact Few.add (zaec f .part _ hd) (Nat.le_succ _)
    · exact hd
  · exact zaec f .ranged s h
 | f+1,.ranged,s,h=>by
  have hd:Few (downR s).2.out:=by rw [zaeU];exact h
  have ha:=zaec f .atom s h
  have had:Few (downR (RP f .atom s).2).2.out:=by rw [zaeU];exact ha
  rw [RP];simp only
  split
  · split
    · exact Few.add (zaec f .atom _ hd) (Nat.le_succ _)
    · exact hd
  · split
    · split
      · split
        · exact Few.add (zaec f .atom _ had) (Nat.le_refl _)
        · exact Few.add had (Nat.le_succ _)
      · exact had
    · split
      · exact Few.add (zaec f .atom (zaaI (RP f .atom s).2) ha) (Nat.le_refl 2)
      · exact ha
 | f+1,.atom,s,h=>by
  have hd:Few (downR s).2.out:=by rw [zaeU];exact h
  have hdt:Few (downR (zaaI s)).2.out:=by rw [zaeU];exact h
  have hf:∀ (e:Int) {s:RS},Few s.out->Few (zaa1 e s).out:=fun e s h=>by rw [zain];exact h
  have hw:∀ (k:Int) {s:RS},Few s.out->Few (zabz k s).2.out:=fun k s h=>by rw [zasu];exact h
  rw [RP];simp only
  split
  · split
    · exact hw 3 (zaec f .expr _ hd)
    · exact hd
  · split
    · split
      · split
        · exact Few.add h (Nat.zero_le _)
        · exact hf _ h
      · split
        · exact hf _ h
        · split
          · have hq:∀ {q:List Nat × RS},q=(if zaaB (zaab s.ts).text=1 then (([]:List Nat),(downR (zaaI s)).2) else ([(RP f .expr (downR (zaaI s)).2).1],(RP f .expr (downR (zaaI s)).2).2))->q.1.length<=2/\Few q.2.out:=fun {q} e=>by
              subst e;split
              · exact ⟨Nat.zero_le _,hdt⟩
              · exact ⟨Nat.le_succ _,zaec f .expr _ hdt⟩
            generalize hQ:(if zaaB (zaab s.ts).text=1 then (([]:List Nat),(downR (zaaI s)).2) else ([(RP f .expr (downR (zaaI s)).2).1],(RP f .expr (downR (zaaI s)).2).2))=q
            obtain ⟨h1,h2⟩:=hq hQ.symm
            split
            · split
              · split
                · exact hf _ (hw 4 h2)
                · exact Few.add (s:=upR _) (hw 3 (s:=zaaI _) (hw 4 h2)) h1
              · exact Few.add (s:=upR _) (hw 3 (hw 4 h2)) h1
            · exact Few.add (s:=upR _) (hw 3 h2) h1
          · exact hdt
    · exact hf _ h
end Go.TP
end
section
namespace Go.Proofs.YtpofhijgccocpaaGreatDoor
open Go.AS Go.TP
noncomputable section
theorem hpL1 (a:Nat)(e:Ent)(k:Nat):aget (hpL [(a,e)]) k=if k=a then some e else none:=by
 simp only [hpL];rw [zaad,zaax]
theorem hpL2 (a b:Nat)(e f:Ent)(k:Nat):aget (hpL [(a,e),(b,f)]) k=if k=a then some e else if k=b then some f else none:=by
 simp only [hpL];rw [zaad,zaad,zaax]
theorem zaoH:∀ g x,gl0 g=some x->zabF x=true:=by
 intro g x h
 have h:bsel (Nat.beq g zaei) (some (.ref (zad9 eSyn))) (bsel (Nat.beq g zahK) (some (.ref (zad9 eRan))) (bsel (Nat.beq g gPow) (some powA) none))=some x:=h
 cases hb:Nat.beq g zaei
 · rw [hb,zaai] at h
   cases hb2:Nat.beq g zahK
   · rw [hb2,zaai] at h
     cases hb3:Nat.beq g gPow
     · rw [hb3,zaai] at h;cases h
     · rw [hb3,zaam] at h;cases h;rfl
   · rw [hb2,zaam] at h;cases h;rfl
 · rw [hb,zaam] at h;cases h;rfl
theorem zavH (sz:Nat)(xs:List AV)(h:zaaD xs=true):zajY (.row false sz xs) (.row true sz xs):=by
 intro E w L
 constructor
 · intro g
   cases g with
   | row h1 hx hc hs hn hb hf ho=>exact .row h1 (RR.pure_of hx h) hc hs hn hb hf ho
   | ghost _ _=>exact .ghost _ _
 · intro g
   cases g with
   | row h1 hx hc hs hn hb hf ho=>exact .row h1 ((show RR E.pure .cs xs _ from hx).mono E.pure_le) hc hs hn hb hf ho
   | ghost _ _=>exact .ghost _ _
theorem zaga (ts:List AV)(k d:Int)(xs:List AV)(bad pl:Int):zaer (xHp 0 ts k d xs bad pl) (xHpN ts k d xs bad pl):=by
 intro q
 unfold xHp xHpN
 rw [hpL2,hpL2]
 by_cases h1:q=1048577
 · rw [if_pos h1,if_pos h1];exact .inr ⟨_,_,rfl,rfl,rfl,fun _ _ _ => .rfl⟩
 · rw [if_neg h1,if_neg h1]
   by_cases h2:q=1048578
   · rw [if_pos h2,if_pos h2];exact .inr ⟨_,_,rfl,rfl,rfl,zaji 6 1048577 0 xs.length [0,0] [.lst false 3 ts,i0 k,i0 d] [i0 bad,i0 pl]⟩
   · rw [if_neg h2,if_neg h2];exact .inl ⟨rfl,rfl⟩
theorem zakO {all:List Tk}{s:RS}(h:XInv all s)(hb:s.bad=none){c:Int}{b:Bool}(hi:isR c s=b):FOk Tryz.prog gl0 fXIs [xArg,i0 c] (xHpN (all.map encT) (plc all s) s.deep (s.out.map xE) 0 0) ⟨b0 b,xHpN (all.map encT) (plc all s) s.deep (s.out.map xE) 0 0,[]⟩ :=
 FOk.same (r:=⟨b0 b,_,[]⟩) (zaga _ _ _ _ _ _) (zaga _ _ _ _ _ _) ⟨fun _ _=>rfl,fun _ e he=>⟨e,he⟩⟩ (zafG h hb hi)
theorem zakP {all:List Tk}{s:RS}(h:XInv all s)(hb:s.bad=none):FOk Tryz.prog gl0 zabG [xArg,i0 15] (xHpN (all.map encT) (plc all s) s.deep (s.out.map xE) 0 0)
  ⟨i0 0,xHpN (all.map encT) (plc all s) s.deep (s.out.map xE) (badE (zaa1 15 s)) (badP (zaa1 15 s)),[1048578]⟩:=by
 refine FOk.same (r:=⟨i0 0,_,[1048578]⟩) (zaga _ _ _ _ _ _) (zaga _ _ _ _ _ _) ⟨fun l hl => ?_,fun l e he => ?_⟩ (zakQ h hb)
 · unfold xHpN
   have:l≠1048578:=fun q=>hl (List.mem_singleton.2 q)
   rw [hpL2,hpL2,if_neg this,if_neg this]
 · unfold xHpN at he ⊢
   rw [hpL2] at he ⊢
   by_cases h1:l=1048577
   · rw [if_pos h1];exact ⟨_,rfl⟩
   · rw [if_neg h1] at he ⊢
     by_cases h2:l=1048578
     · rw [if_pos h2];exact ⟨_,rfl⟩
     · rw [if_neg h2] at he;cases he
theorem zaBV {ts:List Tk}{q:Nat × RS}(h:FOk Tryz.prog gl0 zaap [xArg] (xHp 0 (ts.map encT) 0 0 [] 0 0) ⟨i0 q.1,xS 1 ts q.2,[1048577,1048578]⟩) :
  FOk Tryz.prog gl0 zaap [.ptr 1048577 [0,0] 0 0] (xP0 (ts.map encT)) ⟨i0 q.1,xP1 (ts.map encT) (plc ts q.2) q.2.deep (q.2.out.map xE) (badE q.2) (badP q.2),[1048577,1048578]⟩:=by
 have g:=FOk.nil2 (sz:=6) (sz':=5) (n:=(q.2.out.map xE).length) (pre:=[.lst false 3 (ts.map encT),i0 0,i0 0]) (post:=[i0 0,i0 0]) (pre':=[.lst false 3 (ts.map encT),i0 (plc ts q.2),i0 q.2.deep]) (post':=[i0 (badE q.2),i0 (badP q.2)]) (ys:=q.2.out.map xE) zaoH rfl rfl rfl rfl rfl rfl
  (fun k=>by unfold xHp;rw [hpL2];rfl) (fun k=>zapF 1 ts q.2 k) h
 refine FOk.same (r:=⟨i0 q.1,_,[1048577,1048578]⟩) (fun k => ?_) (fun k => ?_) ⟨fun l hl => ?_,fun l e he => ?_⟩ g
 · unfold xP0
   rw [hpL1,hpL1]
   by_cases h1:k=1048577
   · rw [if_pos h1,if_pos h1];exact .inr ⟨_,_,rfl,rfl,rfl,zavH 6 _ rfl⟩
   · rw [if_neg h1,if_neg h1];exact .inl ⟨rfl,rfl⟩
 · unfold xP1
   rw [hpL2,hpL2]
   by_cases h1:k=1048577
   · rw [if_pos h1,if_pos h1];exact .inr ⟨_,_,rfl,rfl,rfl,zaji 6 1048578 0 (q.2.out.map xE).length [0,1] [.lst false 3 (ts.map encT),i0 (plc ts q.2),i0 q.2.deep] [i0 (badE q.2),i0 (badP q.2)]⟩
   · rw [if_neg h1,if_neg h1]
     by_cases h2:k=1048578
     · rw [if_pos h2];exact .inr ⟨_,_,rfl,rfl,rfl,fun _ _ _ => .rfl⟩
     · rw [if_neg h2];exact .inl ⟨rfl,rfl⟩
 · unfold xP0 xP1
   have n1:l≠1048577:=by rintro rfl;exact hl (by simp)
   have n2:l≠1048578:=by rintro rfl;exact hl (by simp)
   rw [hpL1,hpL2,if_neg n1,if_neg n2,if_neg n1]
 · unfold xP0 at he
   unfold xP1
   rw [hpL1] at he
   rw [hpL2]
   by_cases h1:l=1048577
   · rw [if_pos h1];exact ⟨_,rfl⟩
   · rw [if_neg h1] at he;cases he
variable {s:ByteArray}
attribute [local irreducible] runF in
theorem xpFn {X:WX}(hX:X.Sound)(hp:X.px=X0∨X.px=X0P){os:Orc}{fz:Nat}{x:AV}(g:gXP X os fz s x):F zabu [s0 s] x:=by
 have hP:X.px.P=Tryz.prog:=by rcases hp with hp|hp<;>(rw [hp];rfl)
 have hg:X.px.gl=gl0:=by rcases hp with hp|hp<;>(rw [hp];rfl)
 have:=zade (X:=X.ask (fXCut::askX)) (d:=14) (hX.ask _) (f:=zabu) (fn:=fn zabu) (code:=code zabu) (by show X.px.P.funcs[zabu]?=_;rw [hP];exact fnOk zabu (by kernel_rfl)) (show (fn zabu).body=some (code zabu) by kernel_rfl) (by kernel_rfl) g
 show FOk Tryz.prog gl0 zabu _ _ _
 rw [<-hg,<-hP];exact this
def zaBg (s:ByteArray):ParR->Prop
 | .long=>F zabu [s0 s] (.tup [zais,i0 5,i0 0])
 | .bad k a=>F zabu [s0 s] (.tup [zais,i0 k,i0 a])/\k≠0
 | .ok n=>∃ (l:List RN) (p:Nat),l.length=p+1/\l.length<=1000000/\Few l/\Rep l p n/\F zabu [s0 s] (.tup [.agg [.lst false 5 (l.map xE)],i0 0,i0 0])
theorem zaoz {ts:List Tk}(h:lexS s = .ok ts):ts.length<=1000000/\∀ t∈ts,t.text.size<=1000000:=by
 unfold lexS at h
 by_cases hs:600<s.size
 · rw [if_pos hs] at h;cases h
 · rw [if_neg hs] at h
   have hg:=zaqC s (by omega) s.size 0 []
   have hn:=zac2 s s.size 0 []
   generalize lexG s s.size 0 []=R at h hg hn
   obtain ⟨_|j,us⟩:=R
   · cases h
     have h1:=hn us (Int.le_refl _) (by omega) rfl
     have h0:((([]:List Tk).length:Nat):Int)=0:=rfl
     refine ⟨by rw [List.length_append,List.length_singleton];omega,fun t ht => ?_⟩
     rcases List.mem_append.1 ht with ht|ht
     · have:=(hg us (fun t ht=>by cases ht) rfl t ht).2;omega
     · rw [List.mem_singleton] at ht;subst ht;exact Nat.zero_le _
   · cases h
theorem zalp {r:AV}(h:F zabj [s0 s] r):zagZ Tryz.prog gl0 zabj (Sp.con [spLx s r]):=zaek (s:=spLx s r) fun _ _=>h
theorem zans (s:ByteArray):zaBg s (zagv s):=by
 have hl:=zauZ s
 have ho:=@zajA s
 have hz:=@zaoz s
 unfold zagv
 generalize lexS s=L at hl ho hz
 cases L with
 | long =>
  refine xpFn ((zauH.add (zalp hl))) (.inr rfl) (os:=Orc.t Orc.z) (fz:=0) (show gXPL _ s 5 0 from ?_)
  rw [zaqL];exact ⟨(),⟨trivial,.refl _,rfl⟩,rfl,.tup (.cons (.agg (.cons .nilS .nil)) (.refl _)),.rfl⟩
 | bad i =>
  refine ⟨xpFn ((zauH.add (zalp hl))) (.inr rfl) (os:=Orc.t Orc.z) (fz:=0) (show gXPL _ s 15 i from ?_),by decide⟩
  rw [zaqL];exact ⟨(),⟨trivial,.refl _,rfl⟩,rfl,.tup (.cons (.agg (.cons .nilS .nil)) (.refl _)),.rfl⟩
 | ok ts =>
  have hts:=ho rfl
  obtain ⟨hlen,hsz⟩:=hz rfl
  show zaBg s (zakc (PF (5*ts.length+5) .expr 0 ts))
  have hI:XInv ts ⟨ts,0,[],none⟩:=⟨List.suffix_refl _,hts,(fun p hp=>by cases hp),Int.le_refl _,by show (0:Int)<=26;decide,by omega,by show 0+ts.length<=_;omega⟩
  have hx:=zaBS hsz (5*ts.length+5) .expr ⟨ts,0,[],none⟩ hI rfl (by show (0:Int)<=24;decide) (Nat.le_refl _)
  have hag:=zaky (5*ts.length+5) .expr ⟨ts,0,[],none⟩ hts rfl (by show (0:Int)<=24;decide) (Nat.le_refl _)
  have hri:=zadQ (5*ts.length+5) .expr ⟨ts,0,[],none⟩ hts (fun p hp=>by cases hp)
  have hfw:=zaec (5*ts.length+5) .expr ⟨ts,0,[],none⟩ (fun p hp=>by cases hp)
  unfold LvOk at hx
  rw [zabD (s:=⟨ts,0,[],none⟩) rfl,show ((ts.length:Int)-((⟨ts,0,[],none⟩:RS).ts.length:Nat))=0 from Int.sub_self _] at hx
  change Agree _ (PF (5*ts.length+5) .expr 0 ts) _ at hag
  generalize RP (5*ts.length+5) .expr ⟨ts,0,[],none⟩=q at hx hag hri hfw
  generalize PF (5*ts.length+5) .expr 0 ts=r at hag
  have hE:=zaBV hx
  have hqI:XInv ts q.2:=hI.of_RI (by show (0:Int)<=24;decide) hri
  have hb0:=zauH.add (zalp (s:=s) hl)
  rcases zabT hag with ⟨x,e1,e2⟩|⟨e1,xs,e2,e3⟩
  · have hne:=hqI.bad x e2
    have hbE:badE q.2=x.1:=by unfold badE;rw [e2]
    have hbP:badP q.2=x.2:=by unfold badP;rw [e2]
    have:zakc r = .bad x.1 x.2:=by unfold zakc;rw [e1]
    rw [this]
    rw [hbE,hbP] at hE
    refine ⟨xpFn (hb0.add (Sp.one (s:=spPE (ts.map encT) q.1 (plc ts q.2) q.2.deep (q.2.out.map xE) x.1 x.2) fun _ _=>hE)) (.inr rfl) (os:=(Orc.f (Orc.f (Orc.f (Orc.f (Orc.f (Orc.t Orc.z))))))) (fz:=0) (show gXPB _ s (ts.map encT) q.1 (plc ts q.2) q.2.deep (q.2.out.map xE) x.1 x.2 from ?_),hne⟩
    rw [zayf]
    exact ⟨(),⟨trivial,.refl _,rfl⟩,rfl,(),⟨trivial,.refl _,rfl⟩,beq_eq_false_iff_ne.2 hne,rfl,rfl,rfl,bne_iff_ne.2 hne,.tup (.cons (.agg (.cons .nilS .nil)) (.refl _)),.rfl⟩
  · have hqb:q.2.bad=none:=by rw [e2]
    have hqt:q.2.ts=r.ts:=by rw [e2]
    rw [(bad0 hqb).1,(bad0 hqb).2] at hE
    have hb1:=hb0.add (f:=zaap) (Sp.one (s:=spPE (ts.map encT) q.1 (plc ts q.2) q.2.deep (q.2.out.map xE) 0 0) fun _ _=>hE)
    by_cases hk:(zaab r.ts).kind=11
    · have hp:zakc r = .ok r.n:=by unfold zakc;rw [e1];exact if_pos hk
      rw [hp]
      have hi:isR 11 q.2=true:=by rw [zabi hqb,hqt];exact decide_eq_true hk
      have hlt:q.1<xs.length:=e3.lt
      have hxs:q.2.out=xs:=by rw [e2];rfl
      have hlo:=hqI.lo
      rw [hxs] at hlo hb1
      refine ⟨xs.take (q.1+1),q.1,by rw [List.length_take];omega,by rw [List.length_take];omega,fun x hx=>hfw x (by rw [hxs];exact List.mem_of_mem_take hx),e3.take (Nat.lt_succ_self _),?_⟩
      have hIs:=zakO hqI hqb hi
      rw [hxs] at hIs
      refine xpFn (hb1.add (con1 hIs)) (.inr rfl) (os:=(Orc.f (Orc.t (Orc.t (Orc.t (Orc.f (Orc.f Orc.z))))))) (fz:=1) ?_
      have e4:(xs.take (q.1+1)).map xE=(xs.map xE).take ((q.1:Int)+1).toNat:=by rw [List.map_take];congr 1
      rw [e4]
      show gXPY _ s (ts.map encT) q.1 (plc ts q.2) q.2.deep (xs.map xE)
      have lm:(xs.map xE).length=xs.length:=List.length_map ..
      rw [zayd]
      refine ⟨(),⟨trivial,.refl _,rfl⟩,rfl,(),⟨trivial,.refl _,rfl⟩,rfl,rfl,(),⟨trivial,.refl _,rfl⟩,rfl,rfl,rfl,zaag (by omega) (by omega),?_,?_,?_,?_,?_,?_,?_,.rfl⟩
      · rw [decide_eq_true ⟨Int.le_refl _,by show (0:Int)<=(q.1:Int)+1;omega,by show (q.1:Int)+1<=_;omega⟩];rfl
      · show 0+((q.1:Int)+1-0).toNat<=_;omega
      · show 0+((q.1:Int)+1-0).toNat<=_;omega
      · show 0+((q.1:Int)+1-0).toNat<=_;omega
      · omega
      · omega
      · rw [List.drop_zero,show Int.toNat (Option.getD (some ((q.1:Int)+1)) ((xs.map xE).length:Int)-0)=((q.1:Int)+1).toNat from by show ((q.1:Int)+1-0).toNat=_;omega];exact .refl _
    · have hp:zakc r = .bad 15 (zaab r.ts).at_:=by unfold zakc;rw [e1];exact if_neg hk
      rw [hp]
      have hi:isR 11 q.2=false:=by rw [zabi hqb,hqt];exact decide_eq_false hk
      have hF:=zakP hqI hqb
      have hfb:=zabI hqb 15
      have hbE:badE (zaa1 15 q.2)=15:=by unfold badE;rw [hfb]
      have hbP:badP (zaa1 15 q.2)=(zaab r.ts).at_:=by unfold badP;rw [hfb,hqt]
      rw [hbE,hbP] at hF
      refine ⟨xpFn ((hb1.add (con1 (zakO hqI hqb hi))).add (con1 hF)) (.inr rfl) (os:=(Orc.f (Orc.t (Orc.t (Orc.t (Orc.t (Orc.t Orc.z))))))) (fz:=0) (show gXPN _ s (ts.map encT) q.1 (plc ts q.2) q.2.deep (q.2.out.map xE) 15 (zaab r.ts).at_ from ?_),by decide⟩
      rw [zaye]
      exact ⟨(),⟨trivial,.refl _,rfl⟩,rfl,(),⟨trivial,.refl _,rfl⟩,rfl,rfl,(),⟨trivial,.refl _,rfl⟩,rfl,rfl,(),⟨trivial,.refl _,rfl⟩,rfl,.tup (.cons (.agg (.cons .nilS .nil)) (.refl _)),.rfl⟩
end
end Go.Proofs.YtpofhijgccocpaaGreatDoor
end
section
namespace Go.Proofs.YtpofhijgccocpaaGreatDoor
open Go Go.AS Go.TP
theorem zayL (ns:List AV)(p k:Int)(a m:Int)(t:ByteArray):gSN0 (Orc.f (Orc.f (Orc.f (Orc.f (Orc.f (Orc.f (Orc.f (Orc.f (Orc.f (Orc.f (Orc.f (Orc.f (Orc.f (Orc.f (Orc.f (Orc.f (Orc.f (Orc.f (Orc.f (Orc.f (Orc.f (Orc.f (Orc.f (Orc.f Orc.z)))))))))))))))))))))))) ns p k a m t=(let z1:=(List.getD ns (Int.toNat p) uu);let z2:=(↑(List.length (elsA (nthA 4 z1))):Int);(decide ((0:Int)<=p/\p<(↑(List.length ns):Int))&&(true&&(zaaF (Cx.B (cxV (WX.askAt (WX.ask XB [zaa4]) zaa4 [12,13,65,66]) 12 zaa4)) shN 33 z1&&(true||false))))=true/\(k != intA (nthA 0 z1))=false/\Nf4 ((a != intA (nthA 1 z1))=false/\Nf4 ((m != intA (nthA 2 z1))=false/\Nf4 ((!ByteArray.toList t==ByteArray.toList (strA (nthA 3 z1)))=false/\Nf4 (Nf (Nf (((0:Int) != z2)=false/\decide ((0:Int)<z2)=false/\Wk (b0 true) (b0 true)/\S0))))))):=by kernel_rfl
theorem zayK (ns:List AV)(p k:Int)(a m:Int)(t:ByteArray)(k1 a1 m1:Int)(t1:ByteArray)(v1:List AV)(b:Int):gSN1 (Orc.f (Orc.f (Orc.f (Orc.f (Orc.f (Orc.f (Orc.f (Orc.f (Orc.f (Orc.f (Orc.f (Orc.f (Orc.f (Orc.f (Orc.f (Orc.f (Orc.f (Orc.f (Orc.f (Orc.f (Orc.f (Orc.f (Orc.f (Orc.t (Orc.f (Orc.f Orc.z)))))))))))))))))))))))))) ns p k a m t k1 a1 m1 t1 v1 b=(let z1:=(List.getD ns (Int.toNat p) uu);let z2:=(↑(List.length (elsA (nthA 4 z1))):Int);let z3:=(Cx.B (cxV (WX.askAt (WX.ask (XSN ns [(nV k1 a1 m1 t1 v1,b)]) [zaa4]) zaa4 [12,13,65,66]) 12 zaa4));let z4:=AV.agg [i0 k1,i0 a1,i0 m1,s0 t1,L5 v1];let z5:=(List.getD (elsA (nthA 4 z1)) 0 uu);(decide ((0:Int)<=p/\p<(↑(List.length ns):Int))&&(Nat.beq 5 5&&(zaaF z3 shN 33 z1&&(true||false))))=true/\(k != intA (nthA 0 z1))=false/\Nf4 ((a != intA (nthA 1 z1))=false/\Nf4 ((m != intA (nthA 2 z1))=false/\Nf4 ((!ByteArray.toList t==ByteArray.toList (strA (nthA 3 z1)))=false/\Nf4 (Nf (Nf (((↑(List.length [z4]):Int) != z2)=false/\decide ((0:Int)<z2)=true/\(decide ((0:Int)<=(0:Int)/\(0:Int)<z2)&&(Nat.beq 1 1&&(zaaF z3 shN 3 z5&&(false||true))))=true/\∃ (_:Unit),(True/\Wks [z4,AV.agg [L5 ns],i0 (intA z5)] [z4,AV.agg [L5 ns],i0 b]/\hpL []=hpL [])/\Nf (Yt (decide ((1:Int)<z2)=false/\Wk (b0 true) (b0 true)/\S0))))))))):=by kernel_rfl
theorem zayJ (ns:List AV)(p k:Int)(a m:Int)(t:ByteArray)(k1 a1 m1:Int)(t1:ByteArray)(v1:List AV)(k2 a2 m2:Int)(t2:ByteArray)(v2:List AV)(b c:Int):gSN2 (Orc.f (Orc.f (Orc.f (Orc.f (Orc.f (Orc.f (Orc.f (Orc.f (Orc.f (Orc.f (Orc.f (Orc.f (Orc.f (Orc.f (Orc.f (Orc.f (Orc.f (Orc.f (Orc.f (Orc.f (Orc.f (Orc.f (Orc.f (Orc.t (Orc.alt 0 (Orc.f (Orc.t (Orc.alt 1 (Orc.f (Orc.f Orc.z)))))))))))))))))))))))))))))) ns p k a m t k1 a1 m1 t1 v1 k2 a2 m2 t2 v2 b c=(let z1:=(elsA (nthA 4 (List.getD ns (Int.toNat p) uu)));let z2:=(Cx.B (cxV (WX.askAt (WX.ask (XSN ns [(nV k1 a1 m1 t1 v1,b),(nV k2 a2 m2 t2 v2,c)]) [zaa4]) zaa4 [12,13,65,66]) 12 zaa4));let z3:=(List.getD ns (Int.toNat p) uu);let z4:=(↑(List.length z1):Int);let z5:=AV.agg [i0 k1,i0 a1,i0 m1,s0 t1,L5 v1];let z6:=AV.agg [i0 k2,i0 a2,i0 m2,s0 t2,L5 v2];let z7:=AV.agg [L5 ns];(decide ((0:Int)<=p/\p<(↑(List.length ns):Int))&&(Nat.beq 5 5&&(zaaF z2 shN 33 z3&&(true||false))))=true/\(k != intA (nthA 0 z3))=false/\Nf4 ((a != intA (nthA 1 z3))=false/\Nf4 ((m != intA (nthA 2 z3))=false/\Nf4 ((!ByteArray.toList t==ByteArray.toList (strA (nthA 3 z3)))=false/\Nf4 (Nf (Nf (((↑(List.length [z5,z6]):Int) != z4)=false/\decide ((0:Int)<z4)=true/\(decide ((0:Int)<=(0:Int)/\(0:Int)<z4)&&(Nat.beq 1 1&&(zaaF z2 shN 3 (List.getD z1 0 uu)&&(false||true))))=true/\∃ (_:Unit),(True/\Wks [z5,z7,i0 (intA (List.getD z1 0 uu))] [z5,z7,i0 b]/\hpL []=hpL [])/\Nf (Yt (decide ((1:Int)<z4)=true/\(decide ((0:Int)<=(1:Int)/\(1:Int)<z4)&&(Nat.beq 1 1&&(zaaF z2 shN 3 (List.getD z1 1 uu)&&(false||true))))=true/\∃ (_:Unit),(True/\Wks [z6,z7,i0 (intA (List.getD z1 1 uu))] [z6,z7,i0 c]/\hpL []=hpL [])/\Nf (Yt (decide ((2:Int)<z4)=false/\Wk (b0 true) (b0 true)/\S0))))))))))):=by kernel_rfl
end Go.Proofs.YtpofhijgccocpaaGreatDoor
end
section
namespace Go.Proofs.YtpofhijgccocpaaGreatDoor
open Go.AS Go.TP
noncomputable section
theorem zahs {l:List RN}{p:Nat}{n:Nd}(h:Rep l p n):(l.map xE).getD (p:Int).toNat (AV.lit (Value.tuple ⟨[]⟩))=rgV n.kind n.at_ n.num n.text ((ndR l p).kids.map fun j:Nat=>i0 (j:Int))/\(p:Int)<((l.map xE).length:Int):=by
 obtain ⟨h1,h2,h3,h4,h5,_⟩:=h.inv
 rw [List.length_map,Int.toNat_natCast,List.getD_eq_getElem?_getD,List.getElem?_map]
 unfold ndR at h2 h3 h4 h5 ⊢
 rw [List.getD_eq_getElem?_getD] at h2 h3 h4 h5 ⊢
 rw [List.getElem?_eq_getElem h1] at h2 h3 h4 h5 ⊢
 refine ⟨?_,by omega⟩
 rw [<-h2,<-h3,<-h4,<-h5];rfl
theorem zaGW (k a m:Int)(t:ByteArray)(vs:List AV):zaaF (Cx.B (cxV XB 12 zaa4)) shN 33 (rgV k a m t vs)=true:=by kernel_rfl
theorem zaCb (b:Int):zaaF (Cx.B (cxV XB 12 zaa4)) shN 3 (i0 b)=true:=by kernel_rfl
theorem zaB9 (t:ByteArray):(!(t.toList==t.toList))=false:=by simp
attribute [local irreducible] runF in
theorem snFn {X:WX}(hX:X.Sound)(hp:X.px=X0){os:Orc}{n:AV}{ns:List AV}{p:Int}(g:gSN X os n ns p):F zaa4 [n,zadO ns,i0 p] (b0 true):=by
 have hP:X.px.P=Tryz.prog:=by rw [hp];rfl
 have hg:X.px.gl=gl0:=by rw [hp];rfl
 have:=zade (X:=(X.ask [zaa4]).askAt zaa4 [12,13,65,66]) (d:=12) ((hX.ask _).askAt _ _) (f:=zaa4) (fn:=fn zaa4) (code:=code zaa4) (by show X.px.P.funcs[zaa4]?=_;rw [hP];exact fnOk zaa4 (by kernel_rfl)) (show (fn zaa4).body=some (code zaa4) by kernel_rfl) (by kernel_rfl) g
 show FOk Tryz.prog gl0 zaa4 _ _ _
 rw [<-hg,<-hP];exact this
theorem snC {ns:List AV}{ks:List (AV × Int)}(h:∀ q∈ks,F zaa4 [q.1,zadO ns,i0 q.2] (b0 true)):(XSN ns ks).Sound :=
 zaaR.add (Sp.ok fun s hs i _=>by
  rw [List.mem_map] at hs
  obtain ⟨q,hq,rfl⟩:=hs
  exact h q hq)
theorem zaCf {n:Nd}(h:zaas n=true):n.kids.length<=2:=by
 obtain ⟨k,a,m,t,ks⟩:=n
 have e:=zahd (zabH.1 h).1
 show ks.length<=2
 unfold zabZ at e
 split at e
 · omega
 · split at e
   · omega
   · split at e
     · omega
     · split at e
       · split at e<;>omega
       · omega
attribute [local irreducible] runF in
theorem zarM {l:List RN}(n:Nd):zaas n=true->∀ p,Rep l p n->F zaa4 [encP n,zadO (l.map xE),i0 (p:Int)] (b0 true):=by
 refine Nd.rec (motive_1:=fun n=>zaas n=true->∀ p,Rep l p n->F zaa4 [encP n,zadO (l.map xE),i0 (p:Int)] (b0 true))
  (motive_2:=fun ks=>∀ x∈ks,zaas x=true->∀ p,Rep l p x->F zaa4 [encP x,zadO (l.map xE),i0 (p:Int)] (b0 true)) ?_ (fun x hx=>by cases hx) (fun x r h1 h2 y hy => ?_) n
 · intro k a m t ks ih hr p hR
   obtain ⟨e1,e2⟩:=zahs hR
   obtain ⟨_,_,_,_,_,hkl,hlt,hk⟩:=hR.inv
   have hks:=zaCf hr
   have hkr:=(zabH.1 hr).2
   have hlen:(ndR l p).kids.length=ks.length:=hkl
   have c1:∀ B:Tb,B=Cx.B (cxV XB 12 zaa4)->(decide ((0:Int)<=p/\(p:Int)<((l.map xE).length:Int))&&(true&&(zaaF B shN 33 ((l.map xE).getD (p:Int).toNat (AV.lit (Value.tuple ⟨[]⟩)))&&(true||false))))=true:=by
     intro B hB;subst hB
     rw [e1,zaGW,decide_eq_true ⟨by omega,e2⟩];rfl
   generalize hkk:(ndR l p).kids=kk at e1 hlen hlt hk
   match ks,kk,hlen,hks with
   | [],[],_,_ =>
     refine snFn zaaR rfl (os:=(Orc.f (Orc.f (Orc.f (Orc.f (Orc.f (Orc.f (Orc.f (Orc.f (Orc.f (Orc.f (Orc.f (Orc.f (Orc.f (Orc.f (Orc.f (Orc.f (Orc.f (Orc.f (Orc.f (Orc.f (Orc.f (Orc.f (Orc.f (Orc.f Orc.z))))))))))))))))))))))))) (show gSN0 _ (l.map xE) p k a m t from (zayL (l.map xE) p k a m t).mpr ⟨c1 _ rfl,?_⟩)
     rw [e1]
     exact ⟨bne_self_eq_false _,rfl,rfl,rfl,rfl,bne_self_eq_false _,rfl,rfl,rfl,rfl,bne_self_eq_false _,rfl,rfl,rfl,rfl,zaB9 t,rfl,rfl,rfl,rfl,rfl,rfl,rfl,rfl,.refl _,.rfl⟩
   | [x],[b],_,_ =>
     obtain ⟨k1,a1,m1,t1,ks1⟩:=x
     have hx:=ih _ (List.mem_cons_self ..) (hkr _ (List.mem_cons_self ..)) b (hk 0 b _ rfl rfl)
     refine snFn (snC (ks:=[(nV k1 a1 m1 t1 (encL ks1),(b:Int))]) fun q hq=>by rw [List.mem_singleton] at hq;subst hq;exact hx) rfl (os:=(Orc.f (Orc.f (Orc.f (Orc.f (Orc.f (Orc.f (Orc.f (Orc.f (Orc.f (Orc.f (Orc.f (Orc.f (Orc.f (Orc.f (Orc.f (Orc.f (Orc.f (Orc.f (Orc.f (Orc.f (Orc.f (Orc.f (Orc.f (Orc.t (Orc.f (Orc.f Orc.z))))))))))))))))))))))))))) (show gSN1 _ (l.map xE) p k a m t k1 a1 m1 t1 (encL ks1) b from (zayK (l.map xE) p k a m t k1 a1 m1 t1 (encL ks1) b).mpr ⟨c1 _ rfl,?_⟩)
     rw [e1]
     refine ⟨bne_self_eq_false _,rfl,rfl,rfl,rfl,bne_self_eq_false _,rfl,rfl,rfl,rfl,bne_self_eq_false _,rfl,rfl,rfl,rfl,zaB9 t,rfl,rfl,rfl,rfl,rfl,rfl,rfl,rfl,?_,(),⟨trivial,.refl _,rfl⟩,rfl,rfl,rfl,.refl _,.rfl⟩
     show (true&&(true&&(zaaF (Cx.B (cxV XB 12 zaa4)) shN 3 (i0 (b:Int))&&true)))=true
     rw [zaCb];rfl
   | [x,y],[b,c],_,_ =>
     obtain ⟨k1,a1,m1,t1,ks1⟩:=x
     obtain ⟨k2,a2,m2,t2,ks2⟩:=y
     have hx:=ih _ (List.mem_cons_self ..) (hkr _ (List.mem_cons_self ..)) b (hk 0 b _ rfl rfl)
     have hy:=ih _ (List.mem_cons_of_mem _ (List.mem_cons_self ..)) (hkr _ (List.mem_cons_of_mem _ (List.mem_cons_self ..))) c (hk 1 c _ rfl rfl)
     refine snFn (snC (ks:=[(nV k1 a1 m1 t1 (encL ks1),(b:Int)),(nV k2 a2 m2 t2 (encL ks2),(c:Int))]) fun q hq=>by
       rcases List.mem_cons.1 hq with rfl|hq
       · exact hx
       · rw [List.mem_singleton] at hq;subst hq;exact hy) rfl (os:=(Orc.f (Orc.f (Orc.f (Orc.f (Orc.f (Orc.f (Orc.f (Orc.f (Orc.f (Orc.f (Orc.f (Orc.f (Orc.f (Orc.f (Orc.f (Orc.f (Orc.f (Orc.f (Orc.f (Orc.f (Orc.f (Orc.f (Orc.f (Orc.t (Orc.alt 0 (Orc.f (Orc.t (Orc.alt 1 (Orc.f (Orc.f Orc.z))))))))))))))))))))))))))))))) (show gSN2 _ (l.map xE) p k a m t k1 a1 m1 t1 (encL ks1) k2 a2 m2 t2 (encL ks2) b c from (zayJ (l.map xE) p k a m t k1 a1 m1 t1 (encL ks1) k2 a2 m2 t2 (encL ks2) b c).mpr ⟨c1 _ rfl,?_⟩)
     rw [e1]
     refine ⟨bne_self_eq_false _,rfl,rfl,rfl,rfl,bne_self_eq_false _,rfl,rfl,rfl,rfl,bne_self_eq_false _,rfl,rfl,rfl,rfl,zaB9 t,rfl,rfl,rfl,rfl,rfl,rfl,rfl,rfl,?_,(),⟨trivial,.refl _,rfl⟩,rfl,rfl,rfl,?_,(),⟨trivial,.refl _,rfl⟩,rfl,rfl,rfl,.refl _,.rfl⟩
     · show (true&&(true&&(zaaF (Cx.B (cxV XB 12 zaa4)) shN 3 (i0 (b:Int))&&true)))=true
       rw [zaCb];rfl
     · show (true&&(true&&(zaaF (Cx.B (cxV XB 12 zaa4)) shN 3 (i0 (c:Int))&&true)))=true
       rw [zaCb];rfl
 · rcases List.mem_cons.1 hy with rfl|hy
   · exact h1
   · exact h2 y hy
theorem zaxt:FE zamD [] (b0 true):=zaBm (n:=1000) (by kernel_rfl)
end
end Go.Proofs.YtpofhijgccocpaaGreatDoor
end
section
namespace Go.Proofs.YtpofhijgccocpaaGreatDoor
open Go.AS Go.TP Go.RowKit Go.Sort
noncomputable section
theorem zaAu (vals:Array Value)(w:World):(callFunc zao5 vals).run Tryz.prog w = .ok (.enter zao5 vals) w:=by
 have h0:(program).run Tryz.prog w = .ok Tryz.prog w:=rfl
 have hf:Tryz.prog.funcs[zao5]?=some (fn zao5):=fnOk zao5 (by kernel_rfl)
 have hn:((fn zao5).name == "runtime.NumGoroutine")=false:=by kernel_rfl
 have hb:(fn zao5).body.isNone=false:=by kernel_rfl
 simp only [callFunc,Sem.run_bind,h0,Result.andThen_ok,hf,hn,hb,Bool.false_eq_true,if_false,Sem.run_pure]
theorem zafX:∀ l:List Int,zaiB (l.map fun z => .lit (.int .u64 z))=some (l.map fun z => .int .u64 z)
 | []=>rfl
 | z::l=>by rw [List.map_cons,zaiB,zafX l];rfl
theorem zawF {E:Env}{w:World}(hg:GLr gl0 E)(hh:Holds E .nil w):Lib.TabIs Tryz.prog w "internal/strconv.uint64pow10" .u64 Lib.pow10Tab:=by
 obtain ⟨t,fz,h⟩:=(hg gPow powA rfl).tab (powL.map fun z => .int .u64 z) (zafX powL)
 have h2:=hh.imm _ _ h
 have e1:Tryz.prog.globalNamed "internal/strconv.uint64pow10" = some gPow:=by kernel_rfl
 have e2:Lib.pow10Tab=powL:=by decide +kernel
 unfold Lib.TabIs World.var?
 rw [e1,Option.bind_some,h2,e2]
theorem zaxA (n:Int)(h0 : -9223372036854775808<=n)(h1:n<=9223372036854775807):F zao5 [i0 n] (s0 ⟨(Lib.itoa n).toArray⟩):=by
 intro E w vals hg hh hf _ hv
 obtain ⟨u,us,k1,k2,rfl⟩:=hv.vs_cons_inv
 have:=k1.lit_inv;subst this
 have:=k2.vs_nil_inv;subst this
 refine .inl ⟨zaAu _ w,(Tryz.strconv_Itoa n h0 h1 w (zawF hg hh)).mono ?_⟩
 rintro e w' ⟨rfl,k,os,rfl⟩
 have hb:Below w.heap.size w (grow (w.drewN k) os) :=
  ⟨rfl,rfl,rfl,by show w.heap.size<=(w.heap++os).size;rw [Array.size_append];omega,fun j hj=>by show (w.heap++os)[j]?=w.heap[j]?;rw [Array.getElem?_append_left hj]⟩
 obtain ⟨g1,g2⟩:=zad4 hh hb
 exact ⟨_,rfl,.z,_,E,rfl,⟨fun l _=>rfl,fun l e he=>⟨e,he⟩⟩,.lit _,g1,g2⟩
end
end Go.Proofs.YtpofhijgccocpaaGreatDoor
end
section
namespace Go.Proofs.YtpofhijgccocpaaGreatDoor
open Go.AS Go.TP
noncomputable section
abbrev tErr:Nat:=47
abbrev zajb:Nat:=223
abbrev zaB5:Nat:=197
abbrev tU64:Nat:=190
abbrev tInt:Nat:=3
abbrev zaDL:Nat:=22
noncomputable def zaHA:Array (String × TypeId):=match Tryz.prog.underlying tErr with|some (.interface ms)=>ms|_ => #[]
noncomputable def errF:Field:=match Tryz.prog.underlying zajb with|some (.struct fs)=>fs.getD 0 default|_=>default
theorem zaDE:Tryz.prog.underlying tErr=some (.interface zaHA):=by kernel_rfl
theorem zave:Tryz.prog.underlying zab2=some (.pointer zajb):=by kernel_rfl
theorem zavd:Tryz.prog.underlying zajb=some (.struct #[errF]):=by kernel_rfl
theorem zavf:Tryz.prog.underlying errF.type=some .string:=by kernel_rfl
theorem zaxi:errF.offset=0:=by kernel_rfl
theorem zaAH:Tryz.prog.cellsOf zajb=1:=by kernel_rfl
theorem zaAI:Tryz.prog.cellsOf errF.type=1:=by kernel_rfl
theorem zaGE:Tryz.prog.underlying zaB5=some (.array 20 tU64):=by kernel_rfl
theorem zaGD:Tryz.prog.underlying tU64=some (.int .u64):=by kernel_rfl
theorem zaHC:Tryz.prog.cellsOf tU64=1:=by kernel_rfl
theorem zaHD:Tryz.prog.cellsOf zaB5=20:=by kernel_rfl
theorem zarn:Tryz.prog.underlying zaDL=some (.slice tInt):=by kernel_rfl
theorem zaGF:Tryz.prog.underlying tInt=some (.int .i64):=by kernel_rfl
theorem zaHE:Tryz.prog.cellsOf tInt=1:=by kernel_rfl
theorem zaok:((List.range Tryz.prog.types.size).all fun u=>!(decide (Tryz.prog.typeName? 3 u=some "*errors.errorString"))||Nat.beq u zab2)=true:=by kernel_rfl
theorem zaxm:(Tryz.prog.types.toList.all fun i=>!(decide (i.str = "errors.errorString"))||match i.desc with | .bool | .int _ | .float _ | .string=>false|_=>true)=true:=by kernel_rfl
theorem zajt (u:TypeId)(h:Tryz.prog.typeName? 3 u=some "*errors.errorString"):u=zab2:=zao8 zaok zaxm u h
abbrev dErr (bs:List UInt8):DataW Unit := .iface "*errors.errorString" (.ptr (.agg [.lit (.string bs)]))
theorem zaCB {l:List (String × DataW Unit)} {W:World} (h:laidMet Tryz.prog l W) (m1:("strconv.ErrSyntax",dErr eSyn.data.toList)∈l) (m2:("strconv.ErrRange",dErr eRan.data.toList)∈l)
  (m3:("internal/strconv.uint64pow10",(Lib.tabData .u64 powL:DataW Unit))∈l) (g:Nat) (x:AV) (hx:gl0 g=some x):GV ⟨fun _=>none,fun b=>W.heap[b]?⟩ x g:=by
 have hx:bsel (Nat.beq g zaei) (some (.ref (zad9 eSyn))) (bsel (Nat.beq g zahK) (some (.ref (zad9 eRan))) (bsel (Nat.beq g gPow) (some powA) none))=some x:=hx
 cases hb:Nat.beq g zaei
 · rw [hb,zaai] at hx
   cases hb2:Nat.beq g zahK
   · rw [hb2,zaai] at hx
     cases hb3:Nat.beq g gPow
     · rw [hb3,zaai] at hx;cases hx
     · rw [hb3,zaam] at hx;cases hx
       obtain rfl:=Nat.eq_of_beq_eq_true hb3
       exact zavl h m3 (t:=zaB5) (by kernel_rfl) (by kernel_rfl) zaGE zaGD zaHC zaHD
   · rw [hb2,zaam] at hx;cases hx
     obtain rfl:=Nat.eq_of_beq_eq_true hb2
     exact zaqT h m2 (t:=tErr) (by kernel_rfl) (by kernel_rfl) zaDE zajt zave zavd zaxi zavf zaAH zaAI
 · rw [hb,zaam] at hx;cases hx
   obtain rfl:=Nat.eq_of_beq_eq_true hb
   exact zaqT h m1 (t:=tErr) (by kernel_rfl) (by kernel_rfl) zaDE zajt zave zavd zaxi zavf zaAH zaAI
theorem zapU {H:Type}{enc:TypeId × Value->H}{W:World}{spare:Nat->Bool}{held:Bool}{n:Nat}{v:Value}{d:DataW H}{p:List MemPlace}(h:DataW.trod enc Tryz.prog W 0 spare held n zaDL [v]=some (d,p)) :
  ∃ xs:List Int,VR ⟨fun _=>none,fun b=>W.heap[b]?⟩ (.lst false 1 (xs.map i0)) v/\∀ x∈xs,-9223372036854775808<=x/\x<9223372036854775808:=by
 obtain ⟨xs,h1,h2⟩:=zanY zarn zaGF zaHE h
 refine ⟨xs,h1,fun x hx => ?_⟩
 have e1:IntKind.min .i64 = -9223372036854775808:=rfl
 have e2:IntKind.max .i64=9223372036854775807:=rfl
 have:=h2 x hx
 omega
end
end Go.Proofs.YtpofhijgccocpaaGreatDoor
end
section
namespace Go.Proofs.YtpofhijgccocpaaGreatDoor
open Go.AS Go.TP
noncomputable section
theorem zavB:X0E.Sound:=by
 refine ⟨zaic.1,fun g x h => ?_,fun f g h => ?_⟩
 · exact zavy.2 g x h
 · have h:bsel (Nat.beq f zabO) (some (pureX Tryz.prog Extern.BytealgIndexByte.indexByte)) none=some g:=h
   cases hb:Nat.beq f zabO
   · rw [hb,zaai] at h;cases h
   · rw [hb,zaam] at h;cases h
     obtain rfl:=Nat.eq_of_beq_eq_true hb
     exact zacq (C:=cx X0E zabO fun _ _ _ _ _=>none) zasS
theorem zaDv:XBE.Sound := .base zavB
theorem zab9.glob {P:Program}{gl gl':Nat->Option AV}{n:Nat}{x:Code}{ins:List Nat}{outs:Ex->List Nat}{ys:List AV}{σ:Hp}{K:Orc->Ex × Back->Prop}(hg:∀ g x,gl g=some x->gl' g=some x)(h:zab9 P gl n x ins outs ys σ K):zab9 P gl' n x ins outs ys σ K :=
 fun E w a hG hh hf hv=>h E w a (fun g x hx=>hG g x (hg g x hx)) hh hf hv
theorem conE {f:Nat}{xs:List AV}{r:AV}(h:FE f xs r):zagZ Tryz.prog glE f (Sp.con [spQ xs r]):=Sp.one (s:=spQ xs r) fun _ _=>h
theorem toE {f:Nat}{xs:List AV}{r:AV}(h:F f xs r):FE f xs r:=FOk.glob zaxL h
theorem zaBY (ns:List AV)(h:ns.length<=1000000):F fTop [zadO ns] (i0 ((ns.length:Int)-1)) :=
 F_ok zaaR rfl (by kernel_rfl) (by kernel_rfl) (by kernel_rfl) (show gTop (Orc.z) ns from by rw [zayB];exact ⟨zaag (by omega) (by omega),.refl _,.rfl⟩)
theorem zakb {s:ByteArray}{n:Nd}(h:zagv s = .ok n):zaas n=true:=by
 have ho:=@zajA s
 unfold zagv at h
 generalize lexS s=L at h ho
 cases L with
 | long=>cases h
 | bad i=>cases h
 | ok us =>
  have hk:=ho rfl
  have g:=zakK (5*us.length+5) .expr 0 us hk (Nat.le_refl _)
  change zakc (PF (5*us.length+5) .expr 0 us) = .ok n at h
  generalize PF (5*us.length+5) .expr 0 us=r at h g
  unfold zakc at h
  cases he:r.e with
  | some x=>obtain ⟨a,b⟩:=x;rw [he] at h;cases h
  | none =>
   rw [he] at h
   by_cases h11:(zaab r.ts).kind=11
   · have h:(if (zaab r.ts).kind=11 then ParR.ok r.n else .bad 15 (zaab r.ts).at_) = .ok n:=h
     rw [if_pos h11] at h;cases h
     exact g he
   · have h:(if (zaab r.ts).kind=11 then ParR.ok r.n else .bad 15 (zaab r.ts).at_) = .ok n:=h
     rw [if_neg h11] at h;cases h
attribute [local irreducible] runF runL lawW
end
end Go.Proofs.YtpofhijgccocpaaGreatDoor
end
section
namespace Go.Proofs.YtpofhijgccocpaaGreatDoor
open Go.AS Go.TP
noncomputable section
abbrev zaao:Nat:=35
abbrev spXN (ns:List AV)(P:Int × List AV->Prop):Sp := .pure (Int × List AV) P (fun q=>[zadO ns,i0 q.1]) (fun q => .lst false 1 q.2)
def gXNm (X:WX)(os:Orc)(ns:List AV)(p:Int)(r:List AV):Prop:=runF ((X.ask [zaao]).askAt zaao [10,12,20,22,32,34,36,37,39]) 12 zaao (fn zaao) (code zaao) os 1 [] [zadO ns,i0 p] .nil ⟨.lst false 1 r,.nil,[]⟩
def zaFE (os:Orc)(ns:List AV)(p:Int):Prop:=gXNm XB os ns p [i0 p]
def zaFH (os:Orc)(ns:List AV)(p:Int):Prop:=gXNm XB os ns p []
def zaFG (os:Orc)(ns:List AV)(p:Int)(P:Int × List AV->Prop)(r:List AV):Prop:=gXNm (XB.add zaao (Sp.con [spXN ns P])) os ns p r
def zaFF (os:Orc)(ns:List AV)(p:Int)(P:Int × List AV->Prop)(r s:List AV):Prop:=gXNm (XB.add zaao (Sp.con [spXN ns P])) os ns p (r++s)
end
end Go.Proofs.YtpofhijgccocpaaGreatDoor
end
section
namespace Go.Proofs.YtpofhijgccocpaaGreatDoor
open Go Go.AS Go.TP
noncomputable abbrev zaEh (p:Int)(ns:List AV)(P:Int × List AV->Prop):=(decide ((0:Int)<=p/\p<(↑(List.length ns):Int))&&(Nat.beq 5 5&&(zaaF (Cx.B (cxV (WX.askAt (WX.ask (WX.add XB zaao (Sp.con [spXN ns P])) [zaao]) zaao [10,12,20,22,32,34,36,37,39]) 12 zaao)) shN 33 (List.getD ns (Int.toNat p) uu)&&(true||false))))
theorem zasV (ns:List AV)(p:Int):zaFE (Orc.t Orc.z) ns p=((decide ((0:Int)<=p/\p<(↑(List.length ns):Int))&&(true&&(zaaF (Cx.B (cxV (WX.askAt (WX.ask XB [zaao]) zaao [10,12,20,22,32,34,36,37,39]) 12 zaao)) shN 33 (List.getD ns (Int.toNat p) uu)&&(true||false))))=true/\(intA (nthA 0 (List.getD ns (Int.toNat p) uu))==1)=true/\Wk (AV.lst true 1 [i0 p]) (L1 [i0 p])/\S0):=by kernel_rfl
theorem zasY (ns:List AV)(p:Int):zaFH (Orc.f (Orc.f Orc.z)) ns p=(let z1:=(decide ((0:Int)<=p/\p<(↑(List.length ns):Int))&&(true&&(zaaF (Cx.B (cxV (WX.askAt (WX.ask XB [zaao]) zaao [10,12,20,22,32,34,36,37,39]) 12 zaao)) shN 33 (List.getD ns (Int.toNat p) uu)&&(true||false))));z1=true/\(intA (nthA 0 (List.getD ns (Int.toNat p) uu))==1)=false/\z1=true/\decide ((0:Int)<(↑(List.length (elsA (nthA 4 (List.getD ns (Int.toNat p) uu)))):Int))=false/\Wk (AV.lit (Value.slice none 0 0)) (L1 [])/\S0):=by kernel_rfl
theorem zasX (ns:List AV)(p:Int)(P:Int × List AV->Prop)(r:List AV):zaFG (Orc.f (Orc.t (Orc.f Orc.z))) ns p P r=(let z1:=(elsA (nthA 4 (List.getD ns (Int.toNat p) uu)));let z2:=(↑(List.length z1):Int);let z3:=(zaEh p ns P);z3=true/\(intA (nthA 0 (List.getD ns (Int.toNat p) uu))==1)=false/\z3=true/\decide ((0:Int)<z2)=true/\z3=true/\(decide ((0:Int)<=(0:Int)/\(0:Int)<z2)&&(Nat.beq 1 1&&(zaaF (Cx.B (cxV (WX.askAt (WX.ask (WX.add XB zaao (Sp.con [spXN ns P])) [zaao]) zaao [10,12,20,22,32,34,36,37,39]) 12 zaao)) shN 3 (List.getD z1 0 uu)&&(false||true))))=true/\∃ (i1:Int × List AV),(P i1/\Wks [AV.agg [L5 ns],i0 (intA (List.getD z1 0 uu))] [AV.agg [L5 ns],i0 (Prod.fst i1)]/\hpL []=hpL [])/\decide (List.length (Prod.snd i1)*8<=140737488355328/\List.length (Prod.snd i1)<=1152921504606846976)=true/\Yt (z3=true/\decide ((1:Int)<z2)=false/\0+List.length (Prod.snd i1)<=List.length (Prod.snd i1)/\Wk (L1 (List.take (List.length (Prod.snd i1)) (List.drop 0 (Prod.snd i1)))) (L1 r)/\S0)):=by kernel_rfl
def zawZ:Orc:=Orc.f (Orc.t (Orc.t (Orc.f Orc.z)))
theorem zasW (ns:List AV)(p:Int)(P:Int × List AV->Prop)(r s:List AV):zaFF zawZ ns p P r s=(let z1:=(elsA (nthA 4 (List.getD ns (Int.toNat p) uu)));let z2:=(Cx.B (cxV (WX.askAt (WX.ask (WX.add XB zaao (Sp.con [spXN ns P])) [zaao]) zaao [10,12,20,22,32,34,36,37,39]) 12 zaao));let z3:=(↑(List.length z1):Int);let z4:=(zaEh p ns P);let z5:=AV.agg [L5 ns];z4=true/\(intA (nthA 0 (List.getD ns (Int.toNat p) uu))==1)=false/\z4=true/\decide ((0:Int)<z3)=true/\z4=true/\(decide ((0:Int)<=(0:Int)/\(0:Int)<z3)&&(Nat.beq 1 1&&(zaaF z2 shN 3 (List.getD z1 0 uu)&&(false||true))))=true/\∃ (i1:Int × List AV),(P i1/\Wks [z5,i0 (intA (List.getD z1 0 uu))] [z5,i0 (Prod.fst i1)]/\hpL []=hpL [])/\decide (List.length (Prod.snd i1)*8<=140737488355328/\List.length (Prod.snd i1)<=1152921504606846976)=true/\Yt (z4=true/\decide ((1:Int)<z3)=true/\z4=true/\(decide ((0:Int)<=(1:Int)/\(1:Int)<z3)&&(Nat.beq 1 1&&(zaaF z2 shN 3 (List.getD z1 1 uu)&&(false||true))))=true/\∃ (i2:Int × List AV),(P i2/\Wks [z5,i0 (intA (List.getD z1 1 uu))] [z5,i0 (Prod.fst i2)]/\hpL []=hpL [])/\(true&&(Nat.beq 1 1&&Nat.ble (0+List.length (Prod.snd i1)) (List.length (Prod.snd i1)))&&(Nat.beq 1 1&&decide (List.length (List.take (List.length (Prod.snd i1)) (List.drop 0 (Prod.snd i1))++Prod.snd i2)*8<=140737488355328/\List.length (List.take (List.length (Prod.snd i1)) (List.drop 0 (Prod.snd i1))++Prod.snd i2)<=1152921504606846976)))=true/\Yt (z4=true/\decide ((2:Int)<z3)=false/\0+List.length (List.take (List.length (Prod.snd i1)) (List.drop 0 (Prod.snd i1))++Prod.snd i2)<=List.length (List.take (List.length (Prod.snd i1)) (List.drop 0 (Prod.snd i1))++Prod.snd i2)/\Wk (L1 (List.take (List.length (List.take (List.length (Prod.snd i1)) (List.drop 0 (Prod.snd i1))++Prod.snd i2)) (List.drop 0 (List.take (List.length (Prod.snd i1)) (List.drop 0 (Prod.snd i1))++Prod.snd i2)))) (L1 (r++s))/\S0))):=by kernel_rfl
end Go.Proofs.YtpofhijgccocpaaGreatDoor
end
